/- What the functions of program, reference and law give, as plain functions, and that they meet them (part 1). Conditions: none. Written by a program of my own (vp.py). -/
import Derived.Test.YtcbhhbkghbnljaaGreatDoorSh
import Derived.Test.YtcbhhbkghbnljaaGreatDoorVc
import Derived.Test.YtcbhhbkghbnljaaGreatDoorProg
import Derived.BigQuiet
import Derived.Deep.DeepCutAuto
import Derived.Deep.LoopGhost
import Derived.Deep.OwnRows
import Derived.Deep.RegionLaw
import Derived.Laws.CopyOwn
import Derived.Laws.MakeOwn
import Derived.Tactics
import Derived.WalkKit
set_option linter.unusedVariables false
set_option maxRecDepth 100000
noncomputable section
namespace Go.Proofs.YtcbhhbkghbnljaaGreatDoor.Vf
open Go Go.V Go.RowKit Go.Proofs
def tbl : List (Nat × TI) := [(1, ⟨.fn, 1, 8, [.nilFunc]⟩), (2, ⟨.int .i64, 1, 8, [.int .i64 0]⟩), (3, ⟨.int .i64, 1, 8, [.int .i64 0]⟩), (4, ⟨.bool, 1, 1, [.bool false]⟩), (5, ⟨.int .u8, 1, 1, [.int .u8 0]⟩), (6, ⟨.int .u8, 1, 1, [.int .u8 0]⟩), (7, ⟨.struct true [(0, 2), (1, 3), (2, 4), (3, 6)], 4, 24, [.int .i64 0, .int .i64 0, .bool false, .int .u8 0]⟩), (8, ⟨.struct true [(0, 2), (1, 3), (2, 4), (3, 6)], 4, 24, [.int .i64 0, .int .i64 0, .bool false, .int .u8 0]⟩), (9, ⟨.str, 1, 16, [.string ByteArray.empty]⟩), (10, ⟨.str, 1, 16, [.string ByteArray.empty]⟩), (11, ⟨.str, 1, 16, [.string ByteArray.empty]⟩), (12, ⟨.int .u64, 1, 8, [.int .u64 0]⟩), (13, ⟨.struct false [(0, 9), (1, 12)], 2, 24, [.string ByteArray.empty, .int .u64 0]⟩), (14, ⟨.struct false [(0, 9), (1, 12)], 2, 24, [.string ByteArray.empty, .int .u64 0]⟩), (15, ⟨.ptr 197, 1, 8, [.pointer none]⟩), (16, ⟨.ptr 200, 1, 8, [.pointer none]⟩), (17, ⟨.ptr 208, 1, 8, [.pointer none]⟩), (18, ⟨.struct false [(0, 17)], 1, 8, [.pointer none]⟩), (19, ⟨.struct false [(0, 17)], 1, 8, [.pointer none]⟩), (21, ⟨.int .i32, 1, 4, [.int .i32 0]⟩), (22, ⟨.slice 5, 1, 24, [.slice none 0 0]⟩), (23, ⟨.fn, 1, 8, [.nilFunc]⟩), (24, ⟨.slice 2, 1, 24, [.slice none 0 0]⟩), (25, ⟨.struct true [(0, 24)], 1, 24, [.slice none 0 0]⟩), (26, ⟨.struct true [(0, 24)], 1, 24, [.slice none 0 0]⟩), (27, ⟨.fn, 1, 8, [.nilFunc]⟩), (29, ⟨.fn, 1, 8, [.nilFunc]⟩), (30, ⟨.fn, 1, 8, [.nilFunc]⟩), (32, ⟨.fn, 1, 8, [.nilFunc]⟩), (33, ⟨.fn, 1, 8, [.nilFunc]⟩), (35, ⟨.fn, 1, 8, [.nilFunc]⟩), (36, ⟨.struct true [(0, 24)], 1, 24, [.slice none 0 0]⟩), (37, ⟨.struct true [(0, 24)], 1, 24, [.slice none 0 0]⟩), (39, ⟨.fn, 1, 8, [.nilFunc]⟩), (40, ⟨.fn, 1, 8, [.nilFunc]⟩), (42, ⟨.fn, 1, 8, [.nilFunc]⟩), (43, ⟨.fn, 1, 8, [.nilFunc]⟩), (44, ⟨.fn, 1, 8, [.nilFunc]⟩), (45, ⟨.fn, 1, 8, [.nilFunc]⟩), (47, ⟨.fn, 1, 8, [.nilFunc]⟩), (49, ⟨.fn, 1, 8, [.nilFunc]⟩), (50, ⟨.fn, 1, 8, [.nilFunc]⟩), (51, ⟨.fn, 1, 8, [.nilFunc]⟩), (53, ⟨.fn, 1, 8, [.nilFunc]⟩), (54, ⟨.slice 24, 1, 24, [.slice none 0 0]⟩), (56, ⟨.fn, 1, 8, [.nilFunc]⟩), (57, ⟨.fn, 1, 8, [.nilFunc]⟩), (58, ⟨.fn, 1, 8, [.nilFunc]⟩), (59, ⟨.int .u64, 1, 8, [.int .u64 0]⟩), (60, ⟨.fn, 1, 8, [.nilFunc]⟩), (61, ⟨.fn, 1, 8, [.nilFunc]⟩), (62, ⟨.fn, 1, 8, [.nilFunc]⟩), (63, ⟨.fn, 1, 8, [.nilFunc]⟩), (64, ⟨.fn, 1, 8, [.nilFunc]⟩), (65, ⟨.fn, 1, 8, [.nilFunc]⟩), (67, ⟨.fn, 1, 8, [.nilFunc]⟩), (68, ⟨.ptr 132, 1, 8, [.pointer none]⟩), (69, ⟨.fn, 1, 8, [.nilFunc]⟩), (70, ⟨.fn, 1, 8, [.nilFunc]⟩), (71, ⟨.fn, 1, 8, [.nilFunc]⟩), (72, ⟨.fn, 1, 8, [.nilFunc]⟩), (73, ⟨.fn, 1, 8, [.nilFunc]⟩), (74, ⟨.fn, 1, 8, [.nilFunc]⟩), (75, ⟨.fn, 1, 8, [.nilFunc]⟩), (76, ⟨.fn, 1, 8, [.nilFunc]⟩), (77, ⟨.fn, 1, 8, [.nilFunc]⟩), (78, ⟨.fn, 1, 8, [.nilFunc]⟩), (79, ⟨.fn, 1, 8, [.nilFunc]⟩), (80, ⟨.fn, 1, 8, [.nilFunc]⟩), (82, ⟨.fn, 1, 8, [.nilFunc]⟩), (83, ⟨.fn, 1, 8, [.nilFunc]⟩), (84, ⟨.fn, 1, 8, [.nilFunc]⟩), (85, ⟨.fn, 1, 8, [.nilFunc]⟩), (86, ⟨.ptr 96, 1, 8, [.pointer none]⟩), (88, ⟨.fn, 1, 8, [.nilFunc]⟩), (89, ⟨.map 2 3, 1, 8, [.map none]⟩), (91, ⟨.fn, 1, 8, [.nilFunc]⟩), (92, ⟨.map 2 2, 1, 8, [.map none]⟩), (93, ⟨.slice 92, 1, 24, [.slice none 0 0]⟩), (94, ⟨.slice 4, 1, 24, [.slice none 0 0]⟩), (95, ⟨.struct true [(0, 37), (1, 93), (2, 94)], 3, 72, [.slice none 0 0, .slice none 0 0, .slice none 0 0]⟩), (96, ⟨.struct true [(0, 37), (1, 93), (2, 94)], 3, 72, [.slice none 0 0, .slice none 0 0, .slice none 0 0]⟩), (97, ⟨.fn, 1, 8, [.nilFunc]⟩), (98, ⟨.fn, 1, 8, [.nilFunc]⟩), (99, ⟨.ptr 102, 1, 8, [.pointer none]⟩), (100, ⟨.map 9 4, 1, 8, [.map none]⟩), (101, ⟨.struct true [(0, 37), (1, 2), (2, 24), (3, 100)], 4, 64, [.slice none 0 0, .int .i64 0, .slice none 0 0, .map none]⟩), (102, ⟨.struct true [(0, 37), (1, 2), (2, 24), (3, 100)], 4, 64, [.slice none 0 0, .int .i64 0, .slice none 0 0, .map none]⟩), (103, ⟨.fn, 1, 8, [.nilFunc]⟩), (104, ⟨.fn, 1, 8, [.nilFunc]⟩), (106, ⟨.fn, 1, 8, [.nilFunc]⟩), (107, ⟨.ptr 141, 1, 8, [.pointer none]⟩), (108, ⟨.fn, 1, 8, [.nilFunc]⟩), (109, ⟨.fn, 1, 8, [.nilFunc]⟩), (110, ⟨.struct true [(0, 2), (1, 2)], 2, 16, [.int .i64 0, .int .i64 0]⟩), (111, ⟨.struct true [(0, 2), (1, 2)], 2, 16, [.int .i64 0, .int .i64 0]⟩), (113, ⟨.fn, 1, 8, [.nilFunc]⟩), (114, ⟨.fn, 1, 8, [.nilFunc]⟩), (115, ⟨.fn, 1, 8, [.nilFunc]⟩), (117, ⟨.fn, 1, 8, [.nilFunc]⟩), (118, ⟨.fn, 1, 8, [.nilFunc]⟩), (119, ⟨.fn, 1, 8, [.nilFunc]⟩), (120, ⟨.fn, 1, 8, [.nilFunc]⟩), (121, ⟨.fn, 1, 8, [.nilFunc]⟩), (122, ⟨.fn, 1, 8, [.nilFunc]⟩), (123, ⟨.fn, 1, 8, [.nilFunc]⟩), (124, ⟨.fn, 1, 8, [.nilFunc]⟩), (125, ⟨.fn, 1, 8, [.nilFunc]⟩), (126, ⟨.fn, 1, 8, [.nilFunc]⟩), (127, ⟨.map 9 2, 1, 8, [.map none]⟩), (128, ⟨.fn, 1, 8, [.nilFunc]⟩), (130, ⟨.fn, 1, 8, [.nilFunc]⟩), (131, ⟨.struct true [(0, 22), (1, 3), (2, 59)], 3, 40, [.slice none 0 0, .int .i64 0, .int .u64 0]⟩), (132, ⟨.struct true [(0, 22), (1, 3), (2, 59)], 3, 40, [.slice none 0 0, .int .i64 0, .int .u64 0]⟩), (133, ⟨.int .u64, 1, 8, [.int .u64 0]⟩), (134, ⟨.fn, 1, 8, [.nilFunc]⟩), (135, ⟨.fn, 1, 8, [.nilFunc]⟩), (136, ⟨.fn, 1, 8, [.nilFunc]⟩), (137, ⟨.fn, 1, 8, [.nilFunc]⟩), (138, ⟨.fn, 1, 8, [.nilFunc]⟩), (139, ⟨.slice 142, 1, 24, [.slice none 0 0]⟩), (140, ⟨.struct true [(0, 139), (1, 94)], 2, 48, [.slice none 0 0, .slice none 0 0]⟩), (141, ⟨.struct true [(0, 139), (1, 94)], 2, 48, [.slice none 0 0, .slice none 0 0]⟩), (142, ⟨.slice 111, 1, 24, [.slice none 0 0]⟩), (143, ⟨.fn, 1, 8, [.nilFunc]⟩), (144, ⟨.fn, 1, 8, [.nilFunc]⟩), (145, ⟨.fn, 1, 8, [.nilFunc]⟩), (147, ⟨.fn, 1, 8, [.nilFunc]⟩), (148, ⟨.fn, 1, 8, [.nilFunc]⟩), (149, ⟨.fn, 1, 8, [.nilFunc]⟩), (150, ⟨.fn, 1, 8, [.nilFunc]⟩), (151, ⟨.slice 9, 1, 24, [.slice none 0 0]⟩), (152, ⟨.fn, 1, 8, [.nilFunc]⟩), (153, ⟨.fn, 1, 8, [.nilFunc]⟩), (154, ⟨.fn, 1, 8, [.nilFunc]⟩), (156, ⟨.fn, 1, 8, [.nilFunc]⟩), (157, ⟨.int .u32, 1, 4, [.int .u32 0]⟩), (159, ⟨.fn, 1, 8, [.nilFunc]⟩), (161, ⟨.fn, 1, 8, [.nilFunc]⟩), (162, ⟨.fn, 1, 8, [.nilFunc]⟩), (163, ⟨.ptr 165, 1, 8, [.pointer none]⟩), (164, ⟨.struct true [(0, 163), (1, 22)], 2, 32, [.pointer none, .slice none 0 0]⟩), (165, ⟨.struct true [(0, 163), (1, 22)], 2, 32, [.pointer none, .slice none 0 0]⟩), (166, ⟨.fn, 1, 8, [.nilFunc]⟩), (170, ⟨.fn, 1, 8, [.nilFunc]⟩), (171, ⟨.fn, 1, 8, [.nilFunc]⟩), (173, ⟨.fn, 1, 8, [.nilFunc]⟩), (174, ⟨.fn, 1, 8, [.nilFunc]⟩), (175, ⟨.fn, 1, 8, [.nilFunc]⟩), (176, ⟨.ptr 5, 1, 8, [.pointer none]⟩), (177, ⟨.fn, 1, 8, [.nilFunc]⟩), (178, ⟨.fn, 1, 8, [.nilFunc]⟩), (179, ⟨.fn, 1, 8, [.nilFunc]⟩), (181, ⟨.fn, 1, 8, [.nilFunc]⟩), (183, ⟨.fn, 1, 8, [.nilFunc]⟩), (185, ⟨.fn, 1, 8, [.nilFunc]⟩), (186, ⟨.fn, 1, 8, [.nilFunc]⟩), (187, ⟨.fn, 1, 8, [.nilFunc]⟩), (188, ⟨.fn, 1, 8, [.nilFunc]⟩), (191, ⟨.fn, 1, 8, [.nilFunc]⟩), (192, ⟨.fn, 1, 8, [.nilFunc]⟩), (193, ⟨.fn, 1, 8, [.nilFunc]⟩), (196, ⟨.struct false [(0, 17), (1, 17), (2, 17), (3, 9)], 4, 40, [.pointer none, .pointer none, .pointer none, .string ByteArray.empty]⟩), (197, ⟨.struct false [(0, 17), (1, 17), (2, 17), (3, 9)], 4, 40, [.pointer none, .pointer none, .pointer none, .string ByteArray.empty]⟩), (199, ⟨.struct false [(0, 198)], 0, 0, []⟩), (200, ⟨.struct false [(0, 198)], 0, 0, []⟩), (201, ⟨.fn, 1, 8, [.nilFunc]⟩), (202, ⟨.int .u8, 1, 1, [.int .u8 0]⟩), (203, ⟨.int .u8, 1, 1, [.int .u8 0]⟩), (204, ⟨.fn, 1, 8, [.nilFunc]⟩), (205, ⟨.int .i32, 1, 4, [.int .i32 0]⟩), (206, ⟨.int .i32, 1, 4, [.int .i32 0]⟩), (207, ⟨.struct false [(0, 12), (1, 12), (2, 157), (3, 202), (4, 5), (5, 5), (6, 203), (7, 204), (8, 176), (9, 205), (10, 206)], 11, 48, [.int .u64 0, .int .u64 0, .int .u32 0, .int .u8 0, .int .u8 0, .int .u8 0, .int .u8 0, .nilFunc, .pointer none, .int .i32 0, .int .i32 0]⟩), (208, ⟨.struct false [(0, 12), (1, 12), (2, 157), (3, 202), (4, 5), (5, 5), (6, 203), (7, 204), (8, 176), (9, 205), (10, 206)], 11, 48, [.int .u64 0, .int .u64 0, .int .u32 0, .int .u8 0, .int .u8 0, .int .u8 0, .int .u8 0, .nilFunc, .pointer none, .int .i32 0, .int .i32 0]⟩)]
def tb : TypeId → Option TI := Go.V.look tbl
theorem tbEq : tbl.map (fun p => entryOf Tryz.prog p.1) = tbl.map (fun p => some p.2) := by kernel_rfl
theorem tbOk : TbOK Tryz.prog tb := tb_of tbEq
theorem mixOk : Tryz.prog.follows .mixedOrders = true := by kernel_rfl
abbrev sI : Bool × List D1 := (false, [.dat (.int .i64)])
abbrev sL : Bool × List D1 := (false, [.dat (.list (.int .i64))])
abbrev sM : Bool × List D1 := (false, [.dat (.list (.list (.int .i64)))])
abbrev sT : Bool × List D1 := (true, [.dat (.list (.int .i64))])
abbrev sB : Bool × List D1 := (false, [.dat .bool])
abbrev sU : Bool × List D1 := (false, [.dat (.list (.int .u8))])
abbrev sC : Bool × List D1 := (false, [.cel (.struct (.pair (.list (.int .u8)) (.pair (.int .i64) (.int .u64))))])
abbrev aI (x : Int) : AV := .dat (.int .i64) x
abbrev aL (x : List Int) : AV := .dat (.list (.int .i64)) x
abbrev aM (x : List (List Int)) : AV := .dat (.list (.list (.int .i64))) x
abbrev aB (x : Bool) : AV := .dat .bool x
abbrev aU (x : List Int) : AV := .dat (.list (.int .u8)) x
abbrev aQ (x : Int) : AV := .dat (.int .u64) x
theorem on : OrcOK Tryz.prog (orcOf []) := orc_nil
theorem oc {f : FuncId} {S : Does} {l : List (Nat × Does)} (h : Meets Tryz.prog f S) (hl : OrcOK Tryz.prog (orcOf l)) : OrcOK Tryz.prog (orcOf ((f, S) :: l)) := orc_cons h hl
theorem mo {f : FuncId} {fn : Func} {S : Does} {E : En} (hf : Tryz.prog.funcs[f]? = some fn) (ho : OrcOK Tryz.prog E.orc) (e : ∀ x, funK E S fn x = S.fn x) (hn : (fn.name == "runtime.NumGoroutine") = false := by kernel_rfl) (ht : E.tb = tb := by rfl) (hb : fn.body.isSome = true := by rfl) : Meets Tryz.prog f S := meets_of hf hn (ht ▸ tbOk) ho mixOk (fun x y h => (e x).trans h) hb
theorem lq {V : Type} (E : En) (S : Does) {fn : Func} {p : List Bool} {recs : List (St → Option (dens (flatC S.rs ++ outsC S.ps)))} {enc : V → St} (s : (V → Option (dens (flatC S.rs ++ outsC S.ps))) → V → Option (dens (flatC S.rs ++ outsC S.ps))) (l : Nat → V → Option (dens (flatC S.rs ++ outsC S.ps))) (h : ∀ rec v, roundF E S fn p recs rec (enc v) = s (fun v => rec (enc v)) v) (n : Nat) (h0 : ∀ v, l 0 v = none := by exact fun _ => rfl) (h1 : ∀ n v, l (n + 1) v = s (l n) v := by exact fun _ _ => rfl) : ∀ v, loopF E S fn p recs n (enc v) = l n v := loopF_eq E S fn p recs enc s l h0 h1 h n
def t' := true
def f' := false
def lz (l : List Nat) : List (Nat × List LvK) := l.map fun i => (i, [])
section
variable {t0 t1 t2 t3 t4 t5 t6 t7 t8 t9 t10 t11 t12 t13 t14 R T : Type}
def Z1 : t14 → Option R := fun _ => none
def U1 (f : t14 → R) : t14 → R := f
def C1 (f : t14 → R) : t14 → R := f
def W1 (g : R → T) (f : t14 → R) : t14 → T := fun a => g (f a)
theorem u1 {g : R → T} {f : t14 → R} {h : t14 → T} (e : ∀ v, g (U1 f v) = U1 h v) : W1 g f = h := funext e
def Z2 : t13 → t14 → Option R := fun _ => Z1
def U2 (f : t13 → t14 → R) (v : t13 × t14) : R := U1 (f v.1) v.2
def C2 (f : t13 × t14 → R) : t13 → t14 → R := fun a => C1 fun v => f (a, v)
def W2 (g : R → T) (f : t13 → t14 → R) : t13 → t14 → T := fun a => W1 g (f a)
theorem u2 {g : R → T} {f : t13 → t14 → R} {h : t13 → t14 → T} (e : ∀ v, g (U2 f v) = U2 h v) : W2 g f = h := funext fun a => u1 fun v => e (a, v)
def Z3 : t12 → t13 → t14 → Option R := fun _ => Z2
def U3 (f : t12 → t13 → t14 → R) (v : t12 × t13 × t14) : R := U2 (f v.1) v.2
def C3 (f : t12 × t13 × t14 → R) : t12 → t13 → t14 → R := fun a => C2 fun v => f (a, v)
def W3 (g : R → T) (f : t12 → t13 → t14 → R) : t12 → t13 → t14 → T := fun a => W2 g (f a)
theorem u3 {g : R → T} {f : t12 → t13 → t14 → R} {h : t12 → t13 → t14 → T} (e : ∀ v, g (U3 f v) = U3 h v) : W3 g f = h := funext fun a => u2 fun v => e (a, v)
def Z4 : t11 → t12 → t13 → t14 → Option R := fun _ => Z3
def U4 (f : t11 → t12 → t13 → t14 → R) (v : t11 × t12 × t13 × t14) : R := U3 (f v.1) v.2
def C4 (f : t11 × t12 × t13 × t14 → R) : t11 → t12 → t13 → t14 → R := fun a => C3 fun v => f (a, v)
def W4 (g : R → T) (f : t11 → t12 → t13 → t14 → R) : t11 → t12 → t13 → t14 → T := fun a => W3 g (f a)
theorem u4 {g : R → T} {f : t11 → t12 → t13 → t14 → R} {h : t11 → t12 → t13 → t14 → T} (e : ∀ v, g (U4 f v) = U4 h v) : W4 g f = h := funext fun a => u3 fun v => e (a, v)
def Z5 : t10 → t11 → t12 → t13 → t14 → Option R := fun _ => Z4
def U5 (f : t10 → t11 → t12 → t13 → t14 → R) (v : t10 × t11 × t12 × t13 × t14) : R := U4 (f v.1) v.2
def C5 (f : t10 × t11 × t12 × t13 × t14 → R) : t10 → t11 → t12 → t13 → t14 → R := fun a => C4 fun v => f (a, v)
def W5 (g : R → T) (f : t10 → t11 → t12 → t13 → t14 → R) : t10 → t11 → t12 → t13 → t14 → T := fun a => W4 g (f a)
theorem u5 {g : R → T} {f : t10 → t11 → t12 → t13 → t14 → R} {h : t10 → t11 → t12 → t13 → t14 → T} (e : ∀ v, g (U5 f v) = U5 h v) : W5 g f = h := funext fun a => u4 fun v => e (a, v)
def Z6 : t9 → t10 → t11 → t12 → t13 → t14 → Option R := fun _ => Z5
def U6 (f : t9 → t10 → t11 → t12 → t13 → t14 → R) (v : t9 × t10 × t11 × t12 × t13 × t14) : R := U5 (f v.1) v.2
def C6 (f : t9 × t10 × t11 × t12 × t13 × t14 → R) : t9 → t10 → t11 → t12 → t13 → t14 → R := fun a => C5 fun v => f (a, v)
def W6 (g : R → T) (f : t9 → t10 → t11 → t12 → t13 → t14 → R) : t9 → t10 → t11 → t12 → t13 → t14 → T := fun a => W5 g (f a)
theorem u6 {g : R → T} {f : t9 → t10 → t11 → t12 → t13 → t14 → R} {h : t9 → t10 → t11 → t12 → t13 → t14 → T} (e : ∀ v, g (U6 f v) = U6 h v) : W6 g f = h := funext fun a => u5 fun v => e (a, v)
def Z7 : t8 → t9 → t10 → t11 → t12 → t13 → t14 → Option R := fun _ => Z6
def U7 (f : t8 → t9 → t10 → t11 → t12 → t13 → t14 → R) (v : t8 × t9 × t10 × t11 × t12 × t13 × t14) : R := U6 (f v.1) v.2
def C7 (f : t8 × t9 × t10 × t11 × t12 × t13 × t14 → R) : t8 → t9 → t10 → t11 → t12 → t13 → t14 → R := fun a => C6 fun v => f (a, v)
def W7 (g : R → T) (f : t8 → t9 → t10 → t11 → t12 → t13 → t14 → R) : t8 → t9 → t10 → t11 → t12 → t13 → t14 → T := fun a => W6 g (f a)
theorem u7 {g : R → T} {f : t8 → t9 → t10 → t11 → t12 → t13 → t14 → R} {h : t8 → t9 → t10 → t11 → t12 → t13 → t14 → T} (e : ∀ v, g (U7 f v) = U7 h v) : W7 g f = h := funext fun a => u6 fun v => e (a, v)
def Z8 : t7 → t8 → t9 → t10 → t11 → t12 → t13 → t14 → Option R := fun _ => Z7
def U8 (f : t7 → t8 → t9 → t10 → t11 → t12 → t13 → t14 → R) (v : t7 × t8 × t9 × t10 × t11 × t12 × t13 × t14) : R := U7 (f v.1) v.2
def C8 (f : t7 × t8 × t9 × t10 × t11 × t12 × t13 × t14 → R) : t7 → t8 → t9 → t10 → t11 → t12 → t13 → t14 → R := fun a => C7 fun v => f (a, v)
def W8 (g : R → T) (f : t7 → t8 → t9 → t10 → t11 → t12 → t13 → t14 → R) : t7 → t8 → t9 → t10 → t11 → t12 → t13 → t14 → T := fun a => W7 g (f a)
theorem u8 {g : R → T} {f : t7 → t8 → t9 → t10 → t11 → t12 → t13 → t14 → R} {h : t7 → t8 → t9 → t10 → t11 → t12 → t13 → t14 → T} (e : ∀ v, g (U8 f v) = U8 h v) : W8 g f = h := funext fun a => u7 fun v => e (a, v)
def Z9 : t6 → t7 → t8 → t9 → t10 → t11 → t12 → t13 → t14 → Option R := fun _ => Z8
def U9 (f : t6 → t7 → t8 → t9 → t10 → t11 → t12 → t13 → t14 → R) (v : t6 × t7 × t8 × t9 × t10 × t11 × t12 × t13 × t14) : R := U8 (f v.1) v.2
def C9 (f : t6 × t7 × t8 × t9 × t10 × t11 × t12 × t13 × t14 → R) : t6 → t7 → t8 → t9 → t10 → t11 → t12 → t13 → t14 → R := fun a => C8 fun v => f (a, v)
def W9 (g : R → T) (f : t6 → t7 → t8 → t9 → t10 → t11 → t12 → t13 → t14 → R) : t6 → t7 → t8 → t9 → t10 → t11 → t12 → t13 → t14 → T := fun a => W8 g (f a)
theorem u9 {g : R → T} {f : t6 → t7 → t8 → t9 → t10 → t11 → t12 → t13 → t14 → R} {h : t6 → t7 → t8 → t9 → t10 → t11 → t12 → t13 → t14 → T} (e : ∀ v, g (U9 f v) = U9 h v) : W9 g f = h := funext fun a => u8 fun v => e (a, v)
def Z10 : t5 → t6 → t7 → t8 → t9 → t10 → t11 → t12 → t13 → t14 → Option R := fun _ => Z9
def U10 (f : t5 → t6 → t7 → t8 → t9 → t10 → t11 → t12 → t13 → t14 → R) (v : t5 × t6 × t7 × t8 × t9 × t10 × t11 × t12 × t13 × t14) : R := U9 (f v.1) v.2
def C10 (f : t5 × t6 × t7 × t8 × t9 × t10 × t11 × t12 × t13 × t14 → R) : t5 → t6 → t7 → t8 → t9 → t10 → t11 → t12 → t13 → t14 → R := fun a => C9 fun v => f (a, v)
def W10 (g : R → T) (f : t5 → t6 → t7 → t8 → t9 → t10 → t11 → t12 → t13 → t14 → R) : t5 → t6 → t7 → t8 → t9 → t10 → t11 → t12 → t13 → t14 → T := fun a => W9 g (f a)
theorem u10 {g : R → T} {f : t5 → t6 → t7 → t8 → t9 → t10 → t11 → t12 → t13 → t14 → R} {h : t5 → t6 → t7 → t8 → t9 → t10 → t11 → t12 → t13 → t14 → T} (e : ∀ v, g (U10 f v) = U10 h v) : W10 g f = h := funext fun a => u9 fun v => e (a, v)
def Z11 : t4 → t5 → t6 → t7 → t8 → t9 → t10 → t11 → t12 → t13 → t14 → Option R := fun _ => Z10
def U11 (f : t4 → t5 → t6 → t7 → t8 → t9 → t10 → t11 → t12 → t13 → t14 → R) (v : t4 × t5 × t6 × t7 × t8 × t9 × t10 × t11 × t12 × t13 × t14) : R := U10 (f v.1) v.2
def C11 (f : t4 × t5 × t6 × t7 × t8 × t9 × t10 × t11 × t12 × t13 × t14 → R) : t4 → t5 → t6 → t7 → t8 → t9 → t10 → t11 → t12 → t13 → t14 → R := fun a => C10 fun v => f (a, v)
def W11 (g : R → T) (f : t4 → t5 → t6 → t7 → t8 → t9 → t10 → t11 → t12 → t13 → t14 → R) : t4 → t5 → t6 → t7 → t8 → t9 → t10 → t11 → t12 → t13 → t14 → T := fun a => W10 g (f a)
theorem u11 {g : R → T} {f : t4 → t5 → t6 → t7 → t8 → t9 → t10 → t11 → t12 → t13 → t14 → R} {h : t4 → t5 → t6 → t7 → t8 → t9 → t10 → t11 → t12 → t13 → t14 → T} (e : ∀ v, g (U11 f v) = U11 h v) : W11 g f = h := funext fun a => u10 fun v => e (a, v)
def Z12 : t3 → t4 → t5 → t6 → t7 → t8 → t9 → t10 → t11 → t12 → t13 → t14 → Option R := fun _ => Z11
def U12 (f : t3 → t4 → t5 → t6 → t7 → t8 → t9 → t10 → t11 → t12 → t13 → t14 → R) (v : t3 × t4 × t5 × t6 × t7 × t8 × t9 × t10 × t11 × t12 × t13 × t14) : R := U11 (f v.1) v.2
def C12 (f : t3 × t4 × t5 × t6 × t7 × t8 × t9 × t10 × t11 × t12 × t13 × t14 → R) : t3 → t4 → t5 → t6 → t7 → t8 → t9 → t10 → t11 → t12 → t13 → t14 → R := fun a => C11 fun v => f (a, v)
def W12 (g : R → T) (f : t3 → t4 → t5 → t6 → t7 → t8 → t9 → t10 → t11 → t12 → t13 → t14 → R) : t3 → t4 → t5 → t6 → t7 → t8 → t9 → t10 → t11 → t12 → t13 → t14 → T := fun a => W11 g (f a)
theorem u12 {g : R → T} {f : t3 → t4 → t5 → t6 → t7 → t8 → t9 → t10 → t11 → t12 → t13 → t14 → R} {h : t3 → t4 → t5 → t6 → t7 → t8 → t9 → t10 → t11 → t12 → t13 → t14 → T} (e : ∀ v, g (U12 f v) = U12 h v) : W12 g f = h := funext fun a => u11 fun v => e (a, v)
def Z13 : t2 → t3 → t4 → t5 → t6 → t7 → t8 → t9 → t10 → t11 → t12 → t13 → t14 → Option R := fun _ => Z12
def U13 (f : t2 → t3 → t4 → t5 → t6 → t7 → t8 → t9 → t10 → t11 → t12 → t13 → t14 → R) (v : t2 × t3 × t4 × t5 × t6 × t7 × t8 × t9 × t10 × t11 × t12 × t13 × t14) : R := U12 (f v.1) v.2
def C13 (f : t2 × t3 × t4 × t5 × t6 × t7 × t8 × t9 × t10 × t11 × t12 × t13 × t14 → R) : t2 → t3 → t4 → t5 → t6 → t7 → t8 → t9 → t10 → t11 → t12 → t13 → t14 → R := fun a => C12 fun v => f (a, v)
def W13 (g : R → T) (f : t2 → t3 → t4 → t5 → t6 → t7 → t8 → t9 → t10 → t11 → t12 → t13 → t14 → R) : t2 → t3 → t4 → t5 → t6 → t7 → t8 → t9 → t10 → t11 → t12 → t13 → t14 → T := fun a => W12 g (f a)
theorem u13 {g : R → T} {f : t2 → t3 → t4 → t5 → t6 → t7 → t8 → t9 → t10 → t11 → t12 → t13 → t14 → R} {h : t2 → t3 → t4 → t5 → t6 → t7 → t8 → t9 → t10 → t11 → t12 → t13 → t14 → T} (e : ∀ v, g (U13 f v) = U13 h v) : W13 g f = h := funext fun a => u12 fun v => e (a, v)
def Z14 : t1 → t2 → t3 → t4 → t5 → t6 → t7 → t8 → t9 → t10 → t11 → t12 → t13 → t14 → Option R := fun _ => Z13
def U14 (f : t1 → t2 → t3 → t4 → t5 → t6 → t7 → t8 → t9 → t10 → t11 → t12 → t13 → t14 → R) (v : t1 × t2 × t3 × t4 × t5 × t6 × t7 × t8 × t9 × t10 × t11 × t12 × t13 × t14) : R := U13 (f v.1) v.2
def C14 (f : t1 × t2 × t3 × t4 × t5 × t6 × t7 × t8 × t9 × t10 × t11 × t12 × t13 × t14 → R) : t1 → t2 → t3 → t4 → t5 → t6 → t7 → t8 → t9 → t10 → t11 → t12 → t13 → t14 → R := fun a => C13 fun v => f (a, v)
def W14 (g : R → T) (f : t1 → t2 → t3 → t4 → t5 → t6 → t7 → t8 → t9 → t10 → t11 → t12 → t13 → t14 → R) : t1 → t2 → t3 → t4 → t5 → t6 → t7 → t8 → t9 → t10 → t11 → t12 → t13 → t14 → T := fun a => W13 g (f a)
theorem u14 {g : R → T} {f : t1 → t2 → t3 → t4 → t5 → t6 → t7 → t8 → t9 → t10 → t11 → t12 → t13 → t14 → R} {h : t1 → t2 → t3 → t4 → t5 → t6 → t7 → t8 → t9 → t10 → t11 → t12 → t13 → t14 → T} (e : ∀ v, g (U14 f v) = U14 h v) : W14 g f = h := funext fun a => u13 fun v => e (a, v)
def Z15 : t0 → t1 → t2 → t3 → t4 → t5 → t6 → t7 → t8 → t9 → t10 → t11 → t12 → t13 → t14 → Option R := fun _ => Z14
def U15 (f : t0 → t1 → t2 → t3 → t4 → t5 → t6 → t7 → t8 → t9 → t10 → t11 → t12 → t13 → t14 → R) (v : t0 × t1 × t2 × t3 × t4 × t5 × t6 × t7 × t8 × t9 × t10 × t11 × t12 × t13 × t14) : R := U14 (f v.1) v.2
def C15 (f : t0 × t1 × t2 × t3 × t4 × t5 × t6 × t7 × t8 × t9 × t10 × t11 × t12 × t13 × t14 → R) : t0 → t1 → t2 → t3 → t4 → t5 → t6 → t7 → t8 → t9 → t10 → t11 → t12 → t13 → t14 → R := fun a => C14 fun v => f (a, v)
def W15 (g : R → T) (f : t0 → t1 → t2 → t3 → t4 → t5 → t6 → t7 → t8 → t9 → t10 → t11 → t12 → t13 → t14 → R) : t0 → t1 → t2 → t3 → t4 → t5 → t6 → t7 → t8 → t9 → t10 → t11 → t12 → t13 → t14 → T := fun a => W14 g (f a)
theorem u15 {g : R → T} {f : t0 → t1 → t2 → t3 → t4 → t5 → t6 → t7 → t8 → t9 → t10 → t11 → t12 → t13 → t14 → R} {h : t0 → t1 → t2 → t3 → t4 → t5 → t6 → t7 → t8 → t9 → t10 → t11 → t12 → t13 → t14 → T} (e : ∀ v, g (U15 f v) = U15 h v) : W15 g f = h := funext fun a => u14 fun v => e (a, v)
end
def laws_big.f (l0 : List Int) : Option (Bool) := some (decide (4096 < (l0.length : Int)))
def S5 (k : Nat) : Does := ⟨[sU], [sB], laws_big.f⟩
def E5 (k : Nat) : En := ⟨tb, orcOf [], lvOf [], k, 0, lvOf [], []⟩
theorem M5 (k) : Meets Tryz.prog 5 (S5 k) := mo Tryz.func5 on fun x => (by kernel_rfl : funK (E5 k) (S5 k) Tryz.f5 x = (S5 k).fn x)
abbrev O48 := Option (((List Int) × Int × Int))
abbrev T48_0 (R : Type) := (List Int) → (List Int) → Int → Int → Int → R
def spec_l01From.s0 (k : Nat) (r0 : T48_0 O48) : T48_0 O48 := fun x0 x3_0 x3_1 x3_2 x4 => if x4 < x0.length then (if x4 < 4096 then (if 0 ≤ x4 then (if x4 < x0.length then (r0 x0 x3_0 x3_1 (IntKind.wrap .u64 ((IntKind.wrap .u64 ((IntKind.wrap .u64 (x3_2 * 1099511628211)) + (IntKind.wrap .u64 ((rd x0 x4))))) + 241)) (wrap64 (x4 + 1))) else none) else none) else (some (x3_0, x3_1, x3_2))) else (some (x3_0, x3_1, x3_2))
def spec_l01From.l0 (k : Nat) : Nat → T48_0 O48
 | 0 => Z5
 | n + 1 => spec_l01From.s0 k (spec_l01From.l0 k n)
def spec_l01From.g (k : Nat) (r0 : T48_0 O48) (l0 : List Int) : Option (((List Int) × Int × Int)) := r0 l0 l0 0 (IntKind.wrap .u64 (14041 + (IntKind.wrap .u64 ((l0.length : Int))))) 0
def spec_l01From.f (k : Nat) (l0 : List Int) : Option (((List Int) × Int × Int)) := spec_l01From.g k (spec_l01From.l0 k k) l0
def S48 (k : Nat) : Does := ⟨[sU], [sC], spec_l01From.f k⟩
def E48 (k : Nat) : En := ⟨tb, orcOf [], lvOf [(0, lz [0, 3, 4])], k, 0, lvOf [], []⟩
def n48_0 : T48_0 St := fun x0 x3_0 x3_1 x3_2 x4 => ⟨38, lookA [(0, aU x0), (3, .box 0 0), (4, aI x4)], Go.V.look [(0, .cells [aU x3_0, aI x3_1, aQ x3_2])]⟩
def p48_0 : List Bool := [t', t', f', t', f']
def L48 (k : Nat) (p : List Bool) (r : List (St → O48)) : Nat → St → O48 := loopF (E48 k) (S48 k) Tryz.f48 p r
theorem r48_0 (k) (rec : St → O48) (v) : roundF (E48 k) (S48 k) Tryz.f48 p48_0 [] rec (U5 n48_0 v) = U5 (spec_l01From.s0 k (W5 rec n48_0)) v := by kernel_rfl
theorem q48_0 (k) (n) : W5 (L48 k p48_0 [] n) n48_0 = spec_l01From.l0 k n :=
 u5 (lq (E48 k) (S48 k) (fun rec => U5 (spec_l01From.s0 k (C5 rec))) (fun n => U5 (spec_l01From.l0 k n)) (r48_0 k) n)
theorem M48 (k) : Meets Tryz.prog 48 (S48 k) := mo Tryz.func48 on fun x => (show funK (E48 k) (S48 k) Tryz.f48 x = spec_l01From.g k (W5 (L48 k p48_0 [] k) n48_0) x by kernel_rfl).trans (by rw [q48_0]; rfl)
def spec_l01Next.f (a0 : (List Int) × Int × Int) (a1 : Int) : Option (Int × ((List Int) × Int × Int)) := if a1 < 1 then (some (0, a0.1, a0.2.1, a0.2.2)) else (if a0.2.1 < (a0.1.length : Int) then (if 0 ≤ a0.2.1 then (if a0.2.1 < (a0.1.length : Int) then (if a1 = 0 then none else (some ((Int.tmod (wrap64 ((wrap64 ((andV .u64 (shrV .u64 (IntKind.wrap .u64 ((IntKind.wrap .u64 (a0.2.2 * 6364136223846793005)) + 1442695040888963407)) 33) 16777215))) + (wrap64 ((rd a0.1 a0.2.1))))) a1), a0.1, (wrap64 (a0.2.1 + 1)), (IntKind.wrap .u64 ((IntKind.wrap .u64 (a0.2.2 * 6364136223846793005)) + 1442695040888963407))))) else none) else none) else (if a1 = 0 then none else (some ((Int.tmod (wrap64 ((andV .u64 (shrV .u64 (IntKind.wrap .u64 ((IntKind.wrap .u64 (a0.2.2 * 6364136223846793005)) + 1442695040888963407)) 33) 16777215))) a1), a0.1, a0.2.1, (IntKind.wrap .u64 ((IntKind.wrap .u64 (a0.2.2 * 6364136223846793005)) + 1442695040888963407))))))
def S60 (k : Nat) : Does := ⟨[sC, sI], [sI], U2 spec_l01Next.f⟩
def E60 (k : Nat) : En := ⟨tb, orcOf [], lvOf [], k, 1, lvOf [], []⟩
theorem M60 (k) : Meets Tryz.prog 60 (S60 k) := mo Tryz.func60 on fun x => (by kernel_rfl : funK (E60 k) (S60 k) Tryz.f60 x = (S60 k).fn x)
def spec_l01Own.f (l0 : List Int) : Option (List Int) := if 0 + l0.length ≤ 1099511627776 then (some ([] ++ l0)) else none
def S66 (k : Nat) : Does := ⟨[sL], [(false, [.own 2 (.int .i64)])], spec_l01Own.f⟩
def E66 (k : Nat) : En := ⟨tb, orcOf [], lvOf [], k, 0, lvOf [], []⟩
theorem M66 (k) : Meets Tryz.prog 66 (S66 k) := mo Tryz.func66 on fun x => (by kernel_rfl : funK (E66 k) (S66 k) Tryz.f66 x = (S66 k).fn x)
def spec_l01K.f (l0_0 : List Int) : Option (Int) := some (l0_0.length : Int)
def S139 (k : Nat) : Does := ⟨[sT], [sI], spec_l01K.f⟩
def E139 (k : Nat) : En := ⟨tb, orcOf [], lvOf [], k, 0, lvOf [], []⟩
theorem M139 (k) : Meets Tryz.prog 139 (S139 k) := mo Tryz.func139 on fun x => (by kernel_rfl : funK (E139 k) (S139 k) Tryz.f139 x = (S139 k).fn x)
def spec_l01Pick.f (a0 : (List Int) × Int × Int) (l1 : List Int) : Option (Int × ((List Int) × Int × Int)) := (spec_l01Next.f (a0.1, a0.2.1, a0.2.2) (l1.length : Int)).bind fun t1 => if 0 ≤ t1.1 then (if t1.1 < (l1.length : Int) then (some ((rd l1 t1.1), t1.2.1, t1.2.2.1, t1.2.2.2)) else none) else none
def S49 (k : Nat) : Does := ⟨[sC, sL], [sI], U2 spec_l01Pick.f⟩
def E49 (k : Nat) : En := ⟨tb, orcOf [(60, S60 k)], lvOf [], k, 1, lvOf [], []⟩
theorem M49 (k) : Meets Tryz.prog 49 (S49 k) := mo Tryz.func49 (oc (M60 k) on) fun x => (by kernel_rfl : funK (E49 k) (S49 k) Tryz.f49 x = (S49 k).fn x)
abbrev O159 := Option ((List Int) × ((List Int) × Int × Int))
abbrev T159_0 (R : Type) := (List Int) → Int → Int → Int → (List Int) → Int → Int → R
def spec_l01DrawTurns.s0 (k : Nat) (r0 : T159_0 O159) : T159_0 O159 := fun x0_0 x0_1 x0_2 x1 x5 x6 x7 => if 0 < x7 then ((spec_l01Next.f (x0_0, x0_1, x0_2) x1).bind fun t4 => (spec_l01Next.f (t4.2.1, t4.2.2.1, t4.2.2.2) (wrap64 (x6 + 3))).bind fun t5 => if t5.1 = 0 then (if x5.length + 1 ≤ 1099511627776 then (r0 t5.2.1 t5.2.2.1 t5.2.2.2 x1 (x5 ++ [(-1)]) x6 (wrap64 (x7 - 1))) else none) else (if x5.length + 1 ≤ 1099511627776 then (r0 t5.2.1 t5.2.2.1 t5.2.2.2 x1 (x5 ++ [t4.1]) x6 (wrap64 (x7 - 1))) else none)) else (some (x5, x0_0, x0_1, x0_2))
def spec_l01DrawTurns.l0 (k : Nat) : Nat → T159_0 O159
 | 0 => Z7
 | n + 1 => spec_l01DrawTurns.s0 k (spec_l01DrawTurns.l0 k n)
def spec_l01DrawTurns.g (k : Nat) (r0 : T159_0 O159) (a0 : (List Int) × Int × Int) (a1 : Int) : Option ((List Int) × ((List Int) × Int × Int)) := (spec_l01Pick.f (a0.1, a0.2.1, a0.2.2) [1, 4, 20]).bind fun t1 => (spec_l01Pick.f (t1.2.1, t1.2.2.1, t1.2.2.2) [6, 12, 40, 120]).bind fun t2 => (spec_l01Next.f (t2.2.1, t2.2.2.1, t2.2.2.2) t2.1).bind fun t3 => r0 t3.2.1 t3.2.2.1 t3.2.2.2 a1 [] t1.1 (wrap64 (1 + t3.1))
def spec_l01DrawTurns.f (k : Nat) (a0 : (List Int) × Int × Int) (a1 : Int) : Option ((List Int) × ((List Int) × Int × Int)) := spec_l01DrawTurns.g k (spec_l01DrawTurns.l0 k k) a0 a1
def S159 (k : Nat) : Does := ⟨[sC, sI], [(false, [.own 2 (.int .i64)])], U2 (spec_l01DrawTurns.f k)⟩
def E159 (k : Nat) : En := ⟨tb, orcOf [(49, S49 k), (60, S60 k)], lvOf [(0, lz [0, 1, 5, 6, 7])], k, 1, lvOf [], []⟩
def n159_0 : T159_0 St := fun x0_0 x0_1 x0_2 x1 x5 x6 x7 => ⟨36, lookA [(0, .box 0 0), (1, aI x1), (5, .own 1), (6, aI x6), (7, aI x7)], Go.V.look [(0, .cells [aU x0_0, aI x0_1, aQ x0_2]), (1, .flat 2 (.int .i64) x5)]⟩
def p159_0 : List Bool := [t', t', f', t', f']
def L159 (k : Nat) (p : List Bool) (r : List (St → O159)) : Nat → St → O159 := loopF (E159 k) (S159 k) Tryz.f159 p r
theorem r159_0 (k) (rec : St → O159) (v) : roundF (E159 k) (S159 k) Tryz.f159 p159_0 [] rec (U7 n159_0 v) = U7 (spec_l01DrawTurns.s0 k (W7 rec n159_0)) v := by kernel_rfl
theorem q159_0 (k) (n) : W7 (L159 k p159_0 [] n) n159_0 = spec_l01DrawTurns.l0 k n :=
 u7 (lq (E159 k) (S159 k) (fun rec => U7 (spec_l01DrawTurns.s0 k (C7 rec))) (fun n => U7 (spec_l01DrawTurns.l0 k n)) (r159_0 k) n)
theorem M159 (k) : Meets Tryz.prog 159 (S159 k) := mo Tryz.func159 (oc (M49 k) (oc (M60 k) on)) fun x => (show funK (E159 k) (S159 k) Tryz.f159 x = spec_l01DrawTurns.g k (W7 (L159 k p159_0 [] k) n159_0) x.1 x.2 by kernel_rfl).trans (by rw [q159_0]; rfl)
abbrev O167 := Option (List Int)
abbrev T167_0 (R : Type) := (List Int) → Int → (List Int) → Int → Int → Int → R
def spec_l01Waits.s0 (k : Nat) (r0 : T167_0 O167) : T167_0 O167 := fun x0 x1 x5 x6 x7 x8 => if x8 < x0.length then (if 0 ≤ x8 then (if x8 < x0.length then (if (rd x0 x8) = x1 then (if x6 < 0 then (r0 x0 x1 x5 x8 x8 (wrap64 (x8 + 1))) else (if x5.length + 1 ≤ 1099511627776 then (r0 x0 x1 (x5 ++ [(wrap64 (x8 - x7))]) x6 x8 (wrap64 (x8 + 1))) else none)) else (r0 x0 x1 x5 x6 x7 (wrap64 (x8 + 1)))) else none) else none) else (if 0 ≤ x6 then (if x5.length + 1 ≤ 1099511627776 then (some (x5 ++ [(wrap64 ((wrap64 ((x0.length : Int) - x7)) + x6))])) else none) else (some x5))
def spec_l01Waits.l0 (k : Nat) : Nat → T167_0 O167
 | 0 => Z6
 | n + 1 => spec_l01Waits.s0 k (spec_l01Waits.l0 k n)
def spec_l01Waits.g (k : Nat) (r0 : T167_0 O167) (l0 : List Int) (a1 : Int) : Option (List Int) := r0 l0 a1 [] (-1) (-1) 0
def spec_l01Waits.f (k : Nat) (l0 : List Int) (a1 : Int) : Option (List Int) := spec_l01Waits.g k (spec_l01Waits.l0 k k) l0 a1
def S167 (k : Nat) : Does := ⟨[sL, sI], [(false, [.own 2 (.int .i64)])], U2 (spec_l01Waits.f k)⟩
def E167 (k : Nat) : En := ⟨tb, orcOf [], lvOf [(0, lz [0, 1, 5, 6, 7, 8])], k, 0, lvOf [], []⟩
def n167_0 : T167_0 St := fun x0 x1 x5 x6 x7 x8 => ⟨44, lookA [(0, aL x0), (1, aI x1), (5, .own 0), (6, aI x6), (7, aI x7), (8, aI x8)], Go.V.look [(0, .flat 2 (.int .i64) x5)]⟩
def p167_0 : List Bool := [t', t', f', t', f']
def L167 (k : Nat) (p : List Bool) (r : List (St → O167)) : Nat → St → O167 := loopF (E167 k) (S167 k) Tryz.f167 p r
theorem r167_0 (k) (rec : St → O167) (v) : roundF (E167 k) (S167 k) Tryz.f167 p167_0 [] rec (U6 n167_0 v) = U6 (spec_l01Waits.s0 k (W6 rec n167_0)) v := by kernel_rfl
theorem q167_0 (k) (n) : W6 (L167 k p167_0 [] n) n167_0 = spec_l01Waits.l0 k n :=
 u6 (lq (E167 k) (S167 k) (fun rec => U6 (spec_l01Waits.s0 k (C6 rec))) (fun n => U6 (spec_l01Waits.l0 k n)) (r167_0 k) n)
theorem M167 (k) : Meets Tryz.prog 167 (S167 k) := mo Tryz.func167 on fun x => (show funK (E167 k) (S167 k) Tryz.f167 x = spec_l01Waits.g k (W6 (L167 k p167_0 [] k) n167_0) x.1 x.2 by kernel_rfl).trans (by rw [q167_0]; rfl)
abbrev O160 := Option (Int)
abbrev T160_0 (R : Type) := (List Int) → Int → Int → R
def spec_l01Greatest.s0 (k : Nat) (r0 : T160_0 O160) : T160_0 O160 := fun x5 x6 x7 => if x7 < x5.length then (if 0 ≤ x7 then (if x7 < x5.length then (r0 x5 (maxV x6 (rd x5 x7)) (wrap64 (x7 + 1))) else none) else none) else (some x6)
def spec_l01Greatest.l0 (k : Nat) : Nat → T160_0 O160
 | 0 => Z3
 | n + 1 => spec_l01Greatest.s0 k (spec_l01Greatest.l0 k n)
def spec_l01Greatest.g (k : Nat) (r0 : T160_0 O160) (l0 : List Int) (a1 : Int) : Option (Int) := (spec_l01Waits.f k l0 a1).bind fun t1 => r0 t1 0 0
def spec_l01Greatest.f (k : Nat) (l0 : List Int) (a1 : Int) : Option (Int) := spec_l01Greatest.g k (spec_l01Greatest.l0 k k) l0 a1
def S160 (k : Nat) : Does := ⟨[sL, sI], [sI], U2 (spec_l01Greatest.f k)⟩
def E160 (k : Nat) : En := ⟨tb, orcOf [(167, S167 k)], lvOf [(0, lz [5, 6, 7])], k, 0, lvOf [], []⟩
def n160_0 : T160_0 St := fun x5 x6 x7 => ⟨24, lookA [(5, .own 0), (6, aI x6), (7, aI x7)], Go.V.look [(0, .flat 2 (.int .i64) x5)]⟩
def p160_0 : List Bool := [t', t', f', t', f']
def L160 (k : Nat) (p : List Bool) (r : List (St → O160)) : Nat → St → O160 := loopF (E160 k) (S160 k) Tryz.f160 p r
theorem r160_0 (k) (rec : St → O160) (v) : roundF (E160 k) (S160 k) Tryz.f160 p160_0 [] rec (U3 n160_0 v) = U3 (spec_l01Greatest.s0 k (W3 rec n160_0)) v := by kernel_rfl
theorem q160_0 (k) (n) : W3 (L160 k p160_0 [] n) n160_0 = spec_l01Greatest.l0 k n :=
 u3 (lq (E160 k) (S160 k) (fun rec => U3 (spec_l01Greatest.s0 k (C3 rec))) (fun n => U3 (spec_l01Greatest.l0 k n)) (r160_0 k) n)
theorem M160 (k) : Meets Tryz.prog 160 (S160 k) := mo Tryz.func160 (oc (M167 k) on) fun x => (show funK (E160 k) (S160 k) Tryz.f160 x = spec_l01Greatest.g k (W3 (L160 k p160_0 [] k) n160_0) x.1 x.2 by kernel_rfl).trans (by rw [q160_0]; rfl)
abbrev O153 := Option ((List Int) × (List Int) × ((List Int) × Int × Int))
abbrev T153_0 (R : Type) := (List Int) → Int → Int → Int → (List Int) → Int → R
abbrev T153_1 (R : Type) := (List Int) → Int → Int → Int → (List Int) → (List Int) → Int → R
def spec_l01DrawServed.s1 (k : Nat) (r1 : T153_1 O153) : T153_1 O153 := fun x0_0 x0_1 x0_2 x4 x5 x7_0 x8 => if x8 < x4 then ((spec_l01Greatest.f k x5 x8).bind fun t5 => if t5 = 0 then ((spec_l01Next.f (x0_0, x0_1, x0_2) 4).bind fun t6 => if t6.1 = 0 then ((spec_l01Next.f (t6.2.1, t6.2.2.1, t6.2.2.2) 4).bind fun t7 => if x7_0.length + 1 ≤ 1099511627776 then (r1 t7.2.1 t7.2.2.1 t7.2.2.2 x4 x5 (x7_0 ++ [(maxV (minV (wrap64 ((wrap64 (40 + t7.1)) - 1)) 40) 1)]) (wrap64 (x8 + 1))) else none) else (if x7_0.length + 1 ≤ 1099511627776 then (r1 t6.2.1 t6.2.2.1 t6.2.2.2 x4 x5 (x7_0 ++ [(maxV (minV 40 40) 1)]) (wrap64 (x8 + 1))) else none)) else ((spec_l01Next.f (x0_0, x0_1, x0_2) 4).bind fun t8 => if t8.1 = 0 then ((spec_l01Next.f (t8.2.1, t8.2.2.1, t8.2.2.2) 4).bind fun t9 => if x7_0.length + 1 ≤ 1099511627776 then (r1 t9.2.1 t9.2.2.1 t9.2.2.2 x4 x5 (x7_0 ++ [(maxV (minV (wrap64 ((wrap64 (t5 + t9.1)) - 1)) 40) 1)]) (wrap64 (x8 + 1))) else none) else (if x7_0.length + 1 ≤ 1099511627776 then (r1 t8.2.1 t8.2.2.1 t8.2.2.2 x4 x5 (x7_0 ++ [(maxV (minV t5 40) 1)]) (wrap64 (x8 + 1))) else none))) else (some (x7_0, x5, x0_0, x0_1, x0_2))
def spec_l01DrawServed.l1 (k : Nat) : Nat → T153_1 O153
 | 0 => Z7
 | n + 1 => spec_l01DrawServed.s1 k (spec_l01DrawServed.l1 k n)
def spec_l01DrawServed.s0 (k : Nat) (r0 : T153_0 O153) (r1 : T153_1 O153) : T153_0 O153 := fun x0_0 x0_1 x0_2 x4 x5 x6 => if x6 < x4 then (if x6 < x5.length then ((spec_l01Greatest.f k x5 x6).bind fun t4 => if t4 = 0 then (if 0 ≤ x6 then (if x6 < x5.length then (r0 x0_0 x0_1 x0_2 x4 (x5.set x6.toNat x6) (wrap64 (x6 + 1))) else none) else none) else (r0 x0_0 x0_1 x0_2 x4 x5 (wrap64 (x6 + 1)))) else (r1 x0_0 x0_1 x0_2 x4 x5 [] 0)) else (r1 x0_0 x0_1 x0_2 x4 x5 [] 0)
def spec_l01DrawServed.l0 (k : Nat) : Nat → T153_0 O153
 | 0 => Z6
 | n + 1 => spec_l01DrawServed.s0 k (spec_l01DrawServed.l0 k n) (spec_l01DrawServed.l1 k k)
def spec_l01DrawServed.g (k : Nat) (r0 : T153_0 O153) (a0 : (List Int) × Int × Int) : Option ((List Int) × (List Int) × ((List Int) × Int × Int)) := (spec_l01Pick.f (a0.1, a0.2.1, a0.2.2) [3, 5, 8]).bind fun t1 => (spec_l01Next.f (t1.2.1, t1.2.2.1, t1.2.2.2) t1.1).bind fun t2 => (spec_l01DrawTurns.f k (t2.2.1, t2.2.2.1, t2.2.2.2) (wrap64 (1 + t2.1))).bind fun t3 => r0 t3.2.1 t3.2.2.1 t3.2.2.2 (wrap64 (1 + t2.1)) t3.1 0
def spec_l01DrawServed.f (k : Nat) (a0 : (List Int) × Int × Int) : Option ((List Int) × (List Int) × ((List Int) × Int × Int)) := spec_l01DrawServed.g k (spec_l01DrawServed.l0 k k) a0
def S153 (k : Nat) : Does := ⟨[sC], [(true, [.own 2 (.int .i64)]), (false, [.own 2 (.int .i64)])], spec_l01DrawServed.f k⟩
def E153 (k : Nat) : En := ⟨tb, orcOf [(49, S49 k), (60, S60 k), (159, S159 k), (160, S160 k)], lvOf [(0, lz [0, 2, 4, 5, 6]), (2, lz [0, 2, 4, 5, 7, 8])], k, 1, lvOf [], []⟩
def n153_0 : T153_0 St := fun x0_0 x0_1 x0_2 x4 x5 x6 => ⟨68, lookA [(0, .box 0 0), (2, .box 1 0), (4, aI x4), (5, .own 2), (6, aI x6)], Go.V.look [(0, .cells [aU x0_0, aI x0_1, aQ x0_2]), (1, .cells [.nil]), (2, .flat 2 (.int .i64) x5)]⟩
def p153_0 : List Bool := [t', t', t', f', t', f']
def n153_1 : T153_1 St := fun x0_0 x0_1 x0_2 x4 x5 x7_0 x8 => ⟨68, lookA [(0, .box 0 0), (2, .box 1 0), (4, aI x4), (5, .own 2), (7, .box 3 0), (8, aI x8)], Go.V.look [(0, .cells [aU x0_0, aI x0_1, aQ x0_2]), (1, .cells [.nil]), (2, .flat 2 (.int .i64) x5), (3, .cells [.own 4]), (4, .flat 2 (.int .i64) x7_0)]⟩
def p153_1 : List Bool := [t', t', t', t', t', f', t', f']
def L153 (k : Nat) (p : List Bool) (r : List (St → O153)) : Nat → St → O153 := loopF (E153 k) (S153 k) Tryz.f153 p r
theorem r153_1 (k) (rec : St → O153) (v) : roundF (E153 k) (S153 k) Tryz.f153 p153_1 [] rec (U7 n153_1 v) = U7 (spec_l01DrawServed.s1 k (W7 rec n153_1)) v := by kernel_rfl
theorem q153_1 (k) (n) : W7 (L153 k p153_1 [] n) n153_1 = spec_l01DrawServed.l1 k n :=
 u7 (lq (E153 k) (S153 k) (fun rec => U7 (spec_l01DrawServed.s1 k (C7 rec))) (fun n => U7 (spec_l01DrawServed.l1 k n)) (r153_1 k) n)
theorem r153_0 (k) (rec : St → O153) (G1 : T153_1 O153) (h1 : W7 (L153 k p153_1 [] k) n153_1 = G1) (v) : roundF (E153 k) (S153 k) Tryz.f153 p153_0 [] rec (U6 n153_0 v) = U6 (spec_l01DrawServed.s0 k (W6 rec n153_0) G1) v := by
 subst h1
 kernel_rfl
theorem q153_0 (k) (n) : W6 (L153 k p153_0 [] n) n153_0 = spec_l01DrawServed.l0 k n :=
 u6 (lq (E153 k) (S153 k) (fun rec => U6 (spec_l01DrawServed.s0 k (C6 rec) (spec_l01DrawServed.l1 k k))) (fun n => U6 (spec_l01DrawServed.l0 k n)) (fun rec v => r153_0 k rec _ (q153_1 k k) v) n)
theorem M153 (k) : Meets Tryz.prog 153 (S153 k) := mo Tryz.func153 (oc (M49 k) (oc (M60 k) (oc (M159 k) (oc (M160 k) on)))) fun x => (show funK (E153 k) (S153 k) Tryz.f153 x = spec_l01DrawServed.g k (W6 (L153 k p153_0 [] k) n153_0) x by kernel_rfl).trans (by rw [q153_0]; rfl)
abbrev O154 := Option ((List Int) × ((List Int) × Int × Int))
abbrev T154_0 (R : Type) := (List Int) → Int → Int → Int → (List Int) → Int → R
def spec_l01DrawOf.s0 (k : Nat) (r0 : T154_0 O154) : T154_0 O154 := fun x0_0 x0_1 x0_2 x1 x5_0 x6 => if x6 < x1 then ((spec_l01Pick.f (x0_0, x0_1, x0_2) [4, 8, 12, 40]).bind fun t1 => (spec_l01Next.f (t1.2.1, t1.2.2.1, t1.2.2.2) t1.1).bind fun t2 => if x5_0.length + 1 ≤ 1099511627776 then (r0 t2.2.1 t2.2.2.1 t2.2.2.2 x1 (x5_0 ++ [(wrap64 (1 + t2.1))]) (wrap64 (x6 + 1))) else none) else (some (x5_0, x0_0, x0_1, x0_2))
def spec_l01DrawOf.l0 (k : Nat) : Nat → T154_0 O154
 | 0 => Z6
 | n + 1 => spec_l01DrawOf.s0 k (spec_l01DrawOf.l0 k n)
def spec_l01DrawOf.g (k : Nat) (r0 : T154_0 O154) (a0 : (List Int) × Int × Int) (a1 : Int) : Option ((List Int) × ((List Int) × Int × Int)) := r0 a0.1 a0.2.1 a0.2.2 a1 [] 0
def spec_l01DrawOf.f (k : Nat) (a0 : (List Int) × Int × Int) (a1 : Int) : Option ((List Int) × ((List Int) × Int × Int)) := spec_l01DrawOf.g k (spec_l01DrawOf.l0 k k) a0 a1
def S154 (k : Nat) : Does := ⟨[sC, sI], [(true, [.own 2 (.int .i64)])], U2 (spec_l01DrawOf.f k)⟩
def E154 (k : Nat) : En := ⟨tb, orcOf [(49, S49 k), (60, S60 k)], lvOf [(0, lz [0, 1, 4, 5, 6])], k, 1, lvOf [], [1074069504, 1074070720]⟩
def n154_0 : T154_0 St := fun x0_0 x0_1 x0_2 x1 x5_0 x6 => ⟨26, lookA [(0, .box 0 0), (1, aI x1), (4, .box 1 0), (5, .box 2 0), (6, aI x6)], Go.V.look [(0, .cells [aU x0_0, aI x0_1, aQ x0_2]), (1, .cells [.nil]), (2, .cells [.own 3]), (3, .flat 2 (.int .i64) x5_0)]⟩
def p154_0 : List Bool := [t', t', f', t', f']
def L154 (k : Nat) (p : List Bool) (r : List (St → O154)) : Nat → St → O154 := loopF (E154 k) (S154 k) Tryz.f154 p r
theorem r154_0 (k) (rec : St → O154) (v) : roundF (E154 k) (S154 k) Tryz.f154 p154_0 [] rec (U6 n154_0 v) = U6 (spec_l01DrawOf.s0 k (W6 rec n154_0)) v := by kernel_rfl
theorem q154_0 (k) (n) : W6 (L154 k p154_0 [] n) n154_0 = spec_l01DrawOf.l0 k n :=
 u6 (lq (E154 k) (S154 k) (fun rec => U6 (spec_l01DrawOf.s0 k (C6 rec))) (fun n => U6 (spec_l01DrawOf.l0 k n)) (r154_0 k) n)
theorem M154 (k) : Meets Tryz.prog 154 (S154 k) := mo Tryz.func154 (oc (M49 k) (oc (M60 k) on)) fun x => (show funK (E154 k) (S154 k) Tryz.f154 x = spec_l01DrawOf.g k (W6 (L154 k p154_0 [] k) n154_0) x.1 x.2 by kernel_rfl).trans (by rw [q154_0]; rfl)
def spec_l01Draw.f (k : Nat) (a0 : (List Int) × Int × Int) : Option ((List Int) × ((List Int) × Int × Int)) := (spec_l01Next.f (a0.1, a0.2.1, a0.2.2) 2).bind fun t1 => if t1.1 = 0 then ((spec_l01DrawServed.f k (t1.2.1, t1.2.2.1, t1.2.2.2)).bind fun t2 => some (t2.1, t2.2.2.1, t2.2.2.2.1, t2.2.2.2.2)) else ((spec_l01Pick.f (t1.2.1, t1.2.2.1, t1.2.2.2) [3, 5, 8]).bind fun t3 => (spec_l01Next.f (t3.2.1, t3.2.2.1, t3.2.2.2) t3.1).bind fun t4 => (spec_l01DrawOf.f k (t4.2.1, t4.2.2.1, t4.2.2.2) (wrap64 (1 + t4.1))).bind fun t5 => some (t5.1, t5.2.1, t5.2.2.1, t5.2.2.2))
def S142 (k : Nat) : Does := ⟨[sC], [(true, [.own 2 (.int .i64)])], spec_l01Draw.f k⟩
def E142 (k : Nat) : En := ⟨tb, orcOf [(60, S60 k), (153, S153 k), (49, S49 k), (154, S154 k)], lvOf [], k, 1, lvOf [], []⟩
theorem M142 (k) : Meets Tryz.prog 142 (S142 k) := mo Tryz.func142 (oc (M60 k) (oc (M153 k) (oc (M49 k) (oc (M154 k) on)))) fun x => (by kernel_rfl : funK (E142 k) (S142 k) Tryz.f142 x = (S142 k).fn x)
def spec_l02DrawOf.f (k : Nat) (a0 : (List Int) × Int × Int) : Option ((List Int) × ((List Int) × Int × Int)) := (spec_l01Next.f (a0.1, a0.2.1, a0.2.2) 16).bind fun t1 => if 0 ≤ t1.1 then (if t1.1 < 16 then ((spec_l01Own.f (rdOf ([] : List Int) [[1], [2, 2], [2, 3], [2, 4, 4], [3, 3, 3], [2, 3, 6], [3, 4, 4], [3, 4, 5], [2, 5, 6], [4, 4, 4, 4], [3, 4, 6, 6], [2, 4, 8, 8], [1, 2], [3, 5, 5, 5], [4, 5, 5, 5], [2, 6, 7]] t1.1)).bind fun t2 => (spec_l01Next.f (t1.2.1, t1.2.2.1, t1.2.2.2) 4).bind fun t3 => if t3.1 = 0 then ((spec_l01K.f t2).bind fun t4 => (spec_l01Next.f (t3.2.1, t3.2.2.1, t3.2.2.2) t4).bind fun t5 => if 0 ≤ t5.1 then (if t5.1 < (t2.length : Int) then ((spec_l01Next.f (t5.2.1, t5.2.2.1, t5.2.2.2) 3).bind fun t6 => if 0 ≤ t5.1 then (if t5.1 < (t2.length : Int) then ((spec_l01Next.f (t6.2.1, t6.2.2.1, t6.2.2.2) 24).bind fun t7 => if t7.1 = 0 then ((spec_l01Draw.f k (t7.2.1, t7.2.2.1, t7.2.2.2)).bind fun t8 => some (t8.1, t8.2.1, t8.2.2.1, t8.2.2.2)) else (some ((t2.set t5.1.toNat (maxV (wrap64 ((wrap64 ((rd t2 t5.1) + t6.1)) - 1)) 1)), t7.2.1, t7.2.2.1, t7.2.2.2))) else none) else none) else none) else none) else ((spec_l01Next.f (t3.2.1, t3.2.2.1, t3.2.2.2) 24).bind fun t9 => if t9.1 = 0 then ((spec_l01Draw.f k (t9.2.1, t9.2.2.1, t9.2.2.2)).bind fun t10 => some (t10.1, t10.2.1, t10.2.2.1, t10.2.2.2)) else (some (t2, t9.2.1, t9.2.2.1, t9.2.2.2)))) else none) else none
def S118 (k : Nat) : Does := ⟨[sC], [(true, [.own 2 (.int .i64)])], spec_l02DrawOf.f k⟩
def E118 (k : Nat) : En := ⟨tb, orcOf [(60, S60 k), (66, S66 k), (139, S139 k), (142, S142 k)], lvOf [], k, 1, lvOf [], [1074135040]⟩
theorem M118 (k) : Meets Tryz.prog 118 (S118 k) := mo Tryz.func118 (oc (M60 k) (oc (M66 k) (oc (M139 k) (oc (M142 k) on)))) fun x => (by kernel_rfl : funK (E118 k) (S118 k) Tryz.f118 x = (S118 k).fn x)
abbrev O119 := Option ((List Int) × ((List Int) × Int × Int))
abbrev T119_0 (R : Type) := (List Int) → (List Int) → Int → Int → R
def spec_l01Bad.s0 (k : Nat) (r0 : T119_0 O119) : T119_0 O119 := fun x5_0 b0_0 b0_1 b0_2 => if (x5_0.length : Int) ≤ 8 then (if x5_0.length + 1 ≤ 1099511627776 then (r0 (x5_0 ++ [9]) b0_0 b0_1 b0_2) else none) else (some (x5_0, b0_0, b0_1, b0_2))
def spec_l01Bad.l0 (k : Nat) : Nat → T119_0 O119
 | 0 => Z4
 | n + 1 => spec_l01Bad.s0 k (spec_l01Bad.l0 k n)
def spec_l01Bad.g (k : Nat) (r0 : T119_0 O119) (a0 : (List Int) × Int × Int) (l1_0 : List Int) : Option ((List Int) × ((List Int) × Int × Int)) := (spec_l01Own.f l1_0).bind fun t1 => (spec_l01Next.f (a0.1, a0.2.1, a0.2.2) 50).bind fun t2 => if (decide (t2.1 = 0)) = true then (some ([], t2.2.1, t2.2.2.1, t2.2.2.2)) else (if (decide (t2.1 = 1)) = true then ((spec_l01K.f l1_0).bind fun t3 => (spec_l01Next.f (t2.2.1, t2.2.2.1, t2.2.2.2) t3).bind fun t4 => (spec_l01Pick.f (t4.2.1, t4.2.2.1, t4.2.2.2) [0, 41, (-1), 1099511627776]).bind fun t5 => if 0 ≤ t4.1 then (if t4.1 < (t1.length : Int) then (some ((t1.set t4.1.toNat t5.1), t5.2.1, t5.2.2.1, t5.2.2.2)) else none) else none) else (if (decide (t2.1 = 2)) = true then (r0 t1 t2.2.1 t2.2.2.1 t2.2.2.2) else (some (l1_0, t2.2.1, t2.2.2.1, t2.2.2.2))))
def spec_l01Bad.f (k : Nat) (a0 : (List Int) × Int × Int) (l1_0 : List Int) : Option ((List Int) × ((List Int) × Int × Int)) := spec_l01Bad.g k (spec_l01Bad.l0 k k) a0 l1_0
def S119 (k : Nat) : Does := ⟨[sC, sT], [sT], U2 (spec_l01Bad.f k)⟩
def E119 (k : Nat) : En := ⟨tb, orcOf [(66, S66 k), (60, S60 k), (139, S139 k), (49, S49 k)], lvOf [(1, lz [4, 5])], k, 1, lvOf [], [1074135040, 1074136640]⟩
def n119_0 : T119_0 St := fun x5_0 b0_0 b0_1 b0_2 => ⟨41, lookA [(4, .box 1 0), (5, .box 2 0)], Go.V.look [(0, .cells [aU b0_0, aI b0_1, aQ b0_2]), (1, .cells [.nil]), (2, .cells [.own 3]), (3, .flat 2 (.int .i64) x5_0)]⟩
def p119_0 : List Bool := [t', t', f', t', f', t', t', t', t', t', f', f', f']
def L119 (k : Nat) (p : List Bool) (r : List (St → O119)) : Nat → St → O119 := loopF (E119 k) (S119 k) Tryz.f119 p r
theorem r119_0 (k) (rec : St → O119) (v) : roundF (E119 k) (S119 k) Tryz.f119 p119_0 [] rec (U4 n119_0 v) = U4 (spec_l01Bad.s0 k (W4 rec n119_0)) v := by kernel_rfl
theorem q119_0 (k) (n) : W4 (L119 k p119_0 [] n) n119_0 = spec_l01Bad.l0 k n :=
 u4 (lq (E119 k) (S119 k) (fun rec => U4 (spec_l01Bad.s0 k (C4 rec))) (fun n => U4 (spec_l01Bad.l0 k n)) (r119_0 k) n)
theorem M119 (k) : Meets Tryz.prog 119 (S119 k) := mo Tryz.func119 (oc (M66 k) (oc (M60 k) (oc (M139 k) (oc (M49 k) on)))) fun x => (show funK (E119 k) (S119 k) Tryz.f119 x = spec_l01Bad.g k (W4 (L119 k p119_0 [] k) n119_0) x.1 x.2 by kernel_rfl).trans (by rw [q119_0]; rfl)
def spec_l01Near.f (a0 : (List Int) × Int × Int) (a1 : Int) : Option (Int × ((List Int) × Int × Int)) := (spec_l01Next.f (a0.1, a0.2.1, a0.2.2) 14).bind fun t1 => if t1.1 = 0 then ((spec_l01Pick.f (t1.2.1, t1.2.2.1, t1.2.2.2) [(-1), (wrap64 (a1 + 1)), 1099511627776, (-4611686018427387904)]).bind fun t2 => some (t2.1, t2.2.1, t2.2.2.1, t2.2.2.2)) else ((spec_l01Next.f (t1.2.1, t1.2.2.1, t1.2.2.2) (wrap64 (a1 + 1))).bind fun t3 => some (t3.1, t3.2.1, t3.2.2.1, t3.2.2.2))
def S50 (k : Nat) : Does := ⟨[sC, sI], [sI], U2 spec_l01Near.f⟩
def E50 (k : Nat) : En := ⟨tb, orcOf [(60, S60 k), (49, S49 k)], lvOf [], k, 1, lvOf [], []⟩
theorem M50 (k) : Meets Tryz.prog 50 (S50 k) := mo Tryz.func50 (oc (M60 k) (oc (M49 k) on)) fun x => (by kernel_rfl : funK (E50 k) (S50 k) Tryz.f50 x = (S50 k).fn x)
def spec_l08DrawTwo.f (k : Nat) (l0 : List Int) : Option ((List Int) × Int) := (spec_l01From.f k l0).bind fun t1 => (spec_l02DrawOf.f k (t1.1, t1.2.1, t1.2.2)).bind fun t2 => (spec_l01Next.f (t2.2.1, t2.2.2.1, t2.2.2.2) 2).bind fun t3 => if t3.1 = 0 then ((spec_l01Next.f (t3.2.1, t3.2.2.1, t3.2.2.2) 10).bind fun t4 => if 0 ≤ t4.1 then (if t4.1 < 10 then ((spec_l01Own.f (rdOf ([] : List Int) [[1, 2, 2], [1, 1], [2, 2, 2], [2, 2, 3, 3], [1, 3, 3, 3], [2, 3, 3, 3], [1, 1, 1, 1], [1, 1, 1, 1, 1], [3, 3, 3, 3, 3], [2, 4, 4, 4]] t4.1)).bind fun t5 => (spec_l01Bad.f k (t4.2.1, t4.2.2.1, t4.2.2.2) t5).bind fun t6 => (spec_l01Near.f (t6.2.1, t6.2.2.1, t6.2.2.2) 4).bind fun t7 => (spec_l01Pick.f (t7.2.1, t7.2.2.1, t7.2.2.2) [1, 2, 2, 3, t7.1]).bind fun t8 => some (t6.1, t8.1)) else none) else none) else ((spec_l01Bad.f k (t3.2.1, t3.2.2.1, t3.2.2.2) t2.1).bind fun t9 => (spec_l01Near.f (t9.2.1, t9.2.2.1, t9.2.2.2) 4).bind fun t10 => (spec_l01Pick.f (t10.2.1, t10.2.2.1, t10.2.2.2) [1, 2, 2, 3, t10.1]).bind fun t11 => some (t9.1, t11.1))
def S77 (k : Nat) : Does := ⟨[sU], [sT, sI], spec_l08DrawTwo.f k⟩
def E77 (k : Nat) : En := ⟨tb, orcOf [(48, S48 k), (118, S118 k), (60, S60 k), (66, S66 k), (119, S119 k), (50, S50 k), (49, S49 k)], lvOf [], k, 0, lvOf [], []⟩
theorem M77 (k) : Meets Tryz.prog 77 (S77 k) := mo Tryz.func77 (oc (M48 k) (oc (M118 k) (oc (M60 k) (oc (M66 k) (oc (M119 k) (oc (M50 k) (oc (M49 k) on))))))) fun x => (by kernel_rfl : funK (E77 k) (S77 k) Tryz.f77 x = (S77 k).fn x)
def spec_DrawFirstSplit.f (k : Nat) (l0 : List Int) : Option ((List Int) × Int) := (spec_l08DrawTwo.f k l0).bind fun t1 => some (t1.1, t1.2)
def S26 (k : Nat) : Does := ⟨[sU], [sT, sI], spec_DrawFirstSplit.f k⟩
def E26 (k : Nat) : En := ⟨tb, orcOf [(77, S77 k)], lvOf [], k, 0, lvOf [], []⟩
theorem M26 (k) : Meets Tryz.prog 26 (S26 k) := mo Tryz.func26 (oc (M77 k) on) fun x => (by kernel_rfl : funK (E26 k) (S26 k) Tryz.f26 x = (S26 k).fn x)
def impl_length_int64.f (l0 : List Int) : Option (Int) := some (l0.length : Int)
def S93 (k : Nat) : Does := ⟨[sL], [sI], impl_length_int64.f⟩
def E93 (k : Nat) : En := ⟨tb, orcOf [], lvOf [], k, 0, lvOf [], []⟩
theorem M93 (k) : Meets Tryz.prog 93 (S93 k) := mo Tryz.func93 on fun x => (by kernel_rfl : funK (E93 k) (S93 k) Tryz.f93 x = (S93 k).fn x)
def impl_Tasks_many.f (l0_0 : List Int) : Option (Int) := (impl_length_int64.f l0_0).bind fun t1 => some t1
def S104 (k : Nat) : Does := ⟨[sT], [sI], impl_Tasks_many.f⟩
def E104 (k : Nat) : En := ⟨tb, orcOf [(93, S93 k)], lvOf [], k, 0, lvOf [], []⟩
theorem M104 (k) : Meets Tryz.prog 104 (S104 k) := mo Tryz.func104 (oc (M93 k) on) fun x => (by kernel_rfl : funK (E104 k) (S104 k) Tryz.f104 x = (S104 k).fn x)
def impl_within.f (a0 : Int) (a1 : Int) (a2 : Int) : Option (Bool) := if a1 ≤ a0 then (some (decide (a0 ≤ a2))) else (some false)
def S54 (k : Nat) : Does := ⟨[sI, sI, sI], [sB], U3 impl_within.f⟩
def E54 (k : Nat) : En := ⟨tb, orcOf [], lvOf [], k, 0, lvOf [], []⟩
theorem M54 (k) : Meets Tryz.prog 54 (S54 k) := mo Tryz.func54 on fun x => (by kernel_rfl : funK (E54 k) (S54 k) Tryz.f54 x = (S54 k).fn x)
abbrev O134 := Option (Bool)
abbrev T134_0 (R : Type) := (List Int) → (List Int) → Int → Int → R
def impl_Tasks_isState.s0 (k : Nat) (r0 : T134_0 O134) : T134_0 O134 := fun x2_0 x12 x13 x14 => if x14 < x13 then (if 0 ≤ x14 then (if x14 < x12.length then (if 0 ≤ x14 then (if x14 < x2_0.length then ((impl_within.f (rd x12 x14) 1 (rd x2_0 x14)).bind fun t3 => if t3 = true then (r0 x2_0 x12 x13 (wrap64 (x14 + 1))) else (some false)) else none) else none) else none) else none) else (some true)
def impl_Tasks_isState.l0 (k : Nat) : Nat → T134_0 O134
 | 0 => Z4
 | n + 1 => impl_Tasks_isState.s0 k (impl_Tasks_isState.l0 k n)
def impl_Tasks_isState.g (k : Nat) (r0 : T134_0 O134) (l0_0 : List Int) (l1 : List Int) : Option (Bool) := (impl_length_int64.f l1).bind fun t1 => (impl_Tasks_many.f l0_0).bind fun t2 => if t1 = t2 then (r0 l0_0 l1 (l1.length : Int) 0) else (some false)
def impl_Tasks_isState.f (k : Nat) (l0_0 : List Int) (l1 : List Int) : Option (Bool) := impl_Tasks_isState.g k (impl_Tasks_isState.l0 k k) l0_0 l1
def S134 (k : Nat) : Does := ⟨[sT, sL], [sB], U2 (impl_Tasks_isState.f k)⟩
def E134 (k : Nat) : En := ⟨tb, orcOf [(93, S93 k), (104, S104 k), (54, S54 k)], lvOf [(0, lz [2, 12, 13, 14])], k, 0, lvOf [], []⟩
def n134_0 : T134_0 St := fun x2_0 x12 x13 x14 => ⟨28, lookA [(2, .box 0 0), (12, aL x12), (13, aI x13), (14, aI x14)], Go.V.look [(0, .cells [aL x2_0])]⟩
def p134_0 : List Bool := [t', t', f', t', f']
def L134 (k : Nat) (p : List Bool) (r : List (St → O134)) : Nat → St → O134 := loopF (E134 k) (S134 k) Tryz.f134 p r
theorem r134_0 (k) (rec : St → O134) (v) : roundF (E134 k) (S134 k) Tryz.f134 p134_0 [] rec (U4 n134_0 v) = U4 (impl_Tasks_isState.s0 k (W4 rec n134_0)) v := by kernel_rfl
theorem q134_0 (k) (n) : W4 (L134 k p134_0 [] n) n134_0 = impl_Tasks_isState.l0 k n :=
 u4 (lq (E134 k) (S134 k) (fun rec => U4 (impl_Tasks_isState.s0 k (C4 rec))) (fun n => U4 (impl_Tasks_isState.l0 k n)) (r134_0 k) n)
theorem M134 (k) : Meets Tryz.prog 134 (S134 k) := mo Tryz.func134 (oc (M93 k) (oc (M104 k) (oc (M54 k) on))) fun x => (show funK (E134 k) (S134 k) Tryz.f134 x = impl_Tasks_isState.g k (W4 (L134 k p134_0 [] k) n134_0) x.1 x.2 by kernel_rfl).trans (by rw [q134_0]; rfl)
def impl_IsTasks_1.f (a0 : Int) : Option (Bool) := (impl_within.f a0 1 40).bind fun t1 => some t1
def S114 (k : Nat) : Does := ⟨[sI], [sB], impl_IsTasks_1.f⟩
def E114 (k : Nat) : En := ⟨tb, orcOf [(54, S54 k)], lvOf [], k, 0, lvOf [], []⟩
theorem M114 (k) : Meets Tryz.prog 114 (S114 k) := mo Tryz.func114 (oc (M54 k) on) fun x => (by kernel_rfl : funK (E114 k) (S114 k) Tryz.f114 x = (S114 k).fn x)
def impl_areAll_int64_1_impl_IsTasks_1.f (a0 : Int) (a1 : Unit) : Option (Bool) := (impl_IsTasks_1.f a0).bind fun t1 => some (!decide (t1 = true))
def S128_c114 (k : Nat) : Does := ⟨[sI, (false, [.dat (.ptr (.clo 114 .unit))])], [sB], U2 impl_areAll_int64_1_impl_IsTasks_1.f⟩
def E128_c114 (k : Nat) : En := ⟨tb, orcOf [(114, S114 k)], lvOf [], k, 0, lvOf [], []⟩
theorem M128_c114 (k) : Meets Tryz.prog 128 (S128_c114 k) := mo Tryz.func128 (oc (M114 k) on) fun x => (by kernel_rfl : funK (E128_c114 k) (S128_c114 k) Tryz.f128 x = (S128_c114 k).fn x)
abbrev O144_c128c114 := Option (Int)
abbrev T144_c128c114_0 (R : Type) := (List Int) → Unit → Int → Int → R
def slices_IndexFunc_int64_int64_impl_areAll_int64_1_impl_IsTasks_1.s0 (k : Nat) (r0 : T144_c128c114_0 O144_c128c114) : T144_c128c114_0 O144_c128c114 := fun x0 x1 x7 x8 => if x8 < x7 then (if 0 ≤ x8 then (if x8 < x0.length then ((impl_areAll_int64_1_impl_IsTasks_1.f (rd x0 x8) x1).bind fun t1 => if t1 = true then (some x8) else (r0 x0 x1 x7 (wrap64 (x8 + 1)))) else none) else none) else (some (-1))
def slices_IndexFunc_int64_int64_impl_areAll_int64_1_impl_IsTasks_1.l0 (k : Nat) : Nat → T144_c128c114_0 O144_c128c114
 | 0 => Z4
 | n + 1 => slices_IndexFunc_int64_int64_impl_areAll_int64_1_impl_IsTasks_1.s0 k (slices_IndexFunc_int64_int64_impl_areAll_int64_1_impl_IsTasks_1.l0 k n)
def slices_IndexFunc_int64_int64_impl_areAll_int64_1_impl_IsTasks_1.g (k : Nat) (r0 : T144_c128c114_0 O144_c128c114) (l0 : List Int) (a1 : Unit) : Option (Int) := r0 l0 a1 (l0.length : Int) 0
def slices_IndexFunc_int64_int64_impl_areAll_int64_1_impl_IsTasks_1.f (k : Nat) (l0 : List Int) (a1 : Unit) : Option (Int) := slices_IndexFunc_int64_int64_impl_areAll_int64_1_impl_IsTasks_1.g k (slices_IndexFunc_int64_int64_impl_areAll_int64_1_impl_IsTasks_1.l0 k k) l0 a1
def S144_c128c114 (k : Nat) : Does := ⟨[sL, (false, [.dat (.clo 128 (.ptr (.clo 114 .unit)))])], [sI], U2 (slices_IndexFunc_int64_int64_impl_areAll_int64_1_impl_IsTasks_1.f k)⟩
def E144_c128c114 (k : Nat) : En := ⟨tb, orcOf [(128, S128_c114 k)], lvOf [(0, lz [0, 1, 7, 8])], k, 0, lvOf [], []⟩
def n144_c128c114_0 : T144_c128c114_0 St := fun x0 x1 x7 x8 => ⟨19, lookA [(0, aL x0), (1, .dat (.clo 128 (.ptr (.clo 114 .unit))) x1), (7, aI x7), (8, aI x8)], Go.V.look []⟩
def p144_c128c114_0 : List Bool := [t', f', t', f']
def L144_c128c114 (k : Nat) (p : List Bool) (r : List (St → O144_c128c114)) : Nat → St → O144_c128c114 := loopF (E144_c128c114 k) (S144_c128c114 k) Tryz.f144 p r
theorem r144_c128c114_0 (k) (rec : St → O144_c128c114) (v) : roundF (E144_c128c114 k) (S144_c128c114 k) Tryz.f144 p144_c128c114_0 [] rec (U4 n144_c128c114_0 v) = U4 (slices_IndexFunc_int64_int64_impl_areAll_int64_1_impl_IsTasks_1.s0 k (W4 rec n144_c128c114_0)) v := by kernel_rfl
theorem q144_c128c114_0 (k) (n) : W4 (L144_c128c114 k p144_c128c114_0 [] n) n144_c128c114_0 = slices_IndexFunc_int64_int64_impl_areAll_int64_1_impl_IsTasks_1.l0 k n :=
 u4 (lq (E144_c128c114 k) (S144_c128c114 k) (fun rec => U4 (slices_IndexFunc_int64_int64_impl_areAll_int64_1_impl_IsTasks_1.s0 k (C4 rec))) (fun n => U4 (slices_IndexFunc_int64_int64_impl_areAll_int64_1_impl_IsTasks_1.l0 k n)) (r144_c128c114_0 k) n)
theorem M144_c128c114 (k) : Meets Tryz.prog 144 (S144_c128c114 k) := mo Tryz.func144 (oc (M128_c114 k) on) fun x => (show funK (E144_c128c114 k) (S144_c128c114 k) Tryz.f144 x = slices_IndexFunc_int64_int64_impl_areAll_int64_1_impl_IsTasks_1.g k (W4 (L144_c128c114 k p144_c128c114_0 [] k) n144_c128c114_0) x.1 x.2 by kernel_rfl).trans (by rw [q144_c128c114_0]; rfl)
def slices_ContainsFunc_int64_int64_impl_areAll_int64_1_impl_IsTasks_1.f (k : Nat) (l0 : List Int) (a1 : Unit) : Option (Bool) := (slices_IndexFunc_int64_int64_impl_areAll_int64_1_impl_IsTasks_1.f k l0 a1).bind fun t1 => some (decide (0 ≤ t1))
def S127_c128c114 (k : Nat) : Does := ⟨[sL, (false, [.dat (.clo 128 (.ptr (.clo 114 .unit)))])], [sB], U2 (slices_ContainsFunc_int64_int64_impl_areAll_int64_1_impl_IsTasks_1.f k)⟩
def E127_c128c114 (k : Nat) : En := ⟨tb, orcOf [(144, S144_c128c114 k)], lvOf [], k, 0, lvOf [], []⟩
theorem M127_c128c114 (k) : Meets Tryz.prog 127 (S127_c128c114 k) := mo Tryz.func127 (oc (M144_c128c114 k) on) fun x => (by kernel_rfl : funK (E127_c128c114 k) (S127_c128c114 k) Tryz.f127 x = (S127_c128c114 k).fn x)
def impl_areAll_int64_impl_IsTasks_1.f (k : Nat) (l0 : List Int) (a1 : Unit) : Option (Bool) := (slices_ContainsFunc_int64_int64_impl_areAll_int64_1_impl_IsTasks_1.f k l0 a1).bind fun t1 => some (!decide (t1 = true))
def S94_c114 (k : Nat) : Does := ⟨[sL, (false, [.dat (.clo 114 .unit)])], [sB], U2 (impl_areAll_int64_impl_IsTasks_1.f k)⟩
def E94_c114 (k : Nat) : En := ⟨tb, orcOf [(127, S127_c128c114 k)], lvOf [], k, 0, lvOf [], []⟩
theorem M94_c114 (k) : Meets Tryz.prog 94 (S94_c114 k) := mo Tryz.func94 (oc (M127_c128c114 k) on) fun x => (by kernel_rfl : funK (E94_c114 k) (S94_c114 k) Tryz.f94 x = (S94_c114 k).fn x)
def impl_IsTasks.f (k : Nat) (l0_0 : List Int) : Option (Bool) := (impl_length_int64.f l0_0).bind fun t1 => (impl_within.f t1 1 8).bind fun t2 => if t2 = true then ((impl_areAll_int64_impl_IsTasks_1.f k l0_0 ()).bind fun t3 => some t3) else (some false)
def S63 (k : Nat) : Does := ⟨[sT], [sB], impl_IsTasks.f k⟩
def E63 (k : Nat) : En := ⟨tb, orcOf [(93, S93 k), (54, S54 k), (94, S94_c114 k)], lvOf [], k, 0, lvOf [], []⟩
theorem M63 (k) : Meets Tryz.prog 63 (S63 k) := mo Tryz.func63 (oc (M93 k) (oc (M54 k) (oc (M94_c114 k) on))) fun x => (by kernel_rfl : funK (E63 k) (S63 k) Tryz.f63 x = (S63 k).fn x)
def impl_tasksCode.f (k : Nat) (l0_0 : List Int) (a1 : Bool) : Option (Int) := (impl_IsTasks.f k l0_0).bind fun t1 => if (!decide (t1 = true)) = true then (some 1) else (if (!decide (a1 = true)) = true then (some 2) else (some 0))
def S103 (k : Nat) : Does := ⟨[sT, sB], [sI], U2 (impl_tasksCode.f k)⟩
def E103 (k : Nat) : En := ⟨tb, orcOf [(63, S63 k)], lvOf [], k, 0, lvOf [], []⟩
theorem M103 (k) : Meets Tryz.prog 103 (S103 k) := mo Tryz.func103 (oc (M63 k) on) fun x => (by kernel_rfl : funK (E103 k) (S103 k) Tryz.f103 x = (S103 k).fn x)
abbrev O68 := Option (Int)
abbrev T68_0 (R : Type) := Int → (List Int) → Int → Int → R
def impl_Tasks_states.s0 (k : Nat) (r0 : T68_0 O68) : T68_0 O68 := fun x3 x7 x8 x9 => if x9 < x8 then (if 0 ≤ x9 then (if x9 < x7.length then (r0 (wrap64 (x3 * (rd x7 x9))) x7 x8 (wrap64 (x9 + 1))) else none) else none) else (some x3)
def impl_Tasks_states.l0 (k : Nat) : Nat → T68_0 O68
 | 0 => Z4
 | n + 1 => impl_Tasks_states.s0 k (impl_Tasks_states.l0 k n)
def impl_Tasks_states.g (k : Nat) (r0 : T68_0 O68) (l0_0 : List Int) : Option (Int) := r0 1 l0_0 (l0_0.length : Int) 0
def impl_Tasks_states.f (k : Nat) (l0_0 : List Int) : Option (Int) := impl_Tasks_states.g k (impl_Tasks_states.l0 k k) l0_0
def S68 (k : Nat) : Does := ⟨[sT], [sI], impl_Tasks_states.f k⟩
def E68 (k : Nat) : En := ⟨tb, orcOf [], lvOf [(0, lz [3, 7, 8, 9])], k, 0, lvOf [], []⟩
def n68_0 : T68_0 St := fun x3 x7 x8 x9 => ⟨18, lookA [(3, aI x3), (7, aL x7), (8, aI x8), (9, aI x9)], Go.V.look []⟩
def p68_0 : List Bool := [t', t', f', t', f']
def L68 (k : Nat) (p : List Bool) (r : List (St → O68)) : Nat → St → O68 := loopF (E68 k) (S68 k) Tryz.f68 p r
theorem r68_0 (k) (rec : St → O68) (v) : roundF (E68 k) (S68 k) Tryz.f68 p68_0 [] rec (U4 n68_0 v) = U4 (impl_Tasks_states.s0 k (W4 rec n68_0)) v := by kernel_rfl
theorem q68_0 (k) (n) : W4 (L68 k p68_0 [] n) n68_0 = impl_Tasks_states.l0 k n :=
 u4 (lq (E68 k) (S68 k) (fun rec => U4 (impl_Tasks_states.s0 k (C4 rec))) (fun n => U4 (impl_Tasks_states.l0 k n)) (r68_0 k) n)
theorem M68 (k) : Meets Tryz.prog 68 (S68 k) := mo Tryz.func68 on fun x => (show funK (E68 k) (S68 k) Tryz.f68 x = impl_Tasks_states.g k (W4 (L68 k p68_0 [] k) n68_0) x by kernel_rfl).trans (by rw [q68_0]; rfl)
def impl_statesCode.f (k : Nat) (l0_0 : List Int) (a1 : Bool) : Option (Int) := (impl_tasksCode.f k l0_0 a1).bind fun t1 => if t1 = 0 then ((impl_Tasks_states.f k l0_0).bind fun t2 => if 4000 < t2 then (some 3) else (some 0)) else (some t1)
def S78 (k : Nat) : Does := ⟨[sT, sB], [sI], U2 (impl_statesCode.f k)⟩
def E78 (k : Nat) : En := ⟨tb, orcOf [(103, S103 k), (68, S68 k)], lvOf [], k, 0, lvOf [], []⟩
theorem M78 (k) : Meets Tryz.prog 78 (S78 k) := mo Tryz.func78 (oc (M103 k) (oc (M68 k) on)) fun x => (by kernel_rfl : funK (E78 k) (S78 k) Tryz.f78 x = (S78 k).fn x)
abbrev O125 := Option (List Int)
abbrev T125_0 (R : Type) := Int → (List Int) → (List Int) → Int → R
def impl_Tasks_numbered.s0 (k : Nat) (r0 : T125_0 O125) : T125_0 O125 := fun x1 x2_0 x5 x6 => if 0 ≤ x6 then (if 0 ≤ x6 then (if x6 < x2_0.length then (if (rd x2_0 x6) = 0 then none else (if 0 ≤ x6 then (if x6 < x5.length then (if 0 ≤ x6 then (if x6 < x2_0.length then (if (rd x2_0 x6) = 0 then none else (r0 (wrap64 (Int.tdiv x1 (rd x2_0 x6))) x2_0 (x5.set x6.toNat (wrap64 ((Int.tmod x1 (rd x2_0 x6)) + 1))) (wrap64 (x6 - 1)))) else none) else none) else none) else none)) else none) else none) else (some x5)
def impl_Tasks_numbered.l0 (k : Nat) : Nat → T125_0 O125
 | 0 => Z4
 | n + 1 => impl_Tasks_numbered.s0 k (impl_Tasks_numbered.l0 k n)
def impl_Tasks_numbered.g (k : Nat) (r0 : T125_0 O125) (l0_0 : List Int) (a1 : Int) : Option (List Int) := (impl_Tasks_many.f l0_0).bind fun t1 => if 0 ≤ t1 then (if t1 ≤ t1 then (if t1.toNat ≤ 1099511627776 then ((impl_Tasks_many.f l0_0).bind fun t2 => r0 a1 l0_0 (List.replicate t1.toNat (0 : Int)) (wrap64 (t2 - 1))) else none) else none) else none
def impl_Tasks_numbered.f (k : Nat) (l0_0 : List Int) (a1 : Int) : Option (List Int) := impl_Tasks_numbered.g k (impl_Tasks_numbered.l0 k k) l0_0 a1
def S125 (k : Nat) : Does := ⟨[sT, sI], [(false, [.own 2 (.int .i64)])], U2 (impl_Tasks_numbered.f k)⟩
def E125 (k : Nat) : En := ⟨tb, orcOf [(104, S104 k)], lvOf [(0, lz [1, 2, 5, 6])], k, 0, lvOf [], []⟩
def n125_0 : T125_0 St := fun x1 x2_0 x5 x6 => ⟨36, lookA [(1, aI x1), (2, .box 0 0), (5, .own 1), (6, aI x6)], Go.V.look [(0, .cells [aL x2_0]), (1, .flat 2 (.int .i64) x5)]⟩
def p125_0 : List Bool := [t', t', f', t', f']
def L125 (k : Nat) (p : List Bool) (r : List (St → O125)) : Nat → St → O125 := loopF (E125 k) (S125 k) Tryz.f125 p r
theorem r125_0 (k) (rec : St → O125) (v) : roundF (E125 k) (S125 k) Tryz.f125 p125_0 [] rec (U4 n125_0 v) = U4 (impl_Tasks_numbered.s0 k (W4 rec n125_0)) v := by kernel_rfl
theorem q125_0 (k) (n) : W4 (L125 k p125_0 [] n) n125_0 = impl_Tasks_numbered.l0 k n :=
 u4 (lq (E125 k) (S125 k) (fun rec => U4 (impl_Tasks_numbered.s0 k (C4 rec))) (fun n => U4 (impl_Tasks_numbered.l0 k n)) (r125_0 k) n)
theorem M125 (k) : Meets Tryz.prog 125 (S125 k) := mo Tryz.func125 (oc (M104 k) on) fun x => (show funK (E125 k) (S125 k) Tryz.f125 x = impl_Tasks_numbered.g k (W4 (L125 k p125_0 [] k) n125_0) x.1 x.2 by kernel_rfl).trans (by rw [q125_0]; rfl)
def slices_Clone_int64_int64.f (l : List Int) : Option (List Int) := if l.length = 0 then some [] else if 0 + l.length ≤ 1099511627776 then some ([] ++ l) else none
def S73 (k : Nat) : Does := ⟨[(false, [.dat (.list (.int .i64))])], [(false, [.own 2 (.int .i64)])], fun x => slices_Clone_int64_int64.f x⟩
def E73 : En := ⟨tb, orcOf [], lvOf [], 0, 0, lvOf [], []⟩
theorem slices_Clone_int64_int64.e (l : List Int) (h : l.length ≠ 0) : slices_Clone_int64_int64.f l = (if l.length = 0 then none else if 0 + l.length ≤ 1099511627776 then some ([] ++ l) else none) := by
 unfold slices_Clone_int64_int64.f; rw [if_neg h, if_neg h]
theorem M73 (k : Nat) : Meets Tryz.prog 73 (S73 k) := by
 refine meets_nil (E := E73) (t := (.int .i64)) (rs := [(false, [.own 2 (.int .i64)])]) (F := slices_Clone_int64_int64.f) Tryz.func73 (by kernel_rfl) tbOk orc_nil mixOk rfl rfl rfl (fun l hl => ?_) (by kernel_rfl) (by kernel_rfl)
 refine Eq.trans ?_ (slices_Clone_int64_int64.e l hl).symm
 kernel_rfl
abbrev O141 := Option ((List Int) × Bool)
abbrev T141_0 (R : Type) := Int → (List Int) → (List Int) → Int → Int → R
def impl_Tasks_step.s0 (k : Nat) (r0 : T141_0 O141) : T141_0 O141 := fun x2 x3_0 x8 x13 x14 => if x14 < x13 then (if (decide (x14 = x2)) = true then (if 0 ≤ x14 then (if x14 < x3_0.length then (if 0 ≤ x14 then (if x14 < x8.length then (r0 x2 x3_0 (x8.set x14.toNat (rd x3_0 x14)) x13 (wrap64 (x14 + 1))) else none) else none) else none) else none) else (if 0 ≤ x14 then (if x14 < x8.length then (if (decide ((rd x8 x14) < 2)) = true then (some ([], false)) else (if 0 ≤ x14 then (if x14 < x8.length then (if 0 ≤ x14 then (if x14 < x8.length then (r0 x2 x3_0 (x8.set x14.toNat (wrap64 ((rd x8 x14) - 1))) x13 (wrap64 (x14 + 1))) else none) else none) else none) else none)) else none) else none)) else (some (x8, true))
def impl_Tasks_step.l0 (k : Nat) : Nat → T141_0 O141
 | 0 => Z5
 | n + 1 => impl_Tasks_step.s0 k (impl_Tasks_step.l0 k n)
def impl_Tasks_step.g (k : Nat) (r0 : T141_0 O141) (l0_0 : List Int) (l1 : List Int) (a2 : Int) : Option ((List Int) × Bool) := (slices_Clone_int64_int64.f l1).bind fun t1 => r0 a2 l0_0 t1 (t1.length : Int) 0
def impl_Tasks_step.f (k : Nat) (l0_0 : List Int) (l1 : List Int) (a2 : Int) : Option ((List Int) × Bool) := impl_Tasks_step.g k (impl_Tasks_step.l0 k k) l0_0 l1 a2
def S141 (k : Nat) : Does := ⟨[sT, sL, sI], [(false, [.own 2 (.int .i64)]), sB], U3 (impl_Tasks_step.f k)⟩
def E141 (k : Nat) : En := ⟨tb, orcOf [(73, S73 k)], lvOf [(0, lz [2, 3, 8, 13, 14])], k, 0, lvOf [], []⟩
def n141_0 : T141_0 St := fun x2 x3_0 x8 x13 x14 => ⟨43, lookA [(2, aI x2), (3, .box 0 0), (8, .own 1), (13, aI x13), (14, aI x14)], Go.V.look [(0, .cells [aL x3_0]), (1, .flat 2 (.int .i64) x8)]⟩
def p141_0 : List Bool := [t', t', f', t', f']
def L141 (k : Nat) (p : List Bool) (r : List (St → O141)) : Nat → St → O141 := loopF (E141 k) (S141 k) Tryz.f141 p r
theorem r141_0 (k) (rec : St → O141) (v) : roundF (E141 k) (S141 k) Tryz.f141 p141_0 [] rec (U5 n141_0 v) = U5 (impl_Tasks_step.s0 k (W5 rec n141_0)) v := by kernel_rfl
theorem q141_0 (k) (n) : W5 (L141 k p141_0 [] n) n141_0 = impl_Tasks_step.l0 k n :=
 u5 (lq (E141 k) (S141 k) (fun rec => U5 (impl_Tasks_step.s0 k (C5 rec))) (fun n => U5 (impl_Tasks_step.l0 k n)) (r141_0 k) n)
theorem M141 (k) : Meets Tryz.prog 141 (S141 k) := mo Tryz.func141 (oc (M73 k) on) fun x => (show funK (E141 k) (S141 k) Tryz.f141 x = impl_Tasks_step.g k (W5 (L141 k p141_0 [] k) n141_0) x.1 x.2.1 x.2.2 by kernel_rfl).trans (by rw [q141_0]; rfl)
abbrev O135 := Option (Int)
abbrev T135_0 (R : Type) := (List Int) → Int → (List Int) → Int → Int → R
def impl_Tasks_number.s0 (k : Nat) (r0 : T135_0 O135) : T135_0 O135 := fun x2_0 x5 x8 x9 x10 => if x10 < x9 then (if 0 ≤ x10 then (if x10 < x8.length then (if 0 ≤ x10 then (if x10 < x2_0.length then (r0 x2_0 (wrap64 ((wrap64 ((wrap64 (x5 * (rd x2_0 x10))) + (rd x8 x10))) - 1)) x8 x9 (wrap64 (x10 + 1))) else none) else none) else none) else none) else (some x5)
def impl_Tasks_number.l0 (k : Nat) : Nat → T135_0 O135
 | 0 => Z5
 | n + 1 => impl_Tasks_number.s0 k (impl_Tasks_number.l0 k n)
def impl_Tasks_number.g (k : Nat) (r0 : T135_0 O135) (l0_0 : List Int) (l1 : List Int) : Option (Int) := r0 l0_0 0 l1 (l1.length : Int) 0
def impl_Tasks_number.f (k : Nat) (l0_0 : List Int) (l1 : List Int) : Option (Int) := impl_Tasks_number.g k (impl_Tasks_number.l0 k k) l0_0 l1
def S135 (k : Nat) : Does := ⟨[sT, sL], [sI], U2 (impl_Tasks_number.f k)⟩
def E135 (k : Nat) : En := ⟨tb, orcOf [], lvOf [(0, lz [2, 5, 8, 9, 10])], k, 0, lvOf [], []⟩
def n135_0 : T135_0 St := fun x2_0 x5 x8 x9 x10 => ⟨27, lookA [(2, .box 0 0), (5, aI x5), (8, aL x8), (9, aI x9), (10, aI x10)], Go.V.look [(0, .cells [aL x2_0])]⟩
def p135_0 : List Bool := [t', t', f', t', f']
def L135 (k : Nat) (p : List Bool) (r : List (St → O135)) : Nat → St → O135 := loopF (E135 k) (S135 k) Tryz.f135 p r
theorem r135_0 (k) (rec : St → O135) (v) : roundF (E135 k) (S135 k) Tryz.f135 p135_0 [] rec (U5 n135_0 v) = U5 (impl_Tasks_number.s0 k (W5 rec n135_0)) v := by kernel_rfl
theorem q135_0 (k) (n) : W5 (L135 k p135_0 [] n) n135_0 = impl_Tasks_number.l0 k n :=
 u5 (lq (E135 k) (S135 k) (fun rec => U5 (impl_Tasks_number.s0 k (C5 rec))) (fun n => U5 (impl_Tasks_number.l0 k n)) (r135_0 k) n)
theorem M135 (k) : Meets Tryz.prog 135 (S135 k) := mo Tryz.func135 on fun x => (show funK (E135 k) (S135 k) Tryz.f135 x = impl_Tasks_number.g k (W5 (L135 k p135_0 [] k) n135_0) x.1 x.2 by kernel_rfl).trans (by rw [q135_0]; rfl)
abbrev O74 := Option (List Int)
abbrev T74_0 (R : Type) := ((List Int) × (List (List (Int × Int))) × (List Bool)) → Int → (List Int) → Int → R
def impl_graph_keeping.s0 (k : Nat) (r0 : T74_0 O74) : T74_0 O74 := fun x0 x1 x5 x6 => (impl_Tasks_many.f x0.1).bind fun t1 => if x6 < t1 then (if 0 ≤ x1 then (if x1 < x0.2.1.length then (if (mgI (rdOf ([] : List (Int × Int)) x0.2.1 x1) x6).isSome = true then (if 0 ≤ ((mgI (rdOf ([] : List (Int × Int)) x0.2.1 x1) x6).getD 0) then (if ((mgI (rdOf ([] : List (Int × Int)) x0.2.1 x1) x6).getD 0) < (x0.2.2.length : Int) then (if (rdOf false x0.2.2 ((mgI (rdOf ([] : List (Int × Int)) x0.2.1 x1) x6).getD 0)) = true then (if x5.length + 1 ≤ 1099511627776 then (r0 x0 x1 (x5 ++ [x6]) (wrap64 (x6 + 1))) else none) else (r0 x0 x1 x5 (wrap64 (x6 + 1)))) else none) else none) else (r0 x0 x1 x5 (wrap64 (x6 + 1)))) else none) else none) else (some x5)
def impl_graph_keeping.l0 (k : Nat) : Nat → T74_0 O74
 | 0 => Z4
 | n + 1 => impl_graph_keeping.s0 k (impl_graph_keeping.l0 k n)
def impl_graph_keeping.g (k : Nat) (r0 : T74_0 O74) (a0 : (List Int) × (List (List (Int × Int))) × (List Bool)) (a1 : Int) : Option (List Int) := r0 a0 a1 [] (-1)
def impl_graph_keeping.f (k : Nat) (a0 : (List Int) × (List (List (Int × Int))) × (List Bool)) (a1 : Int) : Option (List Int) := impl_graph_keeping.g k (impl_graph_keeping.l0 k k) a0 a1
def S74 (k : Nat) : Does := ⟨[(false, [.dat (.ptr (.struct (.pair (.struct (.list (.int .i64))) (.pair (.list (.map (.int .i64) (.int .i64))) (.list .bool)))))]), sI], [(false, [.own 2 (.int .i64)])], U2 (impl_graph_keeping.f k)⟩
def E74 (k : Nat) : En := ⟨tb, orcOf [(104, S104 k)], lvOf [(0, [(0, []), (1, []), (5, [.nil 2 (.int .i64)]), (6, [])])], k, 0, lvOf [], []⟩
def n74_0 : T74_0 St := fun x0 x1 x5 x6 => ⟨45, lookA [(0, .dp (.struct (.pair (.struct (.list (.int .i64))) (.pair (.list (.map (.int .i64) (.int .i64))) (.list .bool)))) x0), (1, aI x1), (5, .own 0), (6, aI x6)], Go.V.look [(0, .flat 2 (.int .i64) x5)]⟩
def p74_0 : List Bool := [t', t', f', t', f']
def L74 (k : Nat) (p : List Bool) (r : List (St → O74)) : Nat → St → O74 := loopF (E74 k) (S74 k) Tryz.f74 p r
theorem r74_0 (k) (rec : St → O74) (v) : roundF (E74 k) (S74 k) Tryz.f74 p74_0 [] rec (U4 n74_0 v) = U4 (impl_graph_keeping.s0 k (W4 rec n74_0)) v := by kernel_rfl
theorem q74_0 (k) (n) : W4 (L74 k p74_0 [] n) n74_0 = impl_graph_keeping.l0 k n :=
 u4 (lq (E74 k) (S74 k) (fun rec => U4 (impl_graph_keeping.s0 k (C4 rec))) (fun n => U4 (impl_graph_keeping.l0 k n)) (r74_0 k) n)
theorem M74 (k) : Meets Tryz.prog 74 (S74 k) := mo Tryz.func74 (oc (M104 k) on) fun x => (show funK (E74 k) (S74 k) Tryz.f74 x = impl_graph_keeping.g k (W4 (L74 k p74_0 [] k) n74_0) x.1 x.2 by kernel_rfl).trans (by rw [q74_0]; rfl)
abbrev O116 := Option (((List Int) × (List (List (Int × Int))) × (List Bool)))
abbrev T116_0 (R : Type) := (List Int) → (List Int) → (List (List (Int × Int))) → (List Bool) → Int → Int → R
abbrev T116_1 (R : Type) := (List Int) → (List Int) → (List (List (Int × Int))) → (List Bool) → Int → (List (Int × Int)) → Int → Int → Int → R
abbrev T116_2 (R : Type) := (List Int) → (List (List (Int × Int))) → (List Bool) → Bool → R
abbrev T116_3 (R : Type) := (List Int) → (List (List (Int × Int))) → (List Bool) → Bool → Int → Int → R
def impl_graphOf.s3 (k : Nat) (r2 : T116_2 O116) (r3 : T116_3 O116) : T116_3 O116 := fun x3_0 x3_1 x3_2 x9 x67 x68 => if x68 < x67 then (if 0 ≤ x68 then (if x68 < x3_2.length then (if (rdOf false x3_2 x68) = true then ((impl_graph_keeping.f k (x3_0, x3_1, x3_2) x68).bind fun t6 => if (t6.length : Int) = 0 then (if 0 ≤ x68 then (if x68 < x3_2.length then (r3 x3_0 x3_1 (x3_2.set x68.toNat false) true x67 (wrap64 (x68 + 1))) else none) else none) else (r3 x3_0 x3_1 x3_2 x9 x67 (wrap64 (x68 + 1)))) else (r3 x3_0 x3_1 x3_2 x9 x67 (wrap64 (x68 + 1)))) else none) else none) else (r2 x3_0 x3_1 x3_2 x9)
def impl_graphOf.l3 (k : Nat) (r2 : T116_2 O116) : Nat → T116_3 O116
 | 0 => Z6
 | n + 1 => impl_graphOf.s3 k r2 (impl_graphOf.l3 k r2 n)
def impl_graphOf.s2 (k : Nat) (r2 : T116_2 O116) (r3 : T116_3 O116) : T116_2 O116 := fun x3_0 x3_1 x3_2 x9 => if x9 = true then (r3 x3_0 x3_1 x3_2 false (x3_2.length : Int) 0) else (some (x3_0, x3_1, x3_2))
def impl_graphOf.l2 (k : Nat) : Nat → T116_2 O116
 | 0 => Z4
 | n + 1 => impl_graphOf.s2 k (impl_graphOf.l2 k n) (impl_graphOf.l3 k (impl_graphOf.l2 k n) k)
def impl_graphOf.s1 (k : Nat) (r0 : T116_0 O116) (r1 : T116_1 O116) : T116_1 O116 := fun x1_0 x3_0 x3_1 x3_2 x4 x5 x6 x16 x17 => (impl_Tasks_many.f x1_0).bind fun t2 => if x6 < t2 then ((impl_Tasks_numbered.f k x1_0 x4).bind fun t3 => (impl_Tasks_step.f k x1_0 t3 x6).bind fun t4 => if t4.2 = true then ((impl_Tasks_number.f k x1_0 t4.1).bind fun t5 => r1 x1_0 x3_0 x3_1 x3_2 x4 (mpI x5 x6 t5) (wrap64 (x6 + 1)) x16 x17) else (r1 x1_0 x3_0 x3_1 x3_2 x4 x5 (wrap64 (x6 + 1)) x16 x17)) else (if x3_1.length + 1 ≤ 1099511627776 then (if x3_2.length + 1 ≤ 1099511627776 then (r0 x1_0 x3_0 (x3_1 ++ [x5]) (x3_2 ++ [true]) x16 (wrap64 (x17 + 1))) else none) else none)
def impl_graphOf.l1 (k : Nat) (r0 : T116_0 O116) : Nat → T116_1 O116
 | 0 => Z9
 | n + 1 => impl_graphOf.s1 k r0 (impl_graphOf.l1 k r0 n)
def impl_graphOf.s0 (k : Nat) (r0 : T116_0 O116) (r1 : T116_1 O116) (r2 : T116_2 O116) : T116_0 O116 := fun x1_0 x3_0 x3_1 x3_2 x16 x17 => if x17 < x16 then (r1 x1_0 x3_0 x3_1 x3_2 x17 [] (-1) x16 x17) else (r2 x3_0 x3_1 x3_2 true)
def impl_graphOf.l0 (k : Nat) : Nat → T116_0 O116
 | 0 => Z6
 | n + 1 => impl_graphOf.s0 k (impl_graphOf.l0 k n) (impl_graphOf.l1 k (impl_graphOf.l0 k n) k) (impl_graphOf.l2 k k)
def impl_graphOf.g (k : Nat) (r0 : T116_0 O116) (l0_0 : List Int) : Option (((List Int) × (List (List (Int × Int))) × (List Bool))) := (impl_Tasks_states.f k l0_0).bind fun t1 => r0 l0_0 l0_0 [] [] t1 0
def impl_graphOf.f (k : Nat) (l0_0 : List Int) : Option (((List Int) × (List (List (Int × Int))) × (List Bool))) := impl_graphOf.g k (impl_graphOf.l0 k k) l0_0
def S116 (k : Nat) : Does := ⟨[sT], [(false, [.dat (.ptr (.struct (.pair (.struct (.list (.int .i64))) (.pair (.list (.map (.int .i64) (.int .i64))) (.list .bool)))))])], impl_graphOf.f k⟩
def E116 (k : Nat) : En := ⟨tb, orcOf [(68, S68 k), (104, S104 k), (125, S125 k), (141, S141 k), (135, S135 k), (74, S74 k)], lvOf [(0, [(1, []), (3, [.cell 1 92 (.map (.int .i64) (.int .i64)), .cell 2 4 .bool]), (16, []), (17, [])]), (2, lz [1, 3, 4, 5, 6, 16, 17]), (4, lz [3, 9]), (6, lz [3, 9, 66, 67, 68])], k, 0, lvOf [], []⟩
def n116_0 : T116_0 St := fun x1_0 x3_0 x3_1 x3_2 x16 x17 => ⟨89, lookA [(1, .box 0 0), (3, .box 1 0), (16, aI x16), (17, aI x17)], Go.V.look [(0, .cells [aL x1_0]), (1, .cells [aL x3_0, .own 2, .own 3]), (2, .flat 92 (.map (.int .i64) (.int .i64)) x3_1), (3, .flat 4 .bool x3_2)]⟩
def p116_0 : List Bool := [t', t', f', t', f']
def n116_1 : T116_1 St := fun x1_0 x3_0 x3_1 x3_2 x4 x5 x6 x16 x17 => ⟨89, lookA [(1, .box 0 0), (3, .box 1 0), (4, aI x4), (5, .om 2), (6, aI x6), (16, aI x16), (17, aI x17)], Go.V.look [(0, .cells [aL x1_0]), (1, .cells [aL x3_0, .own 3, .own 4]), (2, .mp (.int .i64) (.int .i64) x5), (3, .flat 92 (.map (.int .i64) (.int .i64)) x3_1), (4, .flat 4 .bool x3_2)]⟩
def p116_1 : List Bool := [t', t', f', t', f', f', t', t', f', f', t', t', f', t', f']
def n116_2 : T116_2 St := fun x3_0 x3_1 x3_2 x9 => ⟨89, lookA [(3, .box 0 0), (9, aB x9)], Go.V.look [(0, .cells [aL x3_0, .own 1, .own 2]), (1, .flat 92 (.map (.int .i64) (.int .i64)) x3_1), (2, .flat 4 .bool x3_2)]⟩
def p116_2 : List Bool := [t', t', t', f', t', f']
def n116_3 : T116_3 St := fun x3_0 x3_1 x3_2 x9 x67 x68 => ⟨89, lookA [(3, .box 0 0), (9, aB x9), (66, .own 1), (67, aI x67), (68, aI x68)], Go.V.look [(0, .cells [aL x3_0, .own 2, .own 1]), (1, .flat 4 .bool x3_2), (2, .flat 92 (.map (.int .i64) (.int .i64)) x3_1)]⟩
def p116_3 : List Bool := [t', t', t', f', t', f', f', t', f', t', t', f']
def L116 (k : Nat) (p : List Bool) (r : List (St → O116)) : Nat → St → O116 := loopF (E116 k) (S116 k) Tryz.f116 p r
theorem r116_3 (k) (R2 : St → O116) (rec : St → O116) (v) : roundF (E116 k) (S116 k) Tryz.f116 p116_3 [R2] rec (U6 n116_3 v) = U6 (impl_graphOf.s3 k (W4 R2 n116_2) (W6 rec n116_3)) v := by kernel_rfl
theorem q116_3 (k) (R2 : St → O116) (n) : W6 (L116 k p116_3 [R2] n) n116_3 = impl_graphOf.l3 k (W4 R2 n116_2) n :=
 u6 (lq (E116 k) (S116 k) (fun rec => U6 (impl_graphOf.s3 k (W4 R2 n116_2) (C6 rec))) (fun n => U6 (impl_graphOf.l3 k (W4 R2 n116_2) n)) (r116_3 k R2) n)
theorem r116_2 (k) (rec : St → O116) (G3 : T116_3 O116) (h3 : W6 (L116 k p116_3 [rec] k) n116_3 = G3) (v) : roundF (E116 k) (S116 k) Tryz.f116 p116_2 [] rec (U4 n116_2 v) = U4 (impl_graphOf.s2 k (W4 rec n116_2) G3) v := by
 subst h3
 kernel_rfl
theorem q116_2 (k) (n) : W4 (L116 k p116_2 [] n) n116_2 = impl_graphOf.l2 k n :=
 u4 (lq (E116 k) (S116 k) (fun rec => U4 (impl_graphOf.s2 k (C4 rec) (impl_graphOf.l3 k (C4 rec) k))) (fun n => U4 (impl_graphOf.l2 k n)) (fun rec v => r116_2 k rec _ (q116_3 k rec k) v) n)
theorem r116_1 (k) (R0 : St → O116) (rec : St → O116) (v) : roundF (E116 k) (S116 k) Tryz.f116 p116_1 [R0] rec (U9 n116_1 v) = U9 (impl_graphOf.s1 k (W6 R0 n116_0) (W9 rec n116_1)) v := by kernel_rfl
theorem q116_1 (k) (R0 : St → O116) (n) : W9 (L116 k p116_1 [R0] n) n116_1 = impl_graphOf.l1 k (W6 R0 n116_0) n :=
 u9 (lq (E116 k) (S116 k) (fun rec => U9 (impl_graphOf.s1 k (W6 R0 n116_0) (C9 rec))) (fun n => U9 (impl_graphOf.l1 k (W6 R0 n116_0) n)) (r116_1 k R0) n)
theorem r116_0 (k) (rec : St → O116) (G1 : T116_1 O116) (h1 : W9 (L116 k p116_1 [rec] k) n116_1 = G1) (G2 : T116_2 O116) (h2 : W4 (L116 k p116_2 [] k) n116_2 = G2) (v) : roundF (E116 k) (S116 k) Tryz.f116 p116_0 [] rec (U6 n116_0 v) = U6 (impl_graphOf.s0 k (W6 rec n116_0) G1 G2) v := by
 subst h1
 subst h2
 kernel_rfl
theorem q116_0 (k) (n) : W6 (L116 k p116_0 [] n) n116_0 = impl_graphOf.l0 k n :=
 u6 (lq (E116 k) (S116 k) (fun rec => U6 (impl_graphOf.s0 k (C6 rec) (impl_graphOf.l1 k (C6 rec) k) (impl_graphOf.l2 k k))) (fun n => U6 (impl_graphOf.l0 k n)) (fun rec v => r116_0 k rec _ (q116_1 k rec k) _ (q116_2 k k) v) n)
theorem M116 (k) : Meets Tryz.prog 116 (S116 k) := mo Tryz.func116 (oc (M68 k) (oc (M104 k) (oc (M125 k) (oc (M141 k) (oc (M135 k) (oc (M74 k) on)))))) fun x => (show funK (E116 k) (S116 k) Tryz.f116 x = impl_graphOf.g k (W6 (L116 k p116_0 [] k) n116_0) x by kernel_rfl).trans (by rw [q116_0]; rfl)
def impl_IsLasting.f (k : Nat) (l0_0 : List Int) (l1 : List Int) : Option (Bool × Int) := (impl_Tasks_isState.f k l0_0 l1).bind fun t1 => (impl_statesCode.f k l0_0 t1).bind fun t2 => if t2 = 0 then ((impl_graphOf.f k l0_0).bind fun t3 => (impl_Tasks_number.f k l0_0 l1).bind fun t4 => if 0 ≤ t4 then (if t4 < (t3.2.2.length : Int) then (some ((rdOf false t3.2.2 t4), 0)) else none) else none) else (some (false, t2))
def S102 (k : Nat) : Does := ⟨[sT, sL], [sB, sI], U2 (impl_IsLasting.f k)⟩
def E102 (k : Nat) : En := ⟨tb, orcOf [(134, S134 k), (78, S78 k), (116, S116 k), (135, S135 k)], lvOf [], k, 0, lvOf [], []⟩
theorem M102 (k) : Meets Tryz.prog 102 (S102 k) := mo Tryz.func102 (oc (M134 k) (oc (M78 k) (oc (M116 k) (oc (M135 k) on)))) fun x => (by kernel_rfl : funK (E102 k) (S102 k) Tryz.f102 x = (S102 k).fn x)
def impl_CanServe.f (k : Nat) (l0_0 : List Int) : Option (Bool × Int) := (impl_IsLasting.f k l0_0 l0_0).bind fun t1 => some (t1.1, t1.2)
def S40 (k : Nat) : Does := ⟨[sT], [sB, sI], impl_CanServe.f k⟩
def E40 (k : Nat) : En := ⟨tb, orcOf [(102, S102 k)], lvOf [], k, 0, lvOf [], []⟩
theorem M40 (k) : Meets Tryz.prog 40 (S40 k) := mo Tryz.func40 (oc (M102 k) on) fun x => (by kernel_rfl : funK (E40 k) (S40 k) Tryz.f40 x = (S40 k).fn x)
def impl_isChannels.f (a0 : Int) : Option (Bool) := (impl_within.f a0 1 4).bind fun t1 => some t1
def S79 (k : Nat) : Does := ⟨[sI], [sB], impl_isChannels.f⟩
def E79 (k : Nat) : En := ⟨tb, orcOf [(54, S54 k)], lvOf [], k, 0, lvOf [], []⟩
theorem M79 (k) : Meets Tryz.prog 79 (S79 k) := mo Tryz.func79 (oc (M54 k) on) fun x => (by kernel_rfl : funK (E79 k) (S79 k) Tryz.f79 x = (S79 k).fn x)
def numS (n : Int) : ByteArray := ⟨(Lib.decDigits n.toNat).toArray⟩
def joinS (xs : List ByteArray) (sep : ByteArray) : ByteArray := ⟨(Lib.join (xs.map (·.data.toList)) sep.data.toList).toArray⟩
def strconv_FormatInt.f (a b : Int) : Option ByteArray := if 0 ≤ a ∧ a ≤ 9223372036854775807 ∧ b = 10 then some (numS a) else none
def S149 (k : Nat) : Does := ⟨[sI, sI], [(false, [.dat .str])], U2 strconv_FormatInt.f⟩
theorem M149 (k) : Meets Tryz.prog 149 (S149 k) := by
 refine ⟨fun args w => by
  have hf := Tryz.func149
  have h1 : (Tryz.f149.name == "runtime.NumGoroutine") = false := by kernel_rfl
  have h1 : Tryz.f149.name ≠ "runtime.NumGoroutine" := by simpa using h1
  obtain ⟨c, hc⟩ := Option.isSome_iff_exists.1 (show Tryz.f149.body.isSome = true by kernel_rfl)
  simp [callFunc, hf, h1, hc, mark], ?_⟩
 intro w X args cells x y hc hX hp hn hgl hy
 obtain ⟨v1, vs1, cs1, -, rfl, -, rfl, v2, vs2, cs2, -, rfl, -, rfl, rfl, rfl⟩ := hc
 obtain ⟨u1, us, e1, h1, u2, e2, h2⟩ := hp
 obtain ⟨rfl, rfl⟩ := List.cons.inj e1
 obtain ⟨rfl, -⟩ := List.cons.inj e2
 obtain ⟨a, b⟩ := x
 have key : ∀ (a b : Int) (z : ByteArray), strconv_FormatInt.f a b = some z → 0 ≤ a ∧ a ≤ 9223372036854775807 ∧ b = 10 ∧ z = numS a := by
  intro a b z h
  unfold strconv_FormatInt.f at h
  split at h
  ·rename_i hc; exact ⟨hc.1, hc.2.1, hc.2.2, (Option.some.inj h).symm⟩
  ·cases h
 obtain ⟨h0, h100, hb, rfl⟩ := key a b y hy
 have hb : b = (10 : Int) := hb
 subst hb
 have h1 : [v1] = [Value.int .i64 a] := h1
 have h2 : [v2] = [Value.int .i64 10] := h2
 cases h1; cases h2
 obtain ⟨g, hg⟩ := Option.isSome_iff_exists.1 (show (Tryz.prog.globalNamed "internal/strconv.uint64pow10").isSome = true by kernel_rfl)
 refine (Tryz.strconv_FormatInt_10 a (by omega) h100 w (hgl.tab hg)).mono ?_
 rintro e w' ⟨rfl, n, os, rfl⟩
 have hs : (⟨(Lib.itoa a).toArray⟩ : ByteArray) = numS a := by
  unfold numS Lib.itoa
  rw [if_neg (by omega)]
 rw [hs]
 have hB : Below w.heap.size w (Go.Sort.grow (w.drewN n) os) := ⟨rfl, rfl, rfl, by show _ ≤ (w.heap ++ os).size; rw [Array.size_append]; omega, fun r hr => by show (w.heap ++ os)[r]? = _; exact Array.getElem?_append_left hr⟩
 exact ⟨_, [.string (numS a)], [.string (numS a)], rfl, rfl, ⟨_, _, _, rfl, rfl, rfl, rfl, rfl, rfl⟩, ⟨hB.os, hB.tape, hB.output, hB.size, fun r hr _ => hB.block r hr⟩, ⟨_, rfl, rfl⟩, List.nodup_nil, fun r hr => by cases hr⟩
def impl_decimal.f (a0 : Int) : Option (ByteArray) := (strconv_FormatInt.f a0 10).bind fun t1 => some t1
def S137 (k : Nat) : Does := ⟨[sI], [(false, [.dat .str])], impl_decimal.f⟩
def E137 (k : Nat) : En := ⟨tb, orcOf [(149, S149 k)], lvOf [], k, 0, lvOf [], []⟩
theorem M137 (k) : Meets Tryz.prog 137 (S137 k) := mo Tryz.func137 (oc (M149 k) on) fun x => (by kernel_rfl : funK (E137 k) (S137 k) Tryz.f137 x = (S137 k).fn x)
def strings_Join.f (xs : List ByteArray) (sep : ByteArray) : Option (ByteArray × List ByteArray) := if xs ≠ [] ∧ xs.length ≤ 1000 ∧ (Lib.join (xs.map (·.data.toList)) sep.data.toList).length ≤ 1000000 then some (joinS xs sep, xs) else none
def S138 (k : Nat) : Does := ⟨[(false, [.own 9 .str]), (false, [.dat .str])], [(false, [.dat .str])], U2 strings_Join.f⟩
theorem str_elems {w : World} {N : Nat → Prop} : ∀ {l : List ByteArray} {xs : List Value}, Elems w N .str l xs ↔ xs = l.map Value.string
 | [], xs => Iff.rfl
 | x :: l, xs => by
  constructor
  ·rintro ⟨c, d, e, h, k⟩
   have h : c = [Value.string x] := h
   rw [e, h, str_elems.1 k]; rfl
  ·intro h
   exact ⟨[Value.string x], l.map Value.string, h, rfl, str_elems.2 rfl⟩
theorem join_cells {w : World} {g e : Nat} {cur : Array Value} {m : Nat × Nat} (xs : List ByteArray) (hg : w.heap[g]? = some (.cells cur e m)) (htk : List.take (xs.length * 1) cur.toList = xs.map Value.string) : ∀ (j : Nat) x, xs[j]? = some x → w.cell? ⟨g, 0 + j, none⟩ = some (.string x) := by
 intro j x hx
 have h3 : (List.take (xs.length * 1) cur.toList)[j]? = some (.string x) := by rw [htk, List.getElem?_map, hx]; rfl
 rw [List.getElem?_take] at h3
 split at h3
 ·rw [Nat.zero_add]
  simp only [World.cell?, hg]
  rw [← Array.getElem?_toList]; exact h3
 ·cases h3
theorem M138 (k) : Meets Tryz.prog 138 (S138 k) := by
 refine ⟨fun args w => by
  have hf := Tryz.func138
  have h1 : (Tryz.f138.name == "runtime.NumGoroutine") = false := by kernel_rfl
  have h1 : Tryz.f138.name ≠ "runtime.NumGoroutine" := by simpa using h1
  obtain ⟨c, hc⟩ := Option.isSome_iff_exists.1 (show Tryz.f138.body.isSome = true by kernel_rfl)
  simp [callFunc, hf, h1, hc, mark], ?_⟩
 intro w X args cells x y hc hX hp hn hglt hy
 obtain ⟨v1, vs1, cs1, -, rfl, hv1, rfl, v2, vs2, cs2, -, rfl, -, rfl, rfl, rfl⟩ := hc
 obtain ⟨u1, us, e1, ⟨zs, ho, hE⟩, u2, e2, h2⟩ := hp
 obtain ⟨rfl, rfl⟩ := List.cons.inj e1
 obtain ⟨rfl, -⟩ := List.cons.inj e2
 obtain ⟨xs, sep⟩ := x
 have key : ∀ (xs : List ByteArray) (sep : ByteArray) (z : ByteArray × List ByteArray), strings_Join.f xs sep = some z → xs ≠ [] ∧ xs.length ≤ 1000 ∧ (Lib.join (xs.map (·.data.toList)) sep.data.toList).length ≤ 1000000 ∧ z = (joinS xs sep, xs) := by
  intro a b z h
  unfold strings_Join.f at h
  split at h
  ·rename_i hc; exact ⟨hc.1, hc.2.1, hc.2.2, (Option.some.inj h).symm⟩
  ·cases h
 obtain ⟨h0, hl, hj, rfl⟩ := key xs sep y hy
 have h2 : [v2] = [Value.string sep] := h2
 cases h2
 have hE := str_elems.1 hE
 subst hE
 have ho : w.ownsRow 0 9 1 v1 xs.length (xs.map Value.string) := ho
 obtain ⟨hlen, ho⟩ := ho
 rcases ho with ⟨_, hz⟩ | ⟨g, cap, cur, rfl, _, hg, hcap, hmax, hsz, htk⟩
 ·exact absurd (List.eq_nil_of_length_eq_zero hz) h0
 have hgl : g < w.heap.size := by
  rcases Nat.lt_or_ge g w.heap.size with c | c
  ·exact c
  ·rw [Array.getElem?_eq_none c] at hg; cases hg
 have hcells := join_cells xs hg htk
 refine (Tryz.strings_Join g 0 cap xs sep w hcells hgl (by omega) hcap (by omega)).mono ?_
 rintro e w' ⟨rfl, hB⟩
 refine ⟨_, [.string (joinS xs sep)], [.string (joinS xs sep)], rfl, rfl, ⟨_, _, _, rfl, rfl, rfl, rfl, rfl, rfl⟩, ⟨hB.os, hB.tape, hB.output, hB.size, fun r hr _ => hB.block r hr⟩, ?_, List.nodup_nil, fun r hr => by cases hr⟩
 refine ⟨_, _, rfl, rfl, _, rfl, xs.map Value.string, ⟨hlen, .inr ⟨g, cap, cur, rfl, Nat.zero_le _, (hB.block g hgl).trans hg, hcap, hmax, hsz, htk⟩⟩, str_elems.2 rfl⟩
abbrev O108 := Option (ByteArray)
abbrev T108_0 (R : Type) := ByteArray → (List ByteArray) → (List Int) → Int → Int → R
def impl_joined.s0 (k : Nat) (r0 : T108_0 O108) : T108_0 O108 := fun x1 x5 x8 x9 x10 => if x10 < x9 then (if 0 ≤ x10 then (if x10 < x8.length then ((impl_decimal.f (rd x8 x10)).bind fun t1 => if x5.length + 1 ≤ 1099511627776 then (r0 x1 (x5 ++ [t1]) x8 x9 (wrap64 (x10 + 1))) else none) else none) else none) else ((strings_Join.f x5 x1).bind fun t2 => some t2.1)
def impl_joined.l0 (k : Nat) : Nat → T108_0 O108
 | 0 => Z5
 | n + 1 => impl_joined.s0 k (impl_joined.l0 k n)
def impl_joined.g (k : Nat) (r0 : T108_0 O108) (l0 : List Int) (a1 : ByteArray) : Option (ByteArray) := r0 a1 [] l0 (l0.length : Int) 0
def impl_joined.f (k : Nat) (l0 : List Int) (a1 : ByteArray) : Option (ByteArray) := impl_joined.g k (impl_joined.l0 k k) l0 a1
def S108 (k : Nat) : Does := ⟨[sL, (false, [.dat .str])], [(false, [.dat .str])], U2 (impl_joined.f k)⟩
def E108 (k : Nat) : En := ⟨tb, orcOf [(137, S137 k), (138, S138 k)], lvOf [(0, [(1, []), (5, [.nil 9 .str]), (8, []), (9, []), (10, [])])], k, 0, lvOf [], []⟩
def n108_0 : T108_0 St := fun x1 x5 x8 x9 x10 => ⟨23, lookA [(1, .dat .str x1), (5, .own 0), (8, aL x8), (9, aI x9), (10, aI x10)], Go.V.look [(0, .flat 9 .str x5)]⟩
def p108_0 : List Bool := [t', t', f', t', f']
def L108 (k : Nat) (p : List Bool) (r : List (St → O108)) : Nat → St → O108 := loopF (E108 k) (S108 k) Tryz.f108 p r
theorem r108_0 (k) (rec : St → O108) (v) : roundF (E108 k) (S108 k) Tryz.f108 p108_0 [] rec (U5 n108_0 v) = U5 (impl_joined.s0 k (W5 rec n108_0)) v := by kernel_rfl
theorem q108_0 (k) (n) : W5 (L108 k p108_0 [] n) n108_0 = impl_joined.l0 k n :=
 u5 (lq (E108 k) (S108 k) (fun rec => U5 (impl_joined.s0 k (C5 rec))) (fun n => U5 (impl_joined.l0 k n)) (r108_0 k) n)
theorem M108 (k) : Meets Tryz.prog 108 (S108 k) := mo Tryz.func108 (oc (M137 k) (oc (M138 k) on)) fun x => (show funK (E108 k) (S108 k) Tryz.f108 x = impl_joined.g k (W5 (L108 k p108_0 [] k) n108_0) x.1 x.2 by kernel_rfl).trans (by rw [q108_0]; rfl)
def spec_l01In.f (a0 : Int) (a1 : Int) (a2 : Int) : Option (Bool) := if a1 ≤ a0 then (some (decide (a0 ≤ a2))) else (some false)
def S53 (k : Nat) : Does := ⟨[sI, sI, sI], [sB], U3 spec_l01In.f⟩
def E53 (k : Nat) : En := ⟨tb, orcOf [], lvOf [], k, 0, lvOf [], []⟩
theorem M53 (k) : Meets Tryz.prog 53 (S53 k) := mo Tryz.func53 on fun x => (by kernel_rfl : funK (E53 k) (S53 k) Tryz.f53 x = (S53 k).fn x)
abbrev O121 := Option (Bool)
abbrev T121_0 (R : Type) := (List Int) → Int → R
def spec_l01Is.s0 (k : Nat) (r0 : T121_0 O121) : T121_0 O121 := fun x1_0 x3 => if x3 < x1_0.length then (if 0 ≤ x3 then (if x3 < x1_0.length then ((spec_l01In.f (rd x1_0 x3) 1 40).bind fun t1 => if t1 = true then (r0 x1_0 (wrap64 (x3 + 1))) else (some false)) else none) else none) else ((spec_l01K.f x1_0).bind fun t2 => (spec_l01In.f t2 1 8).bind fun t3 => some t3)
def spec_l01Is.l0 (k : Nat) : Nat → T121_0 O121
 | 0 => Z2
 | n + 1 => spec_l01Is.s0 k (spec_l01Is.l0 k n)
def spec_l01Is.g (k : Nat) (r0 : T121_0 O121) (l0_0 : List Int) : Option (Bool) := r0 l0_0 0
def spec_l01Is.f (k : Nat) (l0_0 : List Int) : Option (Bool) := spec_l01Is.g k (spec_l01Is.l0 k k) l0_0
def S121 (k : Nat) : Does := ⟨[sT], [sB], spec_l01Is.f k⟩
def E121 (k : Nat) : En := ⟨tb, orcOf [(53, S53 k), (139, S139 k)], lvOf [(0, lz [1, 3])], k, 0, lvOf [], []⟩
def n121_0 : T121_0 St := fun x1_0 x3 => ⟨21, lookA [(1, .box 0 0), (3, aI x3)], Go.V.look [(0, .cells [aL x1_0])]⟩
def p121_0 : List Bool := [t', f', t', f']
def L121 (k : Nat) (p : List Bool) (r : List (St → O121)) : Nat → St → O121 := loopF (E121 k) (S121 k) Tryz.f121 p r
theorem r121_0 (k) (rec : St → O121) (v) : roundF (E121 k) (S121 k) Tryz.f121 p121_0 [] rec (U2 n121_0 v) = U2 (spec_l01Is.s0 k (W2 rec n121_0)) v := by kernel_rfl
theorem q121_0 (k) (n) : W2 (L121 k p121_0 [] n) n121_0 = spec_l01Is.l0 k n :=
 u2 (lq (E121 k) (S121 k) (fun rec => U2 (spec_l01Is.s0 k (C2 rec))) (fun n => U2 (spec_l01Is.l0 k n)) (r121_0 k) n)
theorem M121 (k) : Meets Tryz.prog 121 (S121 k) := mo Tryz.func121 (oc (M53 k) (oc (M139 k) on)) fun x => (show funK (E121 k) (S121 k) Tryz.f121 x = spec_l01Is.g k (W2 (L121 k p121_0 [] k) n121_0) x by kernel_rfl).trans (by rw [q121_0]; rfl)
abbrev O69 := Option (Int)
abbrev T69_0 (R : Type) := (List Int) → Int → Int → R
def spec_l02Count.s0 (k : Nat) (r0 : T69_0 O69) : T69_0 O69 := fun x1_0 x3 x4 => if x4 < x1_0.length then (if 0 ≤ x4 then (if x4 < x1_0.length then (r0 x1_0 (wrap64 (x3 * (rd x1_0 x4))) (wrap64 (x4 + 1))) else none) else none) else (some x3)
def spec_l02Count.l0 (k : Nat) : Nat → T69_0 O69
 | 0 => Z3
 | n + 1 => spec_l02Count.s0 k (spec_l02Count.l0 k n)
def spec_l02Count.g (k : Nat) (r0 : T69_0 O69) (l0_0 : List Int) : Option (Int) := r0 l0_0 1 0
def spec_l02Count.f (k : Nat) (l0_0 : List Int) : Option (Int) := spec_l02Count.g k (spec_l02Count.l0 k k) l0_0
def S69 (k : Nat) : Does := ⟨[sT], [sI], spec_l02Count.f k⟩
def E69 (k : Nat) : En := ⟨tb, orcOf [], lvOf [(0, lz [1, 3, 4])], k, 0, lvOf [], []⟩
def n69_0 : T69_0 St := fun x1_0 x3 x4 => ⟨20, lookA [(1, .box 0 0), (3, aI x3), (4, aI x4)], Go.V.look [(0, .cells [aL x1_0])]⟩
def p69_0 : List Bool := [t', t', f', t', f']
def L69 (k : Nat) (p : List Bool) (r : List (St → O69)) : Nat → St → O69 := loopF (E69 k) (S69 k) Tryz.f69 p r
theorem r69_0 (k) (rec : St → O69) (v) : roundF (E69 k) (S69 k) Tryz.f69 p69_0 [] rec (U3 n69_0 v) = U3 (spec_l02Count.s0 k (W3 rec n69_0)) v := by kernel_rfl
theorem q69_0 (k) (n) : W3 (L69 k p69_0 [] n) n69_0 = spec_l02Count.l0 k n :=
 u3 (lq (E69 k) (S69 k) (fun rec => U3 (spec_l02Count.s0 k (C3 rec))) (fun n => U3 (spec_l02Count.l0 k n)) (r69_0 k) n)
theorem M69 (k) : Meets Tryz.prog 69 (S69 k) := mo Tryz.func69 on fun x => (show funK (E69 k) (S69 k) Tryz.f69 x = spec_l02Count.g k (W3 (L69 k p69_0 [] k) n69_0) x by kernel_rfl).trans (by rw [q69_0]; rfl)
def spec_l02Few.f (k : Nat) (l0_0 : List Int) : Option (Int) := (spec_l01Is.f k l0_0).bind fun t1 => if (!decide (t1 = true)) = true then (some 1) else ((spec_l02Count.f k l0_0).bind fun t2 => if (decide (4000 < t2)) = true then (some 3) else (some 0))
def S122 (k : Nat) : Does := ⟨[sT], [sI], spec_l02Few.f k⟩
def E122 (k : Nat) : En := ⟨tb, orcOf [(121, S121 k), (69, S69 k)], lvOf [], k, 0, lvOf [], []⟩
theorem M122 (k) : Meets Tryz.prog 122 (S122 k) := mo Tryz.func122 (oc (M121 k) (oc (M69 k) on)) fun x => (by kernel_rfl : funK (E122 k) (S122 k) Tryz.f122 x = (S122 k).fn x)
def spec_l08Code.f (k : Nat) (l0_0 : List Int) (a1 : Int) : Option (Int) := (spec_l01Is.f k l0_0).bind fun t1 => if (!decide (t1 = true)) = true then (some 1) else ((spec_l01In.f a1 1 4).bind fun t2 => if (!decide (t2 = true)) = true then (some 2) else ((spec_l02Few.f k l0_0).bind fun t3 => some t3))
def S81 (k : Nat) : Does := ⟨[sT, sI], [sI], U2 (spec_l08Code.f k)⟩
def E81 (k : Nat) : En := ⟨tb, orcOf [(121, S121 k), (53, S53 k), (122, S122 k)], lvOf [], k, 0, lvOf [], []⟩
theorem M81 (k) : Meets Tryz.prog 81 (S81 k) := mo Tryz.func81 (oc (M121 k) (oc (M53 k) (oc (M122 k) on))) fun x => (by kernel_rfl : funK (E81 k) (S81 k) Tryz.f81 x = (S81 k).fn x)
abbrev O90 := Option (List Int)
abbrev T90_0 (R : Type) := Int → (List Int) → (List Int) → Int → R
def spec_l02Of.s0 (k : Nat) (r0 : T90_0 O90) : T90_0 O90 := fun x1 x2_0 x5 x6 => if 0 ≤ x6 then (if 0 ≤ x6 then (if x6 < x2_0.length then (if (rd x2_0 x6) = 0 then none else (if 0 ≤ x6 then (if x6 < x5.length then (if 0 ≤ x6 then (if x6 < x2_0.length then (if (rd x2_0 x6) = 0 then none else (r0 (wrap64 (Int.tdiv x1 (rd x2_0 x6))) x2_0 (x5.set x6.toNat (wrap64 ((Int.tmod x1 (rd x2_0 x6)) + 1))) (wrap64 (x6 - 1)))) else none) else none) else none) else none)) else none) else none) else (some x5)
def spec_l02Of.l0 (k : Nat) : Nat → T90_0 O90
 | 0 => Z4
 | n + 1 => spec_l02Of.s0 k (spec_l02Of.l0 k n)
def spec_l02Of.g (k : Nat) (r0 : T90_0 O90) (l0_0 : List Int) (a1 : Int) : Option (List Int) := if 0 ≤ (l0_0.length : Int) then (if (l0_0.length : Int) ≤ (l0_0.length : Int) then (if (l0_0.length : Int).toNat ≤ 1099511627776 then (r0 a1 l0_0 (List.replicate (l0_0.length : Int).toNat (0 : Int)) (wrap64 (((List.replicate (l0_0.length : Int).toNat (0 : Int)).length : Int) - 1))) else none) else none) else none
def spec_l02Of.f (k : Nat) (l0_0 : List Int) (a1 : Int) : Option (List Int) := spec_l02Of.g k (spec_l02Of.l0 k k) l0_0 a1
def S90 (k : Nat) : Does := ⟨[sT, sI], [(false, [.own 2 (.int .i64)])], U2 (spec_l02Of.f k)⟩
def E90 (k : Nat) : En := ⟨tb, orcOf [], lvOf [(0, lz [1, 2, 5, 6])], k, 0, lvOf [], []⟩
def n90_0 : T90_0 St := fun x1 x2_0 x5 x6 => ⟨37, lookA [(1, aI x1), (2, .box 0 0), (5, .own 1), (6, aI x6)], Go.V.look [(0, .cells [aL x2_0]), (1, .flat 2 (.int .i64) x5)]⟩
def p90_0 : List Bool := [t', t', f', t', f']
def L90 (k : Nat) (p : List Bool) (r : List (St → O90)) : Nat → St → O90 := loopF (E90 k) (S90 k) Tryz.f90 p r
theorem r90_0 (k) (rec : St → O90) (v) : roundF (E90 k) (S90 k) Tryz.f90 p90_0 [] rec (U4 n90_0 v) = U4 (spec_l02Of.s0 k (W4 rec n90_0)) v := by kernel_rfl
theorem q90_0 (k) (n) : W4 (L90 k p90_0 [] n) n90_0 = spec_l02Of.l0 k n :=
 u4 (lq (E90 k) (S90 k) (fun rec => U4 (spec_l02Of.s0 k (C4 rec))) (fun n => U4 (spec_l02Of.l0 k n)) (r90_0 k) n)
theorem M90 (k) : Meets Tryz.prog 90 (S90 k) := mo Tryz.func90 on fun x => (show funK (E90 k) (S90 k) Tryz.f90 x = spec_l02Of.g k (W4 (L90 k p90_0 [] k) n90_0) x.1 x.2 by kernel_rfl).trans (by rw [q90_0]; rfl)
abbrev O140 := Option ((List Int) × Bool)
abbrev T140_0 (R : Type) := (List Int) → Int → (List Int) → (List Int) → Int → R
def spec_l02Step.s0 (k : Nat) (r0 : T140_0 O140) : T140_0 O140 := fun x1 x2 x3_0 x8 x9 => if x9 < x1.length then (if (decide (x9 = x2)) = true then (if 0 ≤ x9 then (if x9 < x3_0.length then (if x8.length + 1 ≤ 1099511627776 then (r0 x1 x2 x3_0 (x8 ++ [(rd x3_0 x9)]) (wrap64 (x9 + 1))) else none) else none) else none) else (if 0 ≤ x9 then (if x9 < x1.length then (if (decide ((rd x1 x9) = 1)) = true then (some ([], false)) else (if 0 ≤ x9 then (if x9 < x1.length then (if x8.length + 1 ≤ 1099511627776 then (r0 x1 x2 x3_0 (x8 ++ [(wrap64 ((rd x1 x9) - 1))]) (wrap64 (x9 + 1))) else none) else none) else none)) else none) else none)) else (some (x8, true))
def spec_l02Step.l0 (k : Nat) : Nat → T140_0 O140
 | 0 => Z5
 | n + 1 => spec_l02Step.s0 k (spec_l02Step.l0 k n)
def spec_l02Step.g (k : Nat) (r0 : T140_0 O140) (l0_0 : List Int) (l1 : List Int) (a2 : Int) : Option ((List Int) × Bool) := r0 l1 a2 l0_0 [] 0
def spec_l02Step.f (k : Nat) (l0_0 : List Int) (l1 : List Int) (a2 : Int) : Option ((List Int) × Bool) := spec_l02Step.g k (spec_l02Step.l0 k k) l0_0 l1 a2
def S140 (k : Nat) : Does := ⟨[sT, sL, sI], [(false, [.own 2 (.int .i64)]), sB], U3 (spec_l02Step.f k)⟩
def E140 (k : Nat) : En := ⟨tb, orcOf [], lvOf [(0, lz [1, 2, 3, 8, 9])], k, 0, lvOf [], []⟩
def n140_0 : T140_0 St := fun x1 x2 x3_0 x8 x9 => ⟨44, lookA [(1, aL x1), (2, aI x2), (3, .box 0 0), (8, .own 1), (9, aI x9)], Go.V.look [(0, .cells [aL x3_0]), (1, .flat 2 (.int .i64) x8)]⟩
def p140_0 : List Bool := [t', t', f', t', f']
def L140 (k : Nat) (p : List Bool) (r : List (St → O140)) : Nat → St → O140 := loopF (E140 k) (S140 k) Tryz.f140 p r
theorem r140_0 (k) (rec : St → O140) (v) : roundF (E140 k) (S140 k) Tryz.f140 p140_0 [] rec (U5 n140_0 v) = U5 (spec_l02Step.s0 k (W5 rec n140_0)) v := by kernel_rfl
theorem q140_0 (k) (n) : W5 (L140 k p140_0 [] n) n140_0 = spec_l02Step.l0 k n :=
 u5 (lq (E140 k) (S140 k) (fun rec => U5 (spec_l02Step.s0 k (C5 rec))) (fun n => U5 (spec_l02Step.l0 k n)) (r140_0 k) n)
theorem M140 (k) : Meets Tryz.prog 140 (S140 k) := mo Tryz.func140 on fun x => (show funK (E140 k) (S140 k) Tryz.f140 x = spec_l02Step.g k (W5 (L140 k p140_0 [] k) n140_0) x.1 x.2.1 x.2.2 by kernel_rfl).trans (by rw [q140_0]; rfl)
abbrev O88 := Option (Int)
abbrev T88_0 (R : Type) := (List Int) → (List Int) → Int → Int → R
def spec_l02Number.s0 (k : Nat) (r0 : T88_0 O88) : T88_0 O88 := fun x1 x2_0 x5 x6 => if x6 < x1.length then (if 0 ≤ x6 then (if x6 < x2_0.length then (if 0 ≤ x6 then (if x6 < x1.length then (r0 x1 x2_0 (wrap64 ((wrap64 ((wrap64 (x5 * (rd x2_0 x6))) + (rd x1 x6))) - 1)) (wrap64 (x6 + 1))) else none) else none) else none) else none) else (some x5)
def spec_l02Number.l0 (k : Nat) : Nat → T88_0 O88
 | 0 => Z4
 | n + 1 => spec_l02Number.s0 k (spec_l02Number.l0 k n)
def spec_l02Number.g (k : Nat) (r0 : T88_0 O88) (l0_0 : List Int) (l1 : List Int) : Option (Int) := r0 l1 l0_0 0 0
def spec_l02Number.f (k : Nat) (l0_0 : List Int) (l1 : List Int) : Option (Int) := spec_l02Number.g k (spec_l02Number.l0 k k) l0_0 l1
def S88 (k : Nat) : Does := ⟨[sT, sL], [sI], U2 (spec_l02Number.f k)⟩
def E88 (k : Nat) : En := ⟨tb, orcOf [], lvOf [(0, lz [1, 2, 5, 6])], k, 0, lvOf [], []⟩
def n88_0 : T88_0 St := fun x1 x2_0 x5 x6 => ⟨27, lookA [(1, aL x1), (2, .box 0 0), (5, aI x5), (6, aI x6)], Go.V.look [(0, .cells [aL x2_0])]⟩
def p88_0 : List Bool := [t', t', f', t', f']
def L88 (k : Nat) (p : List Bool) (r : List (St → O88)) : Nat → St → O88 := loopF (E88 k) (S88 k) Tryz.f88 p r
theorem r88_0 (k) (rec : St → O88) (v) : roundF (E88 k) (S88 k) Tryz.f88 p88_0 [] rec (U4 n88_0 v) = U4 (spec_l02Number.s0 k (W4 rec n88_0)) v := by kernel_rfl
theorem q88_0 (k) (n) : W4 (L88 k p88_0 [] n) n88_0 = spec_l02Number.l0 k n :=
 u4 (lq (E88 k) (S88 k) (fun rec => U4 (spec_l02Number.s0 k (C4 rec))) (fun n => U4 (spec_l02Number.l0 k n)) (r88_0 k) n)
theorem M88 (k) : Meets Tryz.prog 88 (S88 k) := mo Tryz.func88 on fun x => (show funK (E88 k) (S88 k) Tryz.f88 x = spec_l02Number.g k (W4 (L88 k p88_0 [] k) n88_0) x.1 x.2 by kernel_rfl).trans (by rw [q88_0]; rfl)
abbrev O115 := Option ((List Bool))
abbrev T115_0 (R : Type) := (List Int) → Int → (List Bool) → Int → Int → R
abbrev T115_1 (R : Type) := (List Int) → Int → (List Bool) → Bool → R
abbrev T115_2 (R : Type) := (List Int) → Int → (List Bool) → Bool → Int → R
abbrev T115_3 (R : Type) := (List Int) → Int → (List Bool) → Bool → Int → (List Int) → Bool → Int → R
def spec_l02Lasting.s3 (k : Nat) (r2 : T115_2 O115) (r3 : T115_3 O115) : T115_3 O115 := fun x1_0 x3 x4 x6 x7 x8 x9 x10 => (spec_l01K.f x1_0).bind fun t3 => if x10 < t3 then (if x9 = true then (if x9 = true then (r2 x1_0 x3 x4 x6 (wrap64 (x7 + 1))) else (if 0 ≤ x7 then (if x7 < x4.length then (r2 x1_0 x3 (x4.set x7.toNat false) true (wrap64 (x7 + 1))) else none) else none)) else ((spec_l02Step.f k x1_0 x8 x10).bind fun t4 => if t4.2 = true then ((spec_l02Number.f k x1_0 t4.1).bind fun t5 => if 0 ≤ t5 then (if t5 < (x4.length : Int) then (r3 x1_0 x3 x4 x6 x7 x8 (rdOf false x4 t5) (wrap64 (x10 + 1))) else none) else none) else (r3 x1_0 x3 x4 x6 x7 x8 x9 (wrap64 (x10 + 1))))) else (if x9 = true then (r2 x1_0 x3 x4 x6 (wrap64 (x7 + 1))) else (if 0 ≤ x7 then (if x7 < x4.length then (r2 x1_0 x3 (x4.set x7.toNat false) true (wrap64 (x7 + 1))) else none) else none))
def spec_l02Lasting.l3 (k : Nat) (r1 : T115_1 O115) (r2 : T115_2 O115) : Nat → T115_3 O115
 | 0 => Z8
 | n + 1 => spec_l02Lasting.s3 k r2 (spec_l02Lasting.l3 k r1 r2 n)
def spec_l02Lasting.s2 (k : Nat) (r1 : T115_1 O115) (r2 : T115_2 O115) (r3 : T115_3 O115) : T115_2 O115 := fun x1_0 x3 x4 x6 x7 => if x7 < x3 then (if 0 ≤ x7 then (if x7 < x4.length then (if (rdOf false x4 x7) = true then ((spec_l02Of.f k x1_0 x7).bind fun t2 => r3 x1_0 x3 x4 x6 x7 t2 false (-1)) else (r2 x1_0 x3 x4 x6 (wrap64 (x7 + 1)))) else none) else none) else (r1 x1_0 x3 x4 x6)
def spec_l02Lasting.l2 (k : Nat) (r1 : T115_1 O115) : Nat → T115_2 O115
 | 0 => Z5
 | n + 1 => spec_l02Lasting.s2 k r1 (spec_l02Lasting.l2 k r1 n) (spec_l02Lasting.l3 k r1 (spec_l02Lasting.l2 k r1 n) k)
def spec_l02Lasting.s1 (k : Nat) (r1 : T115_1 O115) (r2 : T115_2 O115) : T115_1 O115 := fun x1_0 x3 x4 x6 => if x6 = true then (r2 x1_0 x3 x4 false 0) else (some x4)
def spec_l02Lasting.l1 (k : Nat) : Nat → T115_1 O115
 | 0 => Z4
 | n + 1 => spec_l02Lasting.s1 k (spec_l02Lasting.l1 k n) (spec_l02Lasting.l2 k (spec_l02Lasting.l1 k n) k)
def spec_l02Lasting.s0 (k : Nat) (r0 : T115_0 O115) (r1 : T115_1 O115) : T115_0 O115 := fun x1_0 x3 x4 x18 x19 => if x19 < x18 then (if 0 ≤ x19 then (if x19 < x4.length then (r0 x1_0 x3 (x4.set x19.toNat true) x18 (wrap64 (x19 + 1))) else none) else none) else (r1 x1_0 x3 x4 true)
def spec_l02Lasting.l0 (k : Nat) : Nat → T115_0 O115
 | 0 => Z5
 | n + 1 => spec_l02Lasting.s0 k (spec_l02Lasting.l0 k n) (spec_l02Lasting.l1 k k)
def spec_l02Lasting.g (k : Nat) (r0 : T115_0 O115) (l0_0 : List Int) : Option ((List Bool)) := (spec_l02Count.f k l0_0).bind fun t1 => if 0 ≤ t1 then (if t1 ≤ t1 then (if t1.toNat ≤ 1099511627776 then (r0 l0_0 t1 (List.replicate t1.toNat (false : Bool)) ((List.replicate t1.toNat (false : Bool)).length : Int) 0) else none) else none) else none
def spec_l02Lasting.f (k : Nat) (l0_0 : List Int) : Option ((List Bool)) := spec_l02Lasting.g k (spec_l02Lasting.l0 k k) l0_0
def S115 (k : Nat) : Does := ⟨[sT], [(false, [.own 4 .bool])], spec_l02Lasting.f k⟩
def E115 (k : Nat) : En := ⟨tb, orcOf [(69, S69 k), (90, S90 k), (139, S139 k), (140, S140 k), (88, S88 k)], lvOf [(0, lz [1, 3, 4, 18, 19]), (2, lz [1, 3, 4, 6]), (4, lz [1, 3, 4, 6, 7]), (6, lz [1, 3, 4, 6, 7, 8, 9, 10])], k, 0, lvOf [], []⟩
def n115_0 : T115_0 St := fun x1_0 x3 x4 x18 x19 => ⟨70, lookA [(1, .box 0 0), (3, aI x3), (4, .own 1), (18, aI x18), (19, aI x19)], Go.V.look [(0, .cells [aL x1_0]), (1, .flat 4 .bool x4)]⟩
def p115_0 : List Bool := [t', t', t', f', t', f']
def n115_1 : T115_1 St := fun x1_0 x3 x4 x6 => ⟨70, lookA [(1, .box 0 0), (3, aI x3), (4, .own 1), (6, aB x6)], Go.V.look [(0, .cells [aL x1_0]), (1, .flat 4 .bool x4)]⟩
def p115_1 : List Bool := [t', t', t', t', f', t', f']
def n115_2 : T115_2 St := fun x1_0 x3 x4 x6 x7 => ⟨70, lookA [(1, .box 0 0), (3, aI x3), (4, .own 1), (6, aB x6), (7, aI x7)], Go.V.look [(0, .cells [aL x1_0]), (1, .flat 4 .bool x4)]⟩
def p115_2 : List Bool := [t', t', t', t', f', t', f', f', t', f', t', t', f']
def n115_3 : T115_3 St := fun x1_0 x3 x4 x6 x7 x8 x9 x10 => ⟨70, lookA [(1, .box 0 0), (3, aI x3), (4, .own 1), (6, aB x6), (7, aI x7), (8, .own 2), (9, aB x9), (10, aI x10)], Go.V.look [(0, .cells [aL x1_0]), (1, .flat 4 .bool x4), (2, .flat 2 (.int .i64) x8)]⟩
def p115_3 : List Bool := [t', t', t', t', f', t', f', f', t', f', t', t', f', f', t', f', f', t', t', f', t', f']
def L115 (k : Nat) (p : List Bool) (r : List (St → O115)) : Nat → St → O115 := loopF (E115 k) (S115 k) Tryz.f115 p r
theorem r115_3 (k) (R1 R2 : St → O115) (rec : St → O115) (v) : roundF (E115 k) (S115 k) Tryz.f115 p115_3 [R1, R2] rec (U8 n115_3 v) = U8 (spec_l02Lasting.s3 k (W5 R2 n115_2) (W8 rec n115_3)) v := by kernel_rfl
theorem q115_3 (k) (R1 R2 : St → O115) (n) : W8 (L115 k p115_3 [R1, R2] n) n115_3 = spec_l02Lasting.l3 k (W4 R1 n115_1) (W5 R2 n115_2) n :=
 u8 (lq (E115 k) (S115 k) (fun rec => U8 (spec_l02Lasting.s3 k (W5 R2 n115_2) (C8 rec))) (fun n => U8 (spec_l02Lasting.l3 k (W4 R1 n115_1) (W5 R2 n115_2) n)) (r115_3 k R1 R2) n)
theorem r115_2 (k) (R1 : St → O115) (rec : St → O115) (G3 : T115_3 O115) (h3 : W8 (L115 k p115_3 [R1, rec] k) n115_3 = G3) (v) : roundF (E115 k) (S115 k) Tryz.f115 p115_2 [R1] rec (U5 n115_2 v) = U5 (spec_l02Lasting.s2 k (W4 R1 n115_1) (W5 rec n115_2) G3) v := by
 subst h3
 kernel_rfl
theorem q115_2 (k) (R1 : St → O115) (n) : W5 (L115 k p115_2 [R1] n) n115_2 = spec_l02Lasting.l2 k (W4 R1 n115_1) n :=
 u5 (lq (E115 k) (S115 k) (fun rec => U5 (spec_l02Lasting.s2 k (W4 R1 n115_1) (C5 rec) (spec_l02Lasting.l3 k (W4 R1 n115_1) (C5 rec) k))) (fun n => U5 (spec_l02Lasting.l2 k (W4 R1 n115_1) n)) (fun rec v => r115_2 k R1 rec _ (q115_3 k R1 rec k) v) n)
theorem r115_1 (k) (rec : St → O115) (G2 : T115_2 O115) (h2 : W5 (L115 k p115_2 [rec] k) n115_2 = G2) (v) : roundF (E115 k) (S115 k) Tryz.f115 p115_1 [] rec (U4 n115_1 v) = U4 (spec_l02Lasting.s1 k (W4 rec n115_1) G2) v := by
 subst h2
 kernel_rfl
theorem q115_1 (k) (n) : W4 (L115 k p115_1 [] n) n115_1 = spec_l02Lasting.l1 k n :=
 u4 (lq (E115 k) (S115 k) (fun rec => U4 (spec_l02Lasting.s1 k (C4 rec) (spec_l02Lasting.l2 k (C4 rec) k))) (fun n => U4 (spec_l02Lasting.l1 k n)) (fun rec v => r115_1 k rec _ (q115_2 k rec k) v) n)
theorem r115_0 (k) (rec : St → O115) (G1 : T115_1 O115) (h1 : W4 (L115 k p115_1 [] k) n115_1 = G1) (v) : roundF (E115 k) (S115 k) Tryz.f115 p115_0 [] rec (U5 n115_0 v) = U5 (spec_l02Lasting.s0 k (W5 rec n115_0) G1) v := by
 subst h1
 kernel_rfl
theorem q115_0 (k) (n) : W5 (L115 k p115_0 [] n) n115_0 = spec_l02Lasting.l0 k n :=
 u5 (lq (E115 k) (S115 k) (fun rec => U5 (spec_l02Lasting.s0 k (C5 rec) (spec_l02Lasting.l1 k k))) (fun n => U5 (spec_l02Lasting.l0 k n)) (fun rec v => r115_0 k rec _ (q115_1 k k) v) n)
theorem M115 (k) : Meets Tryz.prog 115 (S115 k) := mo Tryz.func115 (oc (M69 k) (oc (M90 k) (oc (M139 k) (oc (M140 k) (oc (M88 k) on))))) fun x => (show funK (E115 k) (S115 k) Tryz.f115 x = spec_l02Lasting.g k (W5 (L115 k p115_0 [] k) n115_0) x by kernel_rfl).trans (by rw [q115_0]; rfl)
def spec_l02Can.f (k : Nat) (l0_0 : List Int) : Option (Bool) := (spec_l02Lasting.f k l0_0).bind fun t1 => (spec_l02Count.f k l0_0).bind fun t2 => if 0 ≤ (wrap64 (t2 - 1)) then (if (wrap64 (t2 - 1)) < (t1.length : Int) then (some (rdOf false t1 (wrap64 (t2 - 1)))) else none) else none
def S70 (k : Nat) : Does := ⟨[sT], [sB], spec_l02Can.f k⟩
def E70 (k : Nat) : En := ⟨tb, orcOf [(115, S115 k), (69, S69 k)], lvOf [], k, 0, lvOf [], []⟩
theorem M70 (k) : Meets Tryz.prog 70 (S70 k) := mo Tryz.func70 (oc (M115 k) (oc (M69 k) on)) fun x => (by kernel_rfl : funK (E70 k) (S70 k) Tryz.f70 x = (S70 k).fn x)
abbrev O123 := Option (Bool)
abbrev T123_0 (R : Type) := (List Int) → Int → (List Int) → (List Int) → Int → R
def spec_l08Alone.s0 (k : Nat) (r0 : T123_0 O123) : T123_0 O123 := fun x1 x2 x3_0 x7_0 x8 => if x8 < x1.length then (if 0 ≤ x8 then (if x8 < x1.length then (if (rd x1 x8) = x2 then (if 0 ≤ x8 then (if x8 < x3_0.length then (if x7_0.length + 1 ≤ 1099511627776 then (r0 x1 x2 x3_0 (x7_0 ++ [(rd x3_0 x8)]) (wrap64 (x8 + 1))) else none) else none) else none) else (r0 x1 x2 x3_0 x7_0 (wrap64 (x8 + 1)))) else none) else none) else ((spec_l02Can.f k x7_0).bind fun t1 => some t1)
def spec_l08Alone.l0 (k : Nat) : Nat → T123_0 O123
 | 0 => Z5
 | n + 1 => spec_l08Alone.s0 k (spec_l08Alone.l0 k n)
def spec_l08Alone.g (k : Nat) (r0 : T123_0 O123) (l0_0 : List Int) (l1 : List Int) (a2 : Int) : Option (Bool) := r0 l1 a2 l0_0 [] 0
def spec_l08Alone.f (k : Nat) (l0_0 : List Int) (l1 : List Int) (a2 : Int) : Option (Bool) := spec_l08Alone.g k (spec_l08Alone.l0 k k) l0_0 l1 a2
def S123 (k : Nat) : Does := ⟨[sT, sL, sI], [sB], U3 (spec_l08Alone.f k)⟩
def E123 (k : Nat) : En := ⟨tb, orcOf [(70, S70 k)], lvOf [(0, lz [1, 2, 3, 7, 8])], k, 0, lvOf [], []⟩
def n123_0 : T123_0 St := fun x1 x2 x3_0 x7_0 x8 => ⟨35, lookA [(1, aL x1), (2, aI x2), (3, .box 0 0), (7, .box 1 0), (8, aI x8)], Go.V.look [(0, .cells [aL x3_0]), (1, .cells [.own 2]), (2, .flat 2 (.int .i64) x7_0)]⟩
def p123_0 : List Bool := [t', t', f', t', f']
def L123 (k : Nat) (p : List Bool) (r : List (St → O123)) : Nat → St → O123 := loopF (E123 k) (S123 k) Tryz.f123 p r
theorem r123_0 (k) (rec : St → O123) (v) : roundF (E123 k) (S123 k) Tryz.f123 p123_0 [] rec (U5 n123_0 v) = U5 (spec_l08Alone.s0 k (W5 rec n123_0)) v := by kernel_rfl
theorem q123_0 (k) (n) : W5 (L123 k p123_0 [] n) n123_0 = spec_l08Alone.l0 k n :=
 u5 (lq (E123 k) (S123 k) (fun rec => U5 (spec_l08Alone.s0 k (C5 rec))) (fun n => U5 (spec_l08Alone.l0 k n)) (r123_0 k) n)
theorem M123 (k) : Meets Tryz.prog 123 (S123 k) := mo Tryz.func123 (oc (M70 k) on) fun x => (show funK (E123 k) (S123 k) Tryz.f123 x = spec_l08Alone.g k (W5 (L123 k p123_0 [] k) n123_0) x.1 x.2.1 x.2.2 by kernel_rfl).trans (by rw [q123_0]; rfl)
noncomputable def Sr82 (rf : (List Int) → Int → (List Int) → Option ((List Int) × Bool)) : Does := ⟨[(true, [.dat (.list (.int .i64))]), (false, [.dat (.int .i64)]), (false, [.dat (.list (.int .i64))])], [(false, [.dat (.list (.int .i64))]), (false, [.dat .bool])], fun x => rf x.1 x.2.1 x.2.2⟩
noncomputable def spec_l08Split.s0 (k : Nat) (rf : (List Int) → Int → (List Int) → Option ((List Int) × Bool)) (r0 : Int → (List Int) → (List Int) → Int → Option ((List Int) × Bool)) (x1 : Int) (x2 : List Int) (x3_0 : List Int) (x8 : Int) : Option ((List Int) × Bool) := if x8 < x1 then ((spec_l01Own.f x2).bind fun t1 => if t1.length + 1 ≤ 1099511627776 then ((spec_l08Alone.f k x3_0 (t1 ++ [x8]) x8).bind fun t2 => if t2 = true then ((rf x3_0 x1 (t1 ++ [x8])).bind fun t3 => if t3.2 = true then (some (t3.1, true)) else (r0 x1 x2 x3_0 (wrap64 (x8 + 1)))) else (r0 x1 x2 x3_0 (wrap64 (x8 + 1)))) else (none)) else (some ([], false))
noncomputable def spec_l08Split.l0 (k : Nat) (rf : (List Int) → Int → (List Int) → Option ((List Int) × Bool)) : Nat → Int → (List Int) → (List Int) → Int → Option ((List Int) × Bool)
 | 0, _, _, _, _ => none
 | n + 1, x0, x1, x2, x3 => spec_l08Split.s0 k rf (spec_l08Split.l0 k rf n) x0 x1 x2 x3
noncomputable def spec_l08Split.g (k : Nat) (rf : (List Int) → Int → (List Int) → Option ((List Int) × Bool)) (r0 : Int → (List Int) → (List Int) → Int → Option ((List Int) × Bool)) (l0_0 : List Int) (a1 : Int) (l2 : List Int) : Option ((List Int) × Bool) := if (l2.length : Int) = (l0_0.length : Int) then (some (l2, true)) else (r0 a1 l2 l0_0 0)
noncomputable def spec_l08Split.b (k : Nat) (rf : (List Int) → Int → (List Int) → Option ((List Int) × Bool)) (l0_0 : List Int) (a1 : Int) (l2 : List Int) : Option ((List Int) × Bool) := spec_l08Split.g k rf (spec_l08Split.l0 k rf k) l0_0 a1 l2
noncomputable def Sb82 (k : Nat) (rf : (List Int) → Int → (List Int) → Option ((List Int) × Bool)) : Does := ⟨[(true, [.dat (.list (.int .i64))]), (false, [.dat (.int .i64)]), (false, [.dat (.list (.int .i64))])], [(false, [.dat (.list (.int .i64))]), (false, [.dat .bool])], fun x => spec_l08Split.b k rf x.1 x.2.1 x.2.2⟩
noncomputable def E82 (k : Nat) (rf : (List Int) → Int → (List Int) → Option ((List Int) × Bool)) : En := ⟨tb, orcOf [(66, S66 k), (123, S123 k), (82, Sr82 rf)], lvOf [(0, [(1, []), (2, []), (3, []), (8, [])])], k, 0, lvOf [], []⟩
noncomputable def n82_0 (x1 : Int) (x2 : List Int) (x3_0 : List Int) (x8 : Int) : St := ⟨43, lookA [(1, .dat (.int .i64) x1), (2, .dat (.list (.int .i64)) x2), (3, .box 0 0), (8, .dat (.int .i64) x8)], Go.V.look [(0, .cells [.dat (.list (.int .i64)) x3_0])]⟩
def p82_0 : List Bool := [true, true, false, true, false]
theorem r82_0 (k : Nat) (rf : (List Int) → Int → (List Int) → Option ((List Int) × Bool)) (rec : St → Option ((List Int) × Bool)) (v : Int × (List Int) × (List Int) × Int) : roundF (E82 k rf) (Sb82 k rf) Tryz.f82 p82_0 [] rec (n82_0 v.1 v.2.1 v.2.2.1 v.2.2.2) = spec_l08Split.s0 k rf (fun a0 a1 a2 a3 => rec (n82_0 a0 a1 a2 a3)) v.1 v.2.1 v.2.2.1 v.2.2.2 := by
 kernel_rfl
theorem q82_0 (k : Nat) (rf : (List Int) → Int → (List Int) → Option ((List Int) × Bool)) (n : Nat) : ∀ v : Int × (List Int) × (List Int) × Int, loopF (E82 k rf) (Sb82 k rf) Tryz.f82 p82_0 [] n (n82_0 v.1 v.2.1 v.2.2.1 v.2.2.2) = spec_l08Split.l0 k rf n v.1 v.2.1 v.2.2.1 v.2.2.2 :=
 loopF_eq (E82 k rf) (Sb82 k rf) Tryz.f82 p82_0 [] (fun v : Int × (List Int) × (List Int) × Int => n82_0 v.1 v.2.1 v.2.2.1 v.2.2.2) (fun rec v => spec_l08Split.s0 k rf (fun a0 a1 a2 a3 => rec (a0, a1, a2, a3)) v.1 v.2.1 v.2.2.1 v.2.2.2) (fun n v => spec_l08Split.l0 k rf n v.1 v.2.1 v.2.2.1 v.2.2.2) (fun _ => rfl) (fun _ _ => rfl) (fun rec v => r82_0 k rf rec v) n
theorem e82 (k : Nat) (rf : (List Int) → Int → (List Int) → Option ((List Int) × Bool)) (x : dens (flatC (Sb82 k rf).ps)) : funK (E82 k rf) (Sb82 k rf) Tryz.f82 x = (Sb82 k rf).fn x := by
 have h : funK (E82 k rf) (Sb82 k rf) Tryz.f82 x = spec_l08Split.g k rf (fun a0 a1 a2 a3 => loopF (E82 k rf) (Sb82 k rf) Tryz.f82 p82_0 [] k (n82_0 a0 a1 a2 a3)) x.1 x.2.1 x.2.2 := by kernel_rfl
 rw [h]
 rw [show (fun a0 a1 a2 a3 => loopF (E82 k rf) (Sb82 k rf) Tryz.f82 p82_0 [] k (n82_0 a0 a1 a2 a3)) = spec_l08Split.l0 k rf k from funext fun a0 => funext fun a1 => funext fun a2 => funext fun a3 => q82_0 k rf k (a0, a1, a2, a3)]
 rfl
noncomputable def spec_l08Split.r (k : Nat) : Nat → (List Int) → Int → (List Int) → Option ((List Int) × Bool)
 | 0, _, _, _ => none
 | n + 1, x0, x1, x2 => spec_l08Split.b k (spec_l08Split.r k n) x0 x1 x2
noncomputable def spec_l08Split.f (k : Nat) (l0_0 : List Int) (a1 : Int) (l2 : List Int) : Option ((List Int) × Bool) := spec_l08Split.r k k l0_0 a1 l2
noncomputable def S82 (k : Nat) : Does := ⟨[(true, [.dat (.list (.int .i64))]), (false, [.dat (.int .i64)]), (false, [.dat (.list (.int .i64))])], [(false, [.dat (.list (.int .i64))]), (false, [.dat .bool])], fun x => spec_l08Split.f k x.1 x.2.1 x.2.2⟩
theorem m82 (k : Nat) : ∀ n, Meets Tryz.prog 82 (Sr82 (spec_l08Split.r k n))
 | 0 => meets_none Tryz.func82 (by kernel_rfl) (by kernel_rfl) (fun _ => rfl)
 | n + 1 => show Meets Tryz.prog 82 (Sb82 k (spec_l08Split.r k n)) from meets_of Tryz.func82 (by kernel_rfl) tbOk (orc_cons (M66 k) (orc_cons (M123 k) (orc_cons (m82 k n) orc_nil))) mixOk (fun x y h => (e82 k (spec_l08Split.r k n) x).trans h) rfl
theorem M82 (k : Nat) : Meets Tryz.prog 82 (S82 k) := m82 k k
def spec_FirstSplit.f (k : Nat) (l0_0 : List Int) (a1 : Int) : Option ((List Int) × Int) := (spec_l08Code.f k l0_0 a1).bind fun t1 => if t1 = 0 then ((spec_l08Split.f k l0_0 a1 []).bind fun t2 => if t2.2 = true then (some (t2.1, 0)) else (some ([], 4))) else (some ([], t1))
def S28 (k : Nat) : Does := ⟨[sT, sI], [sL, sI], U2 (spec_FirstSplit.f k)⟩
def E28 (k : Nat) : En := ⟨tb, orcOf [(81, S81 k), (82, S82 k)], lvOf [], k, 0, lvOf [], []⟩
theorem M28 (k) : Meets Tryz.prog 28 (S28 k) := mo Tryz.func28 (oc (M81 k) (oc (M82 k) on)) fun x => (by kernel_rfl : funK (E28 k) (S28 k) Tryz.f28 x = (S28 k).fn x)
abbrev O9 := Option (Bool)
abbrev T9_0 (R : Type) := (List Int) → (List Int) → Int → R
def laws_likeInts.s0 (k : Nat) (r0 : T9_0 O9) : T9_0 O9 := fun x0 x1 x5 => if x5 < x0.length then (if 0 ≤ x5 then (if x5 < x0.length then (if 0 ≤ x5 then (if x5 < x1.length then (if (rd x0 x5) = (rd x1 x5) then (r0 x0 x1 (wrap64 (x5 + 1))) else (some false)) else none) else none) else none) else none) else (some true)
def laws_likeInts.l0 (k : Nat) : Nat → T9_0 O9
 | 0 => Z3
 | n + 1 => laws_likeInts.s0 k (laws_likeInts.l0 k n)
def laws_likeInts.g (k : Nat) (r0 : T9_0 O9) (l0 : List Int) (l1 : List Int) : Option (Bool) := if (l0.length : Int) = (l1.length : Int) then (r0 l0 l1 0) else (some false)
def laws_likeInts.f (k : Nat) (l0 : List Int) (l1 : List Int) : Option (Bool) := laws_likeInts.g k (laws_likeInts.l0 k k) l0 l1
def S9 (k : Nat) : Does := ⟨[sL, sL], [sB], U2 (laws_likeInts.f k)⟩
def E9 (k : Nat) : En := ⟨tb, orcOf [], lvOf [(0, lz [0, 1, 5])], k, 0, lvOf [], []⟩
def n9_0 : T9_0 St := fun x0 x1 x5 => ⟨26, lookA [(0, aL x0), (1, aL x1), (5, aI x5)], Go.V.look []⟩
def p9_0 : List Bool := [t', t', f', t', f']
def L9 (k : Nat) (p : List Bool) (r : List (St → O9)) : Nat → St → O9 := loopF (E9 k) (S9 k) Tryz.f9 p r
theorem r9_0 (k) (rec : St → O9) (v) : roundF (E9 k) (S9 k) Tryz.f9 p9_0 [] rec (U3 n9_0 v) = U3 (laws_likeInts.s0 k (W3 rec n9_0)) v := by kernel_rfl
theorem q9_0 (k) (n) : W3 (L9 k p9_0 [] n) n9_0 = laws_likeInts.l0 k n :=
 u3 (lq (E9 k) (S9 k) (fun rec => U3 (laws_likeInts.s0 k (C3 rec))) (fun n => U3 (laws_likeInts.l0 k n)) (r9_0 k) n)
theorem M9 (k) : Meets Tryz.prog 9 (S9 k) := mo Tryz.func9 on fun x => (show funK (E9 k) (S9 k) Tryz.f9 x = laws_likeInts.g k (W3 (L9 k p9_0 [] k) n9_0) x.1 x.2 by kernel_rfl).trans (by rw [q9_0]; rfl)
def bits_OnesCount64.f (a0 : Int) : Option (Int) := some (andV .i64 (wrap64 ((IntKind.wrap .u64 ((IntKind.wrap .u64 ((IntKind.wrap .u64 ((andV .u64 (IntKind.wrap .u64 ((shrV .u64 (IntKind.wrap .u64 ((andV .u64 (shrV .u64 (IntKind.wrap .u64 ((andV .u64 (shrV .u64 a0 1) 6148914691236517205) + (andV .u64 a0 6148914691236517205))) 2) 3689348814741910323) + (andV .u64 (IntKind.wrap .u64 ((andV .u64 (shrV .u64 a0 1) 6148914691236517205) + (andV .u64 a0 6148914691236517205))) 3689348814741910323))) 4) + (IntKind.wrap .u64 ((andV .u64 (shrV .u64 (IntKind.wrap .u64 ((andV .u64 (shrV .u64 a0 1) 6148914691236517205) + (andV .u64 a0 6148914691236517205))) 2) 3689348814741910323) + (andV .u64 (IntKind.wrap .u64 ((andV .u64 (shrV .u64 a0 1) 6148914691236517205) + (andV .u64 a0 6148914691236517205))) 3689348814741910323))))) 1085102592571150095) + (shrV .u64 (andV .u64 (IntKind.wrap .u64 ((shrV .u64 (IntKind.wrap .u64 ((andV .u64 (shrV .u64 (IntKind.wrap .u64 ((andV .u64 (shrV .u64 a0 1) 6148914691236517205) + (andV .u64 a0 6148914691236517205))) 2) 3689348814741910323) + (andV .u64 (IntKind.wrap .u64 ((andV .u64 (shrV .u64 a0 1) 6148914691236517205) + (andV .u64 a0 6148914691236517205))) 3689348814741910323))) 4) + (IntKind.wrap .u64 ((andV .u64 (shrV .u64 (IntKind.wrap .u64 ((andV .u64 (shrV .u64 a0 1) 6148914691236517205) + (andV .u64 a0 6148914691236517205))) 2) 3689348814741910323) + (andV .u64 (IntKind.wrap .u64 ((andV .u64 (shrV .u64 a0 1) 6148914691236517205) + (andV .u64 a0 6148914691236517205))) 3689348814741910323))))) 1085102592571150095) 8))) + (shrV .u64 (IntKind.wrap .u64 ((andV .u64 (IntKind.wrap .u64 ((shrV .u64 (IntKind.wrap .u64 ((andV .u64 (shrV .u64 (IntKind.wrap .u64 ((andV .u64 (shrV .u64 a0 1) 6148914691236517205) + (andV .u64 a0 6148914691236517205))) 2) 3689348814741910323) + (andV .u64 (IntKind.wrap .u64 ((andV .u64 (shrV .u64 a0 1) 6148914691236517205) + (andV .u64 a0 6148914691236517205))) 3689348814741910323))) 4) + (IntKind.wrap .u64 ((andV .u64 (shrV .u64 (IntKind.wrap .u64 ((andV .u64 (shrV .u64 a0 1) 6148914691236517205) + (andV .u64 a0 6148914691236517205))) 2) 3689348814741910323) + (andV .u64 (IntKind.wrap .u64 ((andV .u64 (shrV .u64 a0 1) 6148914691236517205) + (andV .u64 a0 6148914691236517205))) 3689348814741910323))))) 1085102592571150095) + (shrV .u64 (andV .u64 (IntKind.wrap .u64 ((shrV .u64 (IntKind.wrap .u64 ((andV .u64 (shrV .u64 (IntKind.wrap .u64 ((andV .u64 (shrV .u64 a0 1) 6148914691236517205) + (andV .u64 a0 6148914691236517205))) 2) 3689348814741910323) + (andV .u64 (IntKind.wrap .u64 ((andV .u64 (shrV .u64 a0 1) 6148914691236517205) + (andV .u64 a0 6148914691236517205))) 3689348814741910323))) 4) + (IntKind.wrap .u64 ((andV .u64 (shrV .u64 (IntKind.wrap .u64 ((andV .u64 (shrV .u64 a0 1) 6148914691236517205) + (andV .u64 a0 6148914691236517205))) 2) 3689348814741910323) + (andV .u64 (IntKind.wrap .u64 ((andV .u64 (shrV .u64 a0 1) 6148914691236517205) + (andV .u64 a0 6148914691236517205))) 3689348814741910323))))) 1085102592571150095) 8))) 16))) + (shrV .u64 (IntKind.wrap .u64 ((IntKind.wrap .u64 ((andV .u64 (IntKind.wrap .u64 ((shrV .u64 (IntKind.wrap .u64 ((andV .u64 (shrV .u64 (IntKind.wrap .u64 ((andV .u64 (shrV .u64 a0 1) 6148914691236517205) + (andV .u64 a0 6148914691236517205))) 2) 3689348814741910323) + (andV .u64 (IntKind.wrap .u64 ((andV .u64 (shrV .u64 a0 1) 6148914691236517205) + (andV .u64 a0 6148914691236517205))) 3689348814741910323))) 4) + (IntKind.wrap .u64 ((andV .u64 (shrV .u64 (IntKind.wrap .u64 ((andV .u64 (shrV .u64 a0 1) 6148914691236517205) + (andV .u64 a0 6148914691236517205))) 2) 3689348814741910323) + (andV .u64 (IntKind.wrap .u64 ((andV .u64 (shrV .u64 a0 1) 6148914691236517205) + (andV .u64 a0 6148914691236517205))) 3689348814741910323))))) 1085102592571150095) + (shrV .u64 (andV .u64 (IntKind.wrap .u64 ((shrV .u64 (IntKind.wrap .u64 ((andV .u64 (shrV .u64 (IntKind.wrap .u64 ((andV .u64 (shrV .u64 a0 1) 6148914691236517205) + (andV .u64 a0 6148914691236517205))) 2) 3689348814741910323) + (andV .u64 (IntKind.wrap .u64 ((andV .u64 (shrV .u64 a0 1) 6148914691236517205) + (andV .u64 a0 6148914691236517205))) 3689348814741910323))) 4) + (IntKind.wrap .u64 ((andV .u64 (shrV .u64 (IntKind.wrap .u64 ((andV .u64 (shrV .u64 a0 1) 6148914691236517205) + (andV .u64 a0 6148914691236517205))) 2) 3689348814741910323) + (andV .u64 (IntKind.wrap .u64 ((andV .u64 (shrV .u64 a0 1) 6148914691236517205) + (andV .u64 a0 6148914691236517205))) 3689348814741910323))))) 1085102592571150095) 8))) + (shrV .u64 (IntKind.wrap .u64 ((andV .u64 (IntKind.wrap .u64 ((shrV .u64 (IntKind.wrap .u64 ((andV .u64 (shrV .u64 (IntKind.wrap .u64 ((andV .u64 (shrV .u64 a0 1) 6148914691236517205) + (andV .u64 a0 6148914691236517205))) 2) 3689348814741910323) + (andV .u64 (IntKind.wrap .u64 ((andV .u64 (shrV .u64 a0 1) 6148914691236517205) + (andV .u64 a0 6148914691236517205))) 3689348814741910323))) 4) + (IntKind.wrap .u64 ((andV .u64 (shrV .u64 (IntKind.wrap .u64 ((andV .u64 (shrV .u64 a0 1) 6148914691236517205) + (andV .u64 a0 6148914691236517205))) 2) 3689348814741910323) + (andV .u64 (IntKind.wrap .u64 ((andV .u64 (shrV .u64 a0 1) 6148914691236517205) + (andV .u64 a0 6148914691236517205))) 3689348814741910323))))) 1085102592571150095) + (shrV .u64 (andV .u64 (IntKind.wrap .u64 ((shrV .u64 (IntKind.wrap .u64 ((andV .u64 (shrV .u64 (IntKind.wrap .u64 ((andV .u64 (shrV .u64 a0 1) 6148914691236517205) + (andV .u64 a0 6148914691236517205))) 2) 3689348814741910323) + (andV .u64 (IntKind.wrap .u64 ((andV .u64 (shrV .u64 a0 1) 6148914691236517205) + (andV .u64 a0 6148914691236517205))) 3689348814741910323))) 4) + (IntKind.wrap .u64 ((andV .u64 (shrV .u64 (IntKind.wrap .u64 ((andV .u64 (shrV .u64 a0 1) 6148914691236517205) + (andV .u64 a0 6148914691236517205))) 2) 3689348814741910323) + (andV .u64 (IntKind.wrap .u64 ((andV .u64 (shrV .u64 a0 1) 6148914691236517205) + (andV .u64 a0 6148914691236517205))) 3689348814741910323))))) 1085102592571150095) 8))) 16))) 32))))) 127)
def S129 (k : Nat) : Does := ⟨[(false, [.dat (.int .u64)])], [sI], bits_OnesCount64.f⟩
def E129 (k : Nat) : En := ⟨tb, orcOf [], lvOf [], k, 0, lvOf [], []⟩
theorem M129 (k) : Meets Tryz.prog 129 (S129 k) := mo Tryz.func129 on fun x => (by kernel_rfl : funK (E129 k) (S129 k) Tryz.f129 x = (S129 k).fn x)
def impl_members.f (a0 : Int) : Option (Int) := (bits_OnesCount64.f (IntKind.wrap .u64 (a0))).bind fun t1 => some t1
def S96 (k : Nat) : Does := ⟨[sI], [sI], impl_members.f⟩
def E96 (k : Nat) : En := ⟨tb, orcOf [(129, S129 k)], lvOf [], k, 0, lvOf [], []⟩
theorem M96 (k) : Meets Tryz.prog 96 (S96 k) := mo Tryz.func96 (oc (M129 k) on) fun x => (by kernel_rfl : funK (E96 k) (S96 k) Tryz.f96 x = (S96 k).fn x)
abbrev O143 := Option ((List Int) × Bool)
abbrev T143_0 (R : Type) := Int → (List Int) → (List Int) → Int → Int → R
def impl_Tasks_setStep.s0 (k : Nat) (r0 : T143_0 O143) : T143_0 O143 := fun x2 x3_0 x8 x13 x14 => if x14 < x13 then (if x14 < 0 then none else (if (decide ((andV .i64 (shrV .i64 x2 x14) 1) = 1)) = true then (if 0 ≤ x14 then (if x14 < x3_0.length then (if 0 ≤ x14 then (if x14 < x8.length then (r0 x2 x3_0 (x8.set x14.toNat (rd x3_0 x14)) x13 (wrap64 (x14 + 1))) else none) else none) else none) else none) else (if 0 ≤ x14 then (if x14 < x8.length then (if (decide ((rd x8 x14) < 2)) = true then (some ([], false)) else (if 0 ≤ x14 then (if x14 < x8.length then (if 0 ≤ x14 then (if x14 < x8.length then (r0 x2 x3_0 (x8.set x14.toNat (wrap64 ((rd x8 x14) - 1))) x13 (wrap64 (x14 + 1))) else none) else none) else none) else none)) else none) else none))) else (some (x8, true))
def impl_Tasks_setStep.l0 (k : Nat) : Nat → T143_0 O143
 | 0 => Z5
 | n + 1 => impl_Tasks_setStep.s0 k (impl_Tasks_setStep.l0 k n)
def impl_Tasks_setStep.g (k : Nat) (r0 : T143_0 O143) (l0_0 : List Int) (l1 : List Int) (a2 : Int) : Option ((List Int) × Bool) := (slices_Clone_int64_int64.f l1).bind fun t1 => r0 a2 l0_0 t1 (t1.length : Int) 0
def impl_Tasks_setStep.f (k : Nat) (l0_0 : List Int) (l1 : List Int) (a2 : Int) : Option ((List Int) × Bool) := impl_Tasks_setStep.g k (impl_Tasks_setStep.l0 k k) l0_0 l1 a2
def S143 (k : Nat) : Does := ⟨[sT, sL, sI], [(false, [.own 2 (.int .i64)]), sB], U3 (impl_Tasks_setStep.f k)⟩
def E143 (k : Nat) : En := ⟨tb, orcOf [(73, S73 k)], lvOf [(0, lz [2, 3, 8, 13, 14])], k, 0, lvOf [], []⟩
def n143_0 : T143_0 St := fun x2 x3_0 x8 x13 x14 => ⟨45, lookA [(2, aI x2), (3, .box 0 0), (8, .own 1), (13, aI x13), (14, aI x14)], Go.V.look [(0, .cells [aL x3_0]), (1, .flat 2 (.int .i64) x8)]⟩
def p143_0 : List Bool := [t', t', f', t', f']
def L143 (k : Nat) (p : List Bool) (r : List (St → O143)) : Nat → St → O143 := loopF (E143 k) (S143 k) Tryz.f143 p r
theorem r143_0 (k) (rec : St → O143) (v) : roundF (E143 k) (S143 k) Tryz.f143 p143_0 [] rec (U5 n143_0 v) = U5 (impl_Tasks_setStep.s0 k (W5 rec n143_0)) v := by kernel_rfl
theorem q143_0 (k) (n) : W5 (L143 k p143_0 [] n) n143_0 = impl_Tasks_setStep.l0 k n :=
 u5 (lq (E143 k) (S143 k) (fun rec => U5 (impl_Tasks_setStep.s0 k (C5 rec))) (fun n => U5 (impl_Tasks_setStep.l0 k n)) (r143_0 k) n)
theorem M143 (k) : Meets Tryz.prog 143 (S143 k) := mo Tryz.func143 (oc (M73 k) on) fun x => (show funK (E143 k) (S143 k) Tryz.f143 x = impl_Tasks_setStep.g k (W5 (L143 k p143_0 [] k) n143_0) x.1 x.2.1 x.2.2 by kernel_rfl).trans (by rw [q143_0]; rfl)
abbrev O124 := Option ((List (Int × Int)))
abbrev T124_0 (R : Type) := (List Int) → Int → (List Int) → Int → (List Int) → Int → Int → R
abbrev T124_1 (R : Type) := (List Int) → Int → (List Int) → Int → (List (Int × Int)) → Int → R
def impl_Tasks_openings.s1 (k : Nat) (r1 : T124_1 O124) : T124_1 O124 := fun x1 x2 x3_0 x7 x10 x11 => (impl_Tasks_many.f x3_0).bind fun t1 => if t1 < 0 then none else (if x11 < (shlV .i64 1 t1) then (if (andV .i64 x11 x7) = x7 then ((impl_members.f x11).bind fun t2 => if t2 ≤ x2 then ((impl_Tasks_setStep.f k x3_0 x1 x11).bind fun t3 => (impl_Tasks_number.f k x3_0 t3.1).bind fun t4 => if x10.length + 1 ≤ 1099511627776 then (r1 x1 x2 x3_0 x7 (x10 ++ [(x11, t4)]) (wrap64 (x11 + 1))) else none) else (r1 x1 x2 x3_0 x7 x10 (wrap64 (x11 + 1)))) else (r1 x1 x2 x3_0 x7 x10 (wrap64 (x11 + 1)))) else (some x10))
def impl_Tasks_openings.l1 (k : Nat) : Nat → T124_1 O124
 | 0 => Z6
 | n + 1 => impl_Tasks_openings.s1 k (impl_Tasks_openings.l1 k n)
def impl_Tasks_openings.s0 (k : Nat) (r0 : T124_0 O124) (r1 : T124_1 O124) : T124_0 O124 := fun x1 x2 x3_0 x7 x14 x15 x16 => if x16 < x15 then (if 0 ≤ x16 then (if x16 < x14.length then (if (rd x14 x16) < 2 then (if x16 < 0 then none else (r0 x1 x2 x3_0 (orV .i64 x7 (shlV .i64 1 x16)) x14 x15 (wrap64 (x16 + 1)))) else (r0 x1 x2 x3_0 x7 x14 x15 (wrap64 (x16 + 1)))) else none) else none) else (r1 x1 x2 x3_0 x7 [] x7)
def impl_Tasks_openings.l0 (k : Nat) : Nat → T124_0 O124
 | 0 => Z7
 | n + 1 => impl_Tasks_openings.s0 k (impl_Tasks_openings.l0 k n) (impl_Tasks_openings.l1 k k)
def impl_Tasks_openings.g (k : Nat) (r0 : T124_0 O124) (l0_0 : List Int) (l1 : List Int) (a2 : Int) : Option ((List (Int × Int))) := r0 l1 a2 l0_0 0 l1 (l1.length : Int) 0
def impl_Tasks_openings.f (k : Nat) (l0_0 : List Int) (l1 : List Int) (a2 : Int) : Option ((List (Int × Int))) := impl_Tasks_openings.g k (impl_Tasks_openings.l0 k k) l0_0 l1 a2
def S124 (k : Nat) : Does := ⟨[sT, sL, sI], [(false, [.own 111 (.struct (.pair (.int .i64) (.int .i64)))])], U3 (impl_Tasks_openings.f k)⟩
def E124 (k : Nat) : En := ⟨tb, orcOf [(104, S104 k), (96, S96 k), (143, S143 k), (135, S135 k)], lvOf [(0, lz [1, 2, 3, 7, 14, 15, 16]), (2, [(1, []), (2, []), (3, []), (7, []), (10, [.nil 111 (.struct (.pair (.int .i64) (.int .i64)))]), (11, [])])], k, 0, lvOf [], []⟩
def n124_0 : T124_0 St := fun x1 x2 x3_0 x7 x14 x15 x16 => ⟨63, lookA [(1, aL x1), (2, aI x2), (3, .box 0 0), (7, aI x7), (14, aL x14), (15, aI x15), (16, aI x16)], Go.V.look [(0, .cells [aL x3_0])]⟩
def p124_0 : List Bool := [t', t', f', t', f']
def n124_1 : T124_1 St := fun x1 x2 x3_0 x7 x10 x11 => ⟨63, lookA [(1, aL x1), (2, aI x2), (3, .box 0 0), (7, aI x7), (10, .own 1), (11, aI x11)], Go.V.look [(0, .cells [aL x3_0]), (1, .flat 111 (.struct (.pair (.int .i64) (.int .i64))) x10)]⟩
def p124_1 : List Bool := [t', t', t', t', f', t', f']
def L124 (k : Nat) (p : List Bool) (r : List (St → O124)) : Nat → St → O124 := loopF (E124 k) (S124 k) Tryz.f124 p r
theorem r124_1 (k) (rec : St → O124) (v) : roundF (E124 k) (S124 k) Tryz.f124 p124_1 [] rec (U6 n124_1 v) = U6 (impl_Tasks_openings.s1 k (W6 rec n124_1)) v := by kernel_rfl
theorem q124_1 (k) (n) : W6 (L124 k p124_1 [] n) n124_1 = impl_Tasks_openings.l1 k n :=
 u6 (lq (E124 k) (S124 k) (fun rec => U6 (impl_Tasks_openings.s1 k (C6 rec))) (fun n => U6 (impl_Tasks_openings.l1 k n)) (r124_1 k) n)
theorem r124_0 (k) (rec : St → O124) (G1 : T124_1 O124) (h1 : W6 (L124 k p124_1 [] k) n124_1 = G1) (v) : roundF (E124 k) (S124 k) Tryz.f124 p124_0 [] rec (U7 n124_0 v) = U7 (impl_Tasks_openings.s0 k (W7 rec n124_0) G1) v := by
 subst h1
 kernel_rfl
theorem q124_0 (k) (n) : W7 (L124 k p124_0 [] n) n124_0 = impl_Tasks_openings.l0 k n :=
 u7 (lq (E124 k) (S124 k) (fun rec => U7 (impl_Tasks_openings.s0 k (C7 rec) (impl_Tasks_openings.l1 k k))) (fun n => U7 (impl_Tasks_openings.l0 k n)) (fun rec v => r124_0 k rec _ (q124_1 k k) v) n)
theorem M124 (k) : Meets Tryz.prog 124 (S124 k) := mo Tryz.func124 (oc (M104 k) (oc (M96 k) (oc (M143 k) (oc (M135 k) on)))) fun x => (show funK (E124 k) (S124 k) Tryz.f124 x = impl_Tasks_openings.g k (W7 (L124 k p124_0 [] k) n124_0) x.1 x.2.1 x.2.2 by kernel_rfl).trans (by rw [q124_0]; rfl)
abbrev O86 := Option (Int × Int × Bool)
abbrev T86_0 (R : Type) := ((List (List (Int × Int))) × (List Bool)) → Int → Int → (List (Int × Int)) → Int → Int → R
def impl_setGraph_least.s0 (k : Nat) (r0 : T86_0 O86) : T86_0 O86 := fun x0 x4_0 x4_1 x14 x15 x16 => if x16 < x15 then (if 0 ≤ x16 then (if x16 < x14.length then (if 0 ≤ ((rdOf (0, 0) x14 x16).2) then (if ((rdOf (0, 0) x14 x16).2) < (x0.2.length : Int) then (if (rdOf false x0.2 ((rdOf (0, 0) x14 x16).2)) = true then (some ((rdOf (0, 0) x14 x16).1, (rdOf (0, 0) x14 x16).2, true)) else (r0 x0 x4_0 x4_1 x14 x15 (wrap64 (x16 + 1)))) else none) else none) else none) else none) else (some (0, 0, false))
def impl_setGraph_least.l0 (k : Nat) : Nat → T86_0 O86
 | 0 => Z6
 | n + 1 => impl_setGraph_least.s0 k (impl_setGraph_least.l0 k n)
def impl_setGraph_least.g (k : Nat) (r0 : T86_0 O86) (a0 : (List (List (Int × Int))) × (List Bool)) (a1 : Int) : Option (Int × Int × Bool) := if 0 ≤ a1 then (if a1 < (a0.1.length : Int) then (r0 a0 0 0 (rdOf ([] : List (Int × Int)) a0.1 a1) ((rdOf ([] : List (Int × Int)) a0.1 a1).length : Int) 0) else none) else none
def impl_setGraph_least.f (k : Nat) (a0 : (List (List (Int × Int))) × (List Bool)) (a1 : Int) : Option (Int × Int × Bool) := impl_setGraph_least.g k (impl_setGraph_least.l0 k k) a0 a1
def S86 (k : Nat) : Does := ⟨[(false, [.dat (.ptr (.struct (.pair (.list (.list (.struct (.pair (.int .i64) (.int .i64))))) (.list .bool))))]), sI], [(true, [.dat (.int .i64), .dat (.int .i64)]), sB], U2 (impl_setGraph_least.f k)⟩
def E86 (k : Nat) : En := ⟨tb, orcOf [], lvOf [(0, lz [0, 4, 14, 15, 16])], k, 0, lvOf [], []⟩
def n86_0 : T86_0 St := fun x0 x4_0 x4_1 x14 x15 x16 => ⟨31, lookA [(0, .dp (.struct (.pair (.list (.list (.struct (.pair (.int .i64) (.int .i64))))) (.list .bool))) x0), (4, .box 0 0), (14, .dat (.list (.struct (.pair (.int .i64) (.int .i64)))) x14), (15, aI x15), (16, aI x16)], Go.V.look [(0, .cells [aI x4_0, aI x4_1])]⟩
def p86_0 : List Bool := [t', f', t', f']
def L86 (k : Nat) (p : List Bool) (r : List (St → O86)) : Nat → St → O86 := loopF (E86 k) (S86 k) Tryz.f86 p r
theorem r86_0 (k) (rec : St → O86) (v) : roundF (E86 k) (S86 k) Tryz.f86 p86_0 [] rec (U6 n86_0 v) = U6 (impl_setGraph_least.s0 k (W6 rec n86_0)) v := by kernel_rfl
theorem q86_0 (k) (n) : W6 (L86 k p86_0 [] n) n86_0 = impl_setGraph_least.l0 k n :=
 u6 (lq (E86 k) (S86 k) (fun rec => U6 (impl_setGraph_least.s0 k (C6 rec))) (fun n => U6 (impl_setGraph_least.l0 k n)) (r86_0 k) n)
theorem M86 (k) : Meets Tryz.prog 86 (S86 k) := mo Tryz.func86 on fun x => (show funK (E86 k) (S86 k) Tryz.f86 x = impl_setGraph_least.g k (W6 (L86 k p86_0 [] k) n86_0) x.1 x.2 by kernel_rfl).trans (by rw [q86_0]; rfl)
abbrev O83 := Option (((List (List (Int × Int))) × (List Bool)))
abbrev T83_0 (R : Type) := Int → (List Int) → (List (List (Int × Int))) → (List Bool) → Int → Int → R
abbrev T83_1 (R : Type) := (List (List (Int × Int))) → (List Bool) → Bool → R
abbrev T83_2 (R : Type) := (List (List (Int × Int))) → (List Bool) → Bool → Int → Int → R
def impl_setGraphOf.s2 (k : Nat) (r1 : T83_1 O83) (r2 : T83_2 O83) : T83_2 O83 := fun x5_0 x5_1 x7 x49 x50 => if x50 < x49 then (if 0 ≤ x50 then (if x50 < x5_1.length then ((impl_setGraph_least.f k (x5_0, x5_1) x50).bind fun t4 => if (rdOf false x5_1 x50) = true then (if t4.2.2 = true then (r2 x5_0 x5_1 x7 x49 (wrap64 (x50 + 1))) else (if 0 ≤ x50 then (if x50 < x5_1.length then (r2 x5_0 (x5_1.set x50.toNat false) true x49 (wrap64 (x50 + 1))) else none) else none)) else (r2 x5_0 x5_1 x7 x49 (wrap64 (x50 + 1)))) else none) else none) else (r1 x5_0 x5_1 x7)
def impl_setGraphOf.l2 (k : Nat) (r1 : T83_1 O83) : Nat → T83_2 O83
 | 0 => Z5
 | n + 1 => impl_setGraphOf.s2 k r1 (impl_setGraphOf.l2 k r1 n)
def impl_setGraphOf.s1 (k : Nat) (r1 : T83_1 O83) (r2 : T83_2 O83) : T83_1 O83 := fun x5_0 x5_1 x7 => if x7 = true then (r2 x5_0 x5_1 false (x5_1.length : Int) 0) else (some (x5_0, x5_1))
def impl_setGraphOf.l1 (k : Nat) : Nat → T83_1 O83
 | 0 => Z3
 | n + 1 => impl_setGraphOf.s1 k (impl_setGraphOf.l1 k n) (impl_setGraphOf.l2 k (impl_setGraphOf.l1 k n) k)
def impl_setGraphOf.s0 (k : Nat) (r0 : T83_0 O83) (r1 : T83_1 O83) : T83_0 O83 := fun x1 x2_0 x5_0 x5_1 x15 x16 => if x16 < x15 then ((impl_Tasks_numbered.f k x2_0 x16).bind fun t2 => (impl_Tasks_openings.f k x2_0 t2 x1).bind fun t3 => if x5_0.length + 1 ≤ 1099511627776 then (if x5_1.length + 1 ≤ 1099511627776 then (r0 x1 x2_0 (x5_0 ++ [t3]) (x5_1 ++ [true]) x15 (wrap64 (x16 + 1))) else none) else none) else (r1 x5_0 x5_1 true)
def impl_setGraphOf.l0 (k : Nat) : Nat → T83_0 O83
 | 0 => Z6
 | n + 1 => impl_setGraphOf.s0 k (impl_setGraphOf.l0 k n) (impl_setGraphOf.l1 k k)
def impl_setGraphOf.g (k : Nat) (r0 : T83_0 O83) (l0_0 : List Int) (a1 : Int) : Option (((List (List (Int × Int))) × (List Bool))) := (impl_Tasks_states.f k l0_0).bind fun t1 => r0 a1 l0_0 [] [] t1 0
def impl_setGraphOf.f (k : Nat) (l0_0 : List Int) (a1 : Int) : Option (((List (List (Int × Int))) × (List Bool))) := impl_setGraphOf.g k (impl_setGraphOf.l0 k k) l0_0 a1
def S83 (k : Nat) : Does := ⟨[sT, sI], [(false, [.dat (.ptr (.struct (.pair (.list (.list (.struct (.pair (.int .i64) (.int .i64))))) (.list .bool))))])], U2 (impl_setGraphOf.f k)⟩
def E83 (k : Nat) : En := ⟨tb, orcOf [(68, S68 k), (125, S125 k), (124, S124 k), (86, S86 k)], lvOf [(0, [(1, []), (2, []), (5, [.cell 0 142 (.list (.struct (.pair (.int .i64) (.int .i64)))), .cell 1 4 .bool]), (15, []), (16, [])]), (2, lz [5, 7]), (4, lz [5, 7, 48, 49, 50])], k, 0, lvOf [], [29]⟩
def n83_0 : T83_0 St := fun x1 x2_0 x5_0 x5_1 x15 x16 => ⟨74, lookA [(1, aI x1), (2, .box 0 0), (5, .box 1 0), (15, aI x15), (16, aI x16)], Go.V.look [(0, .cells [aL x2_0]), (1, .cells [.own 2, .own 3]), (2, .flat 142 (.list (.struct (.pair (.int .i64) (.int .i64)))) x5_0), (3, .flat 4 .bool x5_1)]⟩
def p83_0 : List Bool := [t', t', f', t', f']
def n83_1 : T83_1 St := fun x5_0 x5_1 x7 => ⟨74, lookA [(5, .box 0 0), (7, aB x7)], Go.V.look [(0, .cells [.own 1, .own 2]), (1, .flat 142 (.list (.struct (.pair (.int .i64) (.int .i64)))) x5_0), (2, .flat 4 .bool x5_1)]⟩
def p83_1 : List Bool := [t', t', t', f', t', f']
def n83_2 : T83_2 St := fun x5_0 x5_1 x7 x49 x50 => ⟨74, lookA [(5, .box 0 0), (7, aB x7), (48, .own 1), (49, aI x49), (50, aI x50)], Go.V.look [(0, .cells [.own 2, .own 1]), (1, .flat 4 .bool x5_1), (2, .flat 142 (.list (.struct (.pair (.int .i64) (.int .i64)))) x5_0)]⟩
def p83_2 : List Bool := [t', t', t', f', t', f', f', t', f', t', t', f']
def L83 (k : Nat) (p : List Bool) (r : List (St → O83)) : Nat → St → O83 := loopF (E83 k) (S83 k) Tryz.f83 p r
theorem r83_2 (k) (R1 : St → O83) (rec : St → O83) (v) : roundF (E83 k) (S83 k) Tryz.f83 p83_2 [R1] rec (U5 n83_2 v) = U5 (impl_setGraphOf.s2 k (W3 R1 n83_1) (W5 rec n83_2)) v := by kernel_rfl
theorem q83_2 (k) (R1 : St → O83) (n) : W5 (L83 k p83_2 [R1] n) n83_2 = impl_setGraphOf.l2 k (W3 R1 n83_1) n :=
 u5 (lq (E83 k) (S83 k) (fun rec => U5 (impl_setGraphOf.s2 k (W3 R1 n83_1) (C5 rec))) (fun n => U5 (impl_setGraphOf.l2 k (W3 R1 n83_1) n)) (r83_2 k R1) n)
theorem r83_1 (k) (rec : St → O83) (G2 : T83_2 O83) (h2 : W5 (L83 k p83_2 [rec] k) n83_2 = G2) (v) : roundF (E83 k) (S83 k) Tryz.f83 p83_1 [] rec (U3 n83_1 v) = U3 (impl_setGraphOf.s1 k (W3 rec n83_1) G2) v := by
 subst h2
 kernel_rfl
theorem q83_1 (k) (n) : W3 (L83 k p83_1 [] n) n83_1 = impl_setGraphOf.l1 k n :=
 u3 (lq (E83 k) (S83 k) (fun rec => U3 (impl_setGraphOf.s1 k (C3 rec) (impl_setGraphOf.l2 k (C3 rec) k))) (fun n => U3 (impl_setGraphOf.l1 k n)) (fun rec v => r83_1 k rec _ (q83_2 k rec k) v) n)
theorem r83_0 (k) (rec : St → O83) (G1 : T83_1 O83) (h1 : W3 (L83 k p83_1 [] k) n83_1 = G1) (v) : roundF (E83 k) (S83 k) Tryz.f83 p83_0 [] rec (U6 n83_0 v) = U6 (impl_setGraphOf.s0 k (W6 rec n83_0) G1) v := by
 subst h1
 kernel_rfl
theorem q83_0 (k) (n) : W6 (L83 k p83_0 [] n) n83_0 = impl_setGraphOf.l0 k n :=
 u6 (lq (E83 k) (S83 k) (fun rec => U6 (impl_setGraphOf.s0 k (C6 rec) (impl_setGraphOf.l1 k k))) (fun n => U6 (impl_setGraphOf.l0 k n)) (fun rec v => r83_0 k rec _ (q83_1 k k) v) n)
theorem M83 (k) : Meets Tryz.prog 83 (S83 k) := mo Tryz.func83 (oc (M68 k) (oc (M125 k) (oc (M124 k) (oc (M86 k) on)))) fun x => (show funK (E83 k) (S83 k) Tryz.f83 x = impl_setGraphOf.g k (W6 (L83 k p83_0 [] k) n83_0) x.1 x.2 by kernel_rfl).trans (by rw [q83_0]; rfl)
def impl_setGraph_canServe.f (a0 : (List (List (Int × Int))) × (List Bool)) : Option (Bool) := if 0 ≤ (wrap64 ((a0.2.length : Int) - 1)) then (if (wrap64 ((a0.2.length : Int) - 1)) < (a0.2.length : Int) then (some (rdOf false a0.2 (wrap64 ((a0.2.length : Int) - 1)))) else none) else none
def S84 (k : Nat) : Does := ⟨[(false, [.dat (.ptr (.struct (.pair (.list (.list (.struct (.pair (.int .i64) (.int .i64))))) (.list .bool))))])], [sB], impl_setGraph_canServe.f⟩
def E84 (k : Nat) : En := ⟨tb, orcOf [], lvOf [], k, 0, lvOf [], []⟩
theorem M84 (k) : Meets Tryz.prog 84 (S84 k) := mo Tryz.func84 on fun x => (by kernel_rfl : funK (E84 k) (S84 k) Tryz.f84 x = (S84 k).fn x)
def impl_CanServeOn.f (k : Nat) (l0_0 : List Int) (a1 : Int) : Option (Bool × Int) := (impl_isChannels.f a1).bind fun t1 => (impl_statesCode.f k l0_0 t1).bind fun t2 => if t2 = 0 then ((impl_setGraphOf.f k l0_0 a1).bind fun t3 => (impl_setGraph_canServe.f t3).bind fun t4 => some (t4, 0)) else (some (false, t2))
def S29 (k : Nat) : Does := ⟨[sT, sI], [sB, sI], U2 (impl_CanServeOn.f k)⟩
def E29 (k : Nat) : En := ⟨tb, orcOf [(79, S79 k), (78, S78 k), (83, S83 k), (84, S84 k)], lvOf [], k, 0, lvOf [], []⟩
theorem M29 (k) : Meets Tryz.prog 29 (S29 k) := mo Tryz.func29 (oc (M79 k) (oc (M78 k) (oc (M83 k) (oc (M84 k) on)))) fun x => (by kernel_rfl : funK (E29 k) (S29 k) Tryz.f29 x = (S29 k).fn x)
abbrev O91 := Option (Int)
abbrev T91_0 (R : Type) := Int → Int → R
def spec_l08Size.s0 (k : Nat) (r0 : T91_0 O91) : T91_0 O91 := fun x0 x3 => if 0 < x0 then (r0 (andV .i64 x0 (wrap64 (x0 - 1))) (wrap64 (x3 + 1))) else (some x3)
def spec_l08Size.l0 (k : Nat) : Nat → T91_0 O91
 | 0 => Z2
 | n + 1 => spec_l08Size.s0 k (spec_l08Size.l0 k n)
def spec_l08Size.g (k : Nat) (r0 : T91_0 O91) (a0 : Int) : Option (Int) := r0 a0 0
def spec_l08Size.f (k : Nat) (a0 : Int) : Option (Int) := spec_l08Size.g k (spec_l08Size.l0 k k) a0
def S91 (k : Nat) : Does := ⟨[sI], [sI], spec_l08Size.f k⟩
def E91 (k : Nat) : En := ⟨tb, orcOf [], lvOf [(0, lz [0, 3])], k, 0, lvOf [], []⟩
def n91_0 : T91_0 St := fun x0 x3 => ⟨13, lookA [(0, aI x0), (3, aI x3)], Go.V.look []⟩
def p91_0 : List Bool := [t', t', f', f']
def L91 (k : Nat) (p : List Bool) (r : List (St → O91)) : Nat → St → O91 := loopF (E91 k) (S91 k) Tryz.f91 p r
theorem r91_0 (k) (rec : St → O91) (v) : roundF (E91 k) (S91 k) Tryz.f91 p91_0 [] rec (U2 n91_0 v) = U2 (spec_l08Size.s0 k (W2 rec n91_0)) v := by kernel_rfl
theorem q91_0 (k) (n) : W2 (L91 k p91_0 [] n) n91_0 = spec_l08Size.l0 k n :=
 u2 (lq (E91 k) (S91 k) (fun rec => U2 (spec_l08Size.s0 k (C2 rec))) (fun n => U2 (spec_l08Size.l0 k n)) (r91_0 k) n)
theorem M91 (k) : Meets Tryz.prog 91 (S91 k) := mo Tryz.func91 on fun x => (show funK (E91 k) (S91 k) Tryz.f91 x = spec_l08Size.g k (W2 (L91 k p91_0 [] k) n91_0) x by kernel_rfl).trans (by rw [q91_0]; rfl)
abbrev O87 := Option (List Int)
abbrev T87_0 (R : Type) := Int → (List Int) → (List Int) → Int → R
def spec_l08Sets.s0 (k : Nat) (r0 : T87_0 O87) : T87_0 O87 := fun x1 x2_0 x5 x6 => if (IntKind.wrap .u64 ((x2_0.length : Int))) < 0 then none else (if x6 < (shlV .i64 1 (IntKind.wrap .u64 ((x2_0.length : Int)))) then ((spec_l08Size.f k x6).bind fun t1 => if t1 ≤ x1 then (if x5.length + 1 ≤ 1099511627776 then (r0 x1 x2_0 (x5 ++ [x6]) (wrap64 (x6 + 1))) else none) else (r0 x1 x2_0 x5 (wrap64 (x6 + 1)))) else (some x5))
def spec_l08Sets.l0 (k : Nat) : Nat → T87_0 O87
 | 0 => Z4
 | n + 1 => spec_l08Sets.s0 k (spec_l08Sets.l0 k n)
def spec_l08Sets.g (k : Nat) (r0 : T87_0 O87) (l0_0 : List Int) (a1 : Int) : Option (List Int) := r0 a1 l0_0 [] 0
def spec_l08Sets.f (k : Nat) (l0_0 : List Int) (a1 : Int) : Option (List Int) := spec_l08Sets.g k (spec_l08Sets.l0 k k) l0_0 a1
def S87 (k : Nat) : Does := ⟨[sT, sI], [(false, [.own 2 (.int .i64)])], U2 (spec_l08Sets.f k)⟩
def E87 (k : Nat) : En := ⟨tb, orcOf [(91, S91 k)], lvOf [(0, lz [1, 2, 5, 6])], k, 0, lvOf [], []⟩
def n87_0 : T87_0 St := fun x1 x2_0 x5 x6 => ⟨26, lookA [(1, aI x1), (2, .box 0 0), (5, .own 1), (6, aI x6)], Go.V.look [(0, .cells [aL x2_0]), (1, .flat 2 (.int .i64) x5)]⟩
def p87_0 : List Bool := [t', t', f', t', f']
def L87 (k : Nat) (p : List Bool) (r : List (St → O87)) : Nat → St → O87 := loopF (E87 k) (S87 k) Tryz.f87 p r
theorem r87_0 (k) (rec : St → O87) (v) : roundF (E87 k) (S87 k) Tryz.f87 p87_0 [] rec (U4 n87_0 v) = U4 (spec_l08Sets.s0 k (W4 rec n87_0)) v := by kernel_rfl
theorem q87_0 (k) (n) : W4 (L87 k p87_0 [] n) n87_0 = spec_l08Sets.l0 k n :=
 u4 (lq (E87 k) (S87 k) (fun rec => U4 (spec_l08Sets.s0 k (C4 rec))) (fun n => U4 (spec_l08Sets.l0 k n)) (r87_0 k) n)
theorem M87 (k) : Meets Tryz.prog 87 (S87 k) := mo Tryz.func87 (oc (M91 k) on) fun x => (show funK (E87 k) (S87 k) Tryz.f87 x = spec_l08Sets.g k (W4 (L87 k p87_0 [] k) n87_0) x.1 x.2 by kernel_rfl).trans (by rw [q87_0]; rfl)
abbrev O126 := Option ((List Int) × Bool)
abbrev T126_0 (R : Type) := (List Int) → Int → (List Int) → (List Int) → Int → R
def spec_l08Step.s0 (k : Nat) (r0 : T126_0 O126) : T126_0 O126 := fun x1 x2 x3_0 x8 x9 => if x9 < x1.length then (if (IntKind.wrap .u64 (x9)) < 0 then none else (if (decide ((andV .i64 (shrV .i64 x2 (IntKind.wrap .u64 (x9))) 1) = 1)) = true then (if 0 ≤ x9 then (if x9 < x3_0.length then (if x8.length + 1 ≤ 1099511627776 then (r0 x1 x2 x3_0 (x8 ++ [(rd x3_0 x9)]) (wrap64 (x9 + 1))) else none) else none) else none) else (if 0 ≤ x9 then (if x9 < x1.length then (if (decide ((rd x1 x9) = 1)) = true then (some ([], false)) else (if 0 ≤ x9 then (if x9 < x1.length then (if x8.length + 1 ≤ 1099511627776 then (r0 x1 x2 x3_0 (x8 ++ [(wrap64 ((rd x1 x9) - 1))]) (wrap64 (x9 + 1))) else none) else none) else none)) else none) else none))) else (some (x8, true))
def spec_l08Step.l0 (k : Nat) : Nat → T126_0 O126
 | 0 => Z5
 | n + 1 => spec_l08Step.s0 k (spec_l08Step.l0 k n)
def spec_l08Step.g (k : Nat) (r0 : T126_0 O126) (l0_0 : List Int) (l1 : List Int) (a2 : Int) : Option ((List Int) × Bool) := r0 l1 a2 l0_0 [] 0
def spec_l08Step.f (k : Nat) (l0_0 : List Int) (l1 : List Int) (a2 : Int) : Option ((List Int) × Bool) := spec_l08Step.g k (spec_l08Step.l0 k k) l0_0 l1 a2
def S126 (k : Nat) : Does := ⟨[sT, sL, sI], [(false, [.own 2 (.int .i64)]), sB], U3 (spec_l08Step.f k)⟩
def E126 (k : Nat) : En := ⟨tb, orcOf [], lvOf [(0, lz [1, 2, 3, 8, 9])], k, 0, lvOf [], []⟩
def n126_0 : T126_0 St := fun x1 x2 x3_0 x8 x9 => ⟨47, lookA [(1, aL x1), (2, aI x2), (3, .box 0 0), (8, .own 1), (9, aI x9)], Go.V.look [(0, .cells [aL x3_0]), (1, .flat 2 (.int .i64) x8)]⟩
def p126_0 : List Bool := [t', t', f', t', f']
def L126 (k : Nat) (p : List Bool) (r : List (St → O126)) : Nat → St → O126 := loopF (E126 k) (S126 k) Tryz.f126 p r
theorem r126_0 (k) (rec : St → O126) (v) : roundF (E126 k) (S126 k) Tryz.f126 p126_0 [] rec (U5 n126_0 v) = U5 (spec_l08Step.s0 k (W5 rec n126_0)) v := by kernel_rfl
theorem q126_0 (k) (n) : W5 (L126 k p126_0 [] n) n126_0 = spec_l08Step.l0 k n :=
 u5 (lq (E126 k) (S126 k) (fun rec => U5 (spec_l08Step.s0 k (C5 rec))) (fun n => U5 (spec_l08Step.l0 k n)) (r126_0 k) n)
theorem M126 (k) : Meets Tryz.prog 126 (S126 k) := mo Tryz.func126 on fun x => (show funK (E126 k) (S126 k) Tryz.f126 x = spec_l08Step.g k (W5 (L126 k p126_0 [] k) n126_0) x.1 x.2.1 x.2.2 by kernel_rfl).trans (by rw [q126_0]; rfl)
abbrev O89 := Option (Int × Int × Bool)
abbrev T89_0 (R : Type) := (List Int) → (List Bool) → (List Int) → (List Int) → Int → R
def spec_l08First.s0 (k : Nat) (r0 : T89_0 O89) : T89_0 O89 := fun x1 x2 x3 x4_0 x11 => if x11 < x1.length then (if 0 ≤ x11 then (if x11 < x1.length then ((spec_l08Step.f k x4_0 x3 (rd x1 x11)).bind fun t1 => if t1.2 = true then ((spec_l02Number.f k x4_0 t1.1).bind fun t2 => if 0 ≤ t2 then (if t2 < (x2.length : Int) then (if (rdOf false x2 t2) = true then (if 0 ≤ x11 then (if x11 < x1.length then (some ((rd x1 x11), t2, true)) else none) else none) else (r0 x1 x2 x3 x4_0 (wrap64 (x11 + 1)))) else none) else none) else (r0 x1 x2 x3 x4_0 (wrap64 (x11 + 1)))) else none) else none) else (some (0, 0, false))
def spec_l08First.l0 (k : Nat) : Nat → T89_0 O89
 | 0 => Z5
 | n + 1 => spec_l08First.s0 k (spec_l08First.l0 k n)
def spec_l08First.g (k : Nat) (r0 : T89_0 O89) (l0_0 : List Int) (l1 : List Int) (l2 : List Bool) (l3 : List Int) : Option (Int × Int × Bool) := r0 l1 l2 l3 l0_0 0
def spec_l08First.f (k : Nat) (l0_0 : List Int) (l1 : List Int) (l2 : List Bool) (l3 : List Int) : Option (Int × Int × Bool) := spec_l08First.g k (spec_l08First.l0 k k) l0_0 l1 l2 l3
def S89 (k : Nat) : Does := ⟨[sT, sL, (false, [.dat (.list .bool)]), sL], [sI, sI, sB], U4 (spec_l08First.f k)⟩
def E89 (k : Nat) : En := ⟨tb, orcOf [(126, S126 k), (88, S88 k)], lvOf [(0, lz [1, 2, 3, 4, 11])], k, 0, lvOf [], []⟩
def n89_0 : T89_0 St := fun x1 x2 x3 x4_0 x11 => ⟨44, lookA [(1, aL x1), (2, .dat (.list .bool) x2), (3, aL x3), (4, .box 0 0), (11, aI x11)], Go.V.look [(0, .cells [aL x4_0])]⟩
def p89_0 : List Bool := [t', f', t', f']
def L89 (k : Nat) (p : List Bool) (r : List (St → O89)) : Nat → St → O89 := loopF (E89 k) (S89 k) Tryz.f89 p r
theorem r89_0 (k) (rec : St → O89) (v) : roundF (E89 k) (S89 k) Tryz.f89 p89_0 [] rec (U5 n89_0 v) = U5 (spec_l08First.s0 k (W5 rec n89_0)) v := by kernel_rfl
theorem q89_0 (k) (n) : W5 (L89 k p89_0 [] n) n89_0 = spec_l08First.l0 k n :=
 u5 (lq (E89 k) (S89 k) (fun rec => U5 (spec_l08First.s0 k (C5 rec))) (fun n => U5 (spec_l08First.l0 k n)) (r89_0 k) n)
theorem M89 (k) : Meets Tryz.prog 89 (S89 k) := mo Tryz.func89 (oc (M126 k) (oc (M88 k) on)) fun x => (show funK (E89 k) (S89 k) Tryz.f89 x = spec_l08First.g k (W5 (L89 k p89_0 [] k) n89_0) x.1 x.2.1 x.2.2.1 x.2.2.2 by kernel_rfl).trans (by rw [q89_0]; rfl)
abbrev O85 := Option ((List Bool))
abbrev T85_0 (R : Type) := (List Int) → (List Int) → (List Bool) → Int → Int → R
abbrev T85_1 (R : Type) := (List Int) → (List Int) → (List Bool) → Bool → R
abbrev T85_2 (R : Type) := (List Int) → (List Int) → (List Bool) → Bool → Int → Int → R
def spec_l08Lasting.s2 (k : Nat) (r1 : T85_1 O85) (r2 : T85_2 O85) : T85_2 O85 := fun x2_0 x5 x6 x8 x30 x31 => if x31 < x30 then (if 0 ≤ x31 then (if x31 < x6.length then (if (rdOf false x6 x31) = true then ((spec_l02Of.f k x2_0 x31).bind fun t3 => (spec_l08First.f k x2_0 x5 x6 t3).bind fun t4 => if t4.2.2 = true then (r2 x2_0 x5 x6 x8 x30 (wrap64 (x31 + 1))) else (if 0 ≤ x31 then (if x31 < x6.length then (r2 x2_0 x5 (x6.set x31.toNat false) true x30 (wrap64 (x31 + 1))) else none) else none)) else (r2 x2_0 x5 x6 x8 x30 (wrap64 (x31 + 1)))) else none) else none) else (r1 x2_0 x5 x6 x8)
def spec_l08Lasting.l2 (k : Nat) (r1 : T85_1 O85) : Nat → T85_2 O85
 | 0 => Z6
 | n + 1 => spec_l08Lasting.s2 k r1 (spec_l08Lasting.l2 k r1 n)
def spec_l08Lasting.s1 (k : Nat) (r1 : T85_1 O85) (r2 : T85_2 O85) : T85_1 O85 := fun x2_0 x5 x6 x8 => if x8 = true then (r2 x2_0 x5 x6 false (x6.length : Int) 0) else (some x6)
def spec_l08Lasting.l1 (k : Nat) : Nat → T85_1 O85
 | 0 => Z4
 | n + 1 => spec_l08Lasting.s1 k (spec_l08Lasting.l1 k n) (spec_l08Lasting.l2 k (spec_l08Lasting.l1 k n) k)
def spec_l08Lasting.s0 (k : Nat) (r0 : T85_0 O85) (r1 : T85_1 O85) : T85_0 O85 := fun x2_0 x5 x6 x20 x21 => if x21 < x20 then (if 0 ≤ x21 then (if x21 < x6.length then (r0 x2_0 x5 (x6.set x21.toNat true) x20 (wrap64 (x21 + 1))) else none) else none) else (r1 x2_0 x5 x6 true)
def spec_l08Lasting.l0 (k : Nat) : Nat → T85_0 O85
 | 0 => Z5
 | n + 1 => spec_l08Lasting.s0 k (spec_l08Lasting.l0 k n) (spec_l08Lasting.l1 k k)
def spec_l08Lasting.g (k : Nat) (r0 : T85_0 O85) (l0_0 : List Int) (a1 : Int) : Option ((List Bool)) := (spec_l08Sets.f k l0_0 a1).bind fun t1 => (spec_l02Count.f k l0_0).bind fun t2 => if 0 ≤ t2 then (if t2 ≤ t2 then (if t2.toNat ≤ 1099511627776 then (r0 l0_0 t1 (List.replicate t2.toNat (false : Bool)) ((List.replicate t2.toNat (false : Bool)).length : Int) 0) else none) else none) else none
def spec_l08Lasting.f (k : Nat) (l0_0 : List Int) (a1 : Int) : Option ((List Bool)) := spec_l08Lasting.g k (spec_l08Lasting.l0 k k) l0_0 a1
def S85 (k : Nat) : Does := ⟨[sT, sI], [(false, [.own 4 .bool])], U2 (spec_l08Lasting.f k)⟩
def E85 (k : Nat) : En := ⟨tb, orcOf [(87, S87 k), (69, S69 k), (90, S90 k), (89, S89 k)], lvOf [(0, lz [2, 5, 6, 20, 21]), (2, lz [2, 5, 6, 8]), (4, lz [2, 5, 6, 8, 30, 31])], k, 0, lvOf [], []⟩
def n85_0 : T85_0 St := fun x2_0 x5 x6 x20 x21 => ⟨57, lookA [(2, .box 0 0), (5, .own 1), (6, .own 2), (20, aI x20), (21, aI x21)], Go.V.look [(0, .cells [aL x2_0]), (1, .flat 2 (.int .i64) x5), (2, .flat 4 .bool x6)]⟩
def p85_0 : List Bool := [t', t', f', t', f']
def n85_1 : T85_1 St := fun x2_0 x5 x6 x8 => ⟨57, lookA [(2, .box 0 0), (5, .own 1), (6, .own 2), (8, aB x8)], Go.V.look [(0, .cells [aL x2_0]), (1, .flat 2 (.int .i64) x5), (2, .flat 4 .bool x6)]⟩
def p85_1 : List Bool := [t', t', t', f', t', f']
def n85_2 : T85_2 St := fun x2_0 x5 x6 x8 x30 x31 => ⟨57, lookA [(2, .box 0 0), (5, .own 1), (6, .own 2), (8, aB x8), (30, aI x30), (31, aI x31)], Go.V.look [(0, .cells [aL x2_0]), (1, .flat 2 (.int .i64) x5), (2, .flat 4 .bool x6)]⟩
def p85_2 : List Bool := [t', t', t', f', t', f', f', t', f', t', t', f']
def L85 (k : Nat) (p : List Bool) (r : List (St → O85)) : Nat → St → O85 := loopF (E85 k) (S85 k) Tryz.f85 p r
theorem r85_2 (k) (R1 : St → O85) (rec : St → O85) (v) : roundF (E85 k) (S85 k) Tryz.f85 p85_2 [R1] rec (U6 n85_2 v) = U6 (spec_l08Lasting.s2 k (W4 R1 n85_1) (W6 rec n85_2)) v := by kernel_rfl
theorem q85_2 (k) (R1 : St → O85) (n) : W6 (L85 k p85_2 [R1] n) n85_2 = spec_l08Lasting.l2 k (W4 R1 n85_1) n :=
 u6 (lq (E85 k) (S85 k) (fun rec => U6 (spec_l08Lasting.s2 k (W4 R1 n85_1) (C6 rec))) (fun n => U6 (spec_l08Lasting.l2 k (W4 R1 n85_1) n)) (r85_2 k R1) n)
theorem r85_1 (k) (rec : St → O85) (G2 : T85_2 O85) (h2 : W6 (L85 k p85_2 [rec] k) n85_2 = G2) (v) : roundF (E85 k) (S85 k) Tryz.f85 p85_1 [] rec (U4 n85_1 v) = U4 (spec_l08Lasting.s1 k (W4 rec n85_1) G2) v := by
 subst h2
 kernel_rfl
theorem q85_1 (k) (n) : W4 (L85 k p85_1 [] n) n85_1 = spec_l08Lasting.l1 k n :=
 u4 (lq (E85 k) (S85 k) (fun rec => U4 (spec_l08Lasting.s1 k (C4 rec) (spec_l08Lasting.l2 k (C4 rec) k))) (fun n => U4 (spec_l08Lasting.l1 k n)) (fun rec v => r85_1 k rec _ (q85_2 k rec k) v) n)
theorem r85_0 (k) (rec : St → O85) (G1 : T85_1 O85) (h1 : W4 (L85 k p85_1 [] k) n85_1 = G1) (v) : roundF (E85 k) (S85 k) Tryz.f85 p85_0 [] rec (U5 n85_0 v) = U5 (spec_l08Lasting.s0 k (W5 rec n85_0) G1) v := by
 subst h1
 kernel_rfl
theorem q85_0 (k) (n) : W5 (L85 k p85_0 [] n) n85_0 = spec_l08Lasting.l0 k n :=
 u5 (lq (E85 k) (S85 k) (fun rec => U5 (spec_l08Lasting.s0 k (C5 rec) (spec_l08Lasting.l1 k k))) (fun n => U5 (spec_l08Lasting.l0 k n)) (fun rec v => r85_0 k rec _ (q85_1 k k) v) n)
theorem M85 (k) : Meets Tryz.prog 85 (S85 k) := mo Tryz.func85 (oc (M87 k) (oc (M69 k) (oc (M90 k) (oc (M89 k) on)))) fun x => (show funK (E85 k) (S85 k) Tryz.f85 x = spec_l08Lasting.g k (W5 (L85 k p85_0 [] k) n85_0) x.1 x.2 by kernel_rfl).trans (by rw [q85_0]; rfl)
def spec_CanServeOn.f (k : Nat) (l0_0 : List Int) (a1 : Int) : Option (Bool × Int) := (spec_l08Code.f k l0_0 a1).bind fun t1 => if t1 = 0 then ((spec_l08Lasting.f k l0_0 a1).bind fun t2 => (spec_l02Count.f k l0_0).bind fun t3 => if 0 ≤ (wrap64 (t3 - 1)) then (if (wrap64 (t3 - 1)) < (t2.length : Int) then (some ((rdOf false t2 (wrap64 (t3 - 1))), 0)) else none) else none) else (some (false, t1))
def S30 (k : Nat) : Does := ⟨[sT, sI], [sB, sI], U2 (spec_CanServeOn.f k)⟩
def E30 (k : Nat) : En := ⟨tb, orcOf [(81, S81 k), (85, S85 k), (69, S69 k)], lvOf [], k, 0, lvOf [], []⟩
theorem M30 (k) : Meets Tryz.prog 30 (S30 k) := mo Tryz.func30 (oc (M81 k) (oc (M85 k) (oc (M69 k) on))) fun x => (by kernel_rfl : funK (E30 k) (S30 k) Tryz.f30 x = (S30 k).fn x)
abbrev O31 := Option ((List Int) × (List Int) × Int)
abbrev T31_0 (R : Type) := ((List (List (Int × Int))) × (List Bool)) → (List (Int × Int)) → (List Int) → Int → R
def impl_LeastPlayOn.s0 (k : Nat) (r0 : T31_0 O31) : T31_0 O31 := fun x8 x9 x10 x11 => if (mgI x9 x11).isSome = true then (if 0 ≤ ((mgI x9 x11).getD 0) then (if ((mgI x9 x11).getD 0) ≤ (x10.length : Int) then ((slices_Clone_int64_int64.f (x10.take ((mgI x9 x11).getD 0).toNat)).bind fun t6 => if 0 ≤ ((mgI x9 x11).getD 0) then (if ((mgI x9 x11).getD 0) ≤ (x10.length : Int) then (if (x10.length : Int) ≤ (x10.length : Int) then ((slices_Clone_int64_int64.f ((x10.take (x10.length : Int).toNat).drop ((mgI x9 x11).getD 0).toNat)).bind fun t7 => some (t6, t7, 0)) else none) else none) else none) else none) else none) else ((impl_setGraph_least.f k x8 x11).bind fun t8 => if x10.length + 1 ≤ 1099511627776 then (r0 x8 (mpI x9 x11 (x10.length : Int)) (x10 ++ [t8.1]) t8.2.1) else none)
def impl_LeastPlayOn.l0 (k : Nat) : Nat → T31_0 O31
 | 0 => Z4
 | n + 1 => impl_LeastPlayOn.s0 k (impl_LeastPlayOn.l0 k n)
def impl_LeastPlayOn.g (k : Nat) (r0 : T31_0 O31) (l0_0 : List Int) (a1 : Int) : Option ((List Int) × (List Int) × Int) := (impl_isChannels.f a1).bind fun t1 => (impl_statesCode.f k l0_0 t1).bind fun t2 => if t2 = 0 then ((impl_setGraphOf.f k l0_0 a1).bind fun t3 => (impl_setGraph_canServe.f t3).bind fun t4 => if t4 = true then ((impl_Tasks_states.f k l0_0).bind fun t5 => r0 t3 [] [] (wrap64 (t5 - 1))) else (some ([], [], 4))) else (some ([], [], t2))
def impl_LeastPlayOn.f (k : Nat) (l0_0 : List Int) (a1 : Int) : Option ((List Int) × (List Int) × Int) := impl_LeastPlayOn.g k (impl_LeastPlayOn.l0 k k) l0_0 a1
def S31 (k : Nat) : Does := ⟨[sT, sI], [(false, [.own 2 (.int .i64)]), (false, [.own 2 (.int .i64)]), sI], U2 (impl_LeastPlayOn.f k)⟩
def E31 (k : Nat) : En := ⟨tb, orcOf [(79, S79 k), (78, S78 k), (83, S83 k), (84, S84 k), (68, S68 k), (73, S73 k), (86, S86 k)], lvOf [(0, [(8, []), (9, []), (10, [.nil 2 (.int .i64)]), (11, [])])], k, 0, lvOf [(12, [(10, [.data (.int .i64)])])], []⟩
def n31_0 : T31_0 St := fun x8 x9 x10 x11 => ⟨65, lookA [(8, .dp (.struct (.pair (.list (.list (.struct (.pair (.int .i64) (.int .i64))))) (.list .bool))) x8), (9, .om 0), (10, .own 1), (11, aI x11)], Go.V.look [(0, .mp (.int .i64) (.int .i64) x9), (1, .flat 2 (.int .i64) x10)]⟩
def p31_0 : List Bool := [t', t', t', t', t', t', t', f']
def L31 (k : Nat) (p : List Bool) (r : List (St → O31)) : Nat → St → O31 := loopF (E31 k) (S31 k) Tryz.f31 p r
theorem r31_0 (k) (rec : St → O31) (v) : roundF (E31 k) (S31 k) Tryz.f31 p31_0 [] rec (U4 n31_0 v) = U4 (impl_LeastPlayOn.s0 k (W4 rec n31_0)) v := by kernel_rfl
theorem q31_0 (k) (n) : W4 (L31 k p31_0 [] n) n31_0 = impl_LeastPlayOn.l0 k n :=
 u4 (lq (E31 k) (S31 k) (fun rec => U4 (impl_LeastPlayOn.s0 k (C4 rec))) (fun n => U4 (impl_LeastPlayOn.l0 k n)) (r31_0 k) n)
theorem M31 (k) : Meets Tryz.prog 31 (S31 k) := mo Tryz.func31 (oc (M79 k) (oc (M78 k) (oc (M83 k) (oc (M84 k) (oc (M68 k) (oc (M73 k) (oc (M86 k) on))))))) fun x => (show funK (E31 k) (S31 k) Tryz.f31 x = impl_LeastPlayOn.g k (W4 (L31 k p31_0 [] k) n31_0) x.1 x.2 by kernel_rfl).trans (by rw [q31_0]; rfl)
abbrev O32 := Option ((List Int) × (List Int) × Int)
abbrev T32_0 (R : Type) := (List Int) → (List Bool) → (List Int) → (List Int) → (List Int) → (List Int) → Int → Int → R
abbrev T32_1 (R : Type) := (List Int) → (List Bool) → (List Int) → (List Int) → (List Int) → (List Int) → R
def spec_LeastPlayOn.s1 (k : Nat) (r1 : T32_1 O32) : T32_1 O32 := fun x2_0 x8 x9 x10 x11 x12 => (spec_l02Number.f k x2_0 x11).bind fun t5 => if 0 ≤ t5 then (if t5 < (x10.length : Int) then (if 0 ≤ (rd x10 t5) then (if 0 ≤ (rd x10 t5) then (if (rd x10 t5) ≤ (x12.length : Int) then ((spec_l01Own.f (x12.take (rd x10 t5).toNat)).bind fun t6 => if 0 ≤ (rd x10 t5) then (if (rd x10 t5) ≤ (x12.length : Int) then (if (x12.length : Int) ≤ (x12.length : Int) then ((spec_l01Own.f ((x12.take (x12.length : Int).toNat).drop (rd x10 t5).toNat)).bind fun t7 => some (t6, t7, 0)) else none) else none) else none) else none) else none) else (if 0 ≤ t5 then (if t5 < (x10.length : Int) then ((spec_l08First.f k x2_0 x9 x8 x11).bind fun t8 => if x12.length + 1 ≤ 1099511627776 then ((spec_l02Of.f k x2_0 t8.2.1).bind fun t9 => r1 x2_0 x8 x9 (x10.set t5.toNat (x12.length : Int)) t9 (x12 ++ [t8.1])) else none) else none) else none)) else none) else none
def spec_LeastPlayOn.l1 (k : Nat) : Nat → T32_1 O32
 | 0 => Z6
 | n + 1 => spec_LeastPlayOn.s1 k (spec_LeastPlayOn.l1 k n)
def spec_LeastPlayOn.s0 (k : Nat) (r0 : T32_0 O32) (r1 : T32_1 O32) : T32_0 O32 := fun x2_0 x8 x9 x10 x11 x12 x46 x47 => if x47 < x46 then (if 0 ≤ x47 then (if x47 < x10.length then (r0 x2_0 x8 x9 (x10.set x47.toNat (-1)) x11 x12 x46 (wrap64 (x47 + 1))) else none) else none) else (r1 x2_0 x8 x9 x10 x11 x12)
def spec_LeastPlayOn.l0 (k : Nat) : Nat → T32_0 O32
 | 0 => Z8
 | n + 1 => spec_LeastPlayOn.s0 k (spec_LeastPlayOn.l0 k n) (spec_LeastPlayOn.l1 k k)
def spec_LeastPlayOn.g (k : Nat) (r0 : T32_0 O32) (l0_0 : List Int) (a1 : Int) : Option ((List Int) × (List Int) × Int) := (spec_l08Code.f k l0_0 a1).bind fun t1 => if t1 = 0 then ((spec_l08Lasting.f k l0_0 a1).bind fun t2 => (spec_l08Sets.f k l0_0 a1).bind fun t3 => if 0 ≤ (wrap64 ((t2.length : Int) - 1)) then (if (wrap64 ((t2.length : Int) - 1)) < (t2.length : Int) then (if (rdOf false t2 (wrap64 ((t2.length : Int) - 1))) = true then (if 0 ≤ (t2.length : Int) then (if (t2.length : Int) ≤ (t2.length : Int) then (if (t2.length : Int).toNat ≤ 1099511627776 then ((spec_l01Own.f l0_0).bind fun t4 => r0 l0_0 t2 t3 (List.replicate (t2.length : Int).toNat (0 : Int)) t4 [] ((List.replicate (t2.length : Int).toNat (0 : Int)).length : Int) 0) else none) else none) else none) else (some ([], [], 4))) else none) else none) else (some ([], [], t1))
def spec_LeastPlayOn.f (k : Nat) (l0_0 : List Int) (a1 : Int) : Option ((List Int) × (List Int) × Int) := spec_LeastPlayOn.g k (spec_LeastPlayOn.l0 k k) l0_0 a1
def S32 (k : Nat) : Does := ⟨[sT, sI], [(false, [.own 2 (.int .i64)]), (false, [.own 2 (.int .i64)]), sI], U2 (spec_LeastPlayOn.f k)⟩
def E32 (k : Nat) : En := ⟨tb, orcOf [(81, S81 k), (85, S85 k), (87, S87 k), (66, S66 k), (88, S88 k), (89, S89 k), (90, S90 k)], lvOf [(0, lz [2, 8, 9, 10, 11, 12, 46, 47]), (2, lz [2, 8, 9, 10, 11, 12])], k, 0, lvOf [(16, [(12, [.data (.int .i64)])])], []⟩
def n32_0 : T32_0 St := fun x2_0 x8 x9 x10 x11 x12 x46 x47 => ⟨92, lookA [(2, .box 0 0), (8, .own 1), (9, .own 2), (10, .own 3), (11, .own 4), (12, .own 5), (46, aI x46), (47, aI x47)], Go.V.look [(0, .cells [aL x2_0]), (1, .flat 4 .bool x8), (2, .flat 2 (.int .i64) x9), (3, .flat 2 (.int .i64) x10), (4, .flat 2 (.int .i64) x11), (5, .flat 2 (.int .i64) x12)]⟩
def p32_0 : List Bool := [t', t', t', t', t', f', t', f']
def n32_1 : T32_1 St := fun x2_0 x8 x9 x10 x11 x12 => ⟨92, lookA [(2, .box 0 0), (8, .own 1), (9, .own 2), (10, .own 3), (11, .own 4), (12, .own 5)], Go.V.look [(0, .cells [aL x2_0]), (1, .flat 4 .bool x8), (2, .flat 2 (.int .i64) x9), (3, .flat 2 (.int .i64) x10), (4, .flat 2 (.int .i64) x11), (5, .flat 2 (.int .i64) x12)]⟩
def p32_1 : List Bool := [t', t', t', t', t', t', f']
def L32 (k : Nat) (p : List Bool) (r : List (St → O32)) : Nat → St → O32 := loopF (E32 k) (S32 k) Tryz.f32 p r
theorem r32_1 (k) (rec : St → O32) (v) : roundF (E32 k) (S32 k) Tryz.f32 p32_1 [] rec (U6 n32_1 v) = U6 (spec_LeastPlayOn.s1 k (W6 rec n32_1)) v := by kernel_rfl
theorem q32_1 (k) (n) : W6 (L32 k p32_1 [] n) n32_1 = spec_LeastPlayOn.l1 k n :=
 u6 (lq (E32 k) (S32 k) (fun rec => U6 (spec_LeastPlayOn.s1 k (C6 rec))) (fun n => U6 (spec_LeastPlayOn.l1 k n)) (r32_1 k) n)
theorem r32_0 (k) (rec : St → O32) (G1 : T32_1 O32) (h1 : W6 (L32 k p32_1 [] k) n32_1 = G1) (v) : roundF (E32 k) (S32 k) Tryz.f32 p32_0 [] rec (U8 n32_0 v) = U8 (spec_LeastPlayOn.s0 k (W8 rec n32_0) G1) v := by
 subst h1
 kernel_rfl
theorem q32_0 (k) (n) : W8 (L32 k p32_0 [] n) n32_0 = spec_LeastPlayOn.l0 k n :=
 u8 (lq (E32 k) (S32 k) (fun rec => U8 (spec_LeastPlayOn.s0 k (C8 rec) (spec_LeastPlayOn.l1 k k))) (fun n => U8 (spec_LeastPlayOn.l0 k n)) (fun rec v => r32_0 k rec _ (q32_1 k k) v) n)
theorem M32 (k) : Meets Tryz.prog 32 (S32 k) := mo Tryz.func32 (oc (M81 k) (oc (M85 k) (oc (M87 k) (oc (M66 k) (oc (M88 k) (oc (M89 k) (oc (M90 k) on))))))) fun x => (show funK (E32 k) (S32 k) Tryz.f32 x = spec_LeastPlayOn.g k (W8 (L32 k p32_0 [] k) n32_0) x.1 x.2 by kernel_rfl).trans (by rw [q32_0]; rfl)
abbrev O33 := Option (Int × Int)
abbrev T33_0 (R : Type) := (List Int) → Int → R
def impl_FewestChannels.s0 (k : Nat) (r0 : T33_0 O33) : T33_0 O33 := fun x1_0 x5 => if x5 ≤ 4 then ((impl_setGraphOf.f k x1_0 x5).bind fun t2 => (impl_setGraph_canServe.f t2).bind fun t3 => if t3 = true then (some (x5, 0)) else (r0 x1_0 (wrap64 (x5 + 1)))) else (some (0, 4))
def impl_FewestChannels.l0 (k : Nat) : Nat → T33_0 O33
 | 0 => Z2
 | n + 1 => impl_FewestChannels.s0 k (impl_FewestChannels.l0 k n)
def impl_FewestChannels.g (k : Nat) (r0 : T33_0 O33) (l0_0 : List Int) : Option (Int × Int) := (impl_statesCode.f k l0_0 true).bind fun t1 => if t1 = 0 then (r0 l0_0 1) else (some (0, t1))
def impl_FewestChannels.f (k : Nat) (l0_0 : List Int) : Option (Int × Int) := impl_FewestChannels.g k (impl_FewestChannels.l0 k k) l0_0
def S33 (k : Nat) : Does := ⟨[sT], [sI, sI], impl_FewestChannels.f k⟩
def E33 (k : Nat) : En := ⟨tb, orcOf [(78, S78 k), (83, S83 k), (84, S84 k)], lvOf [(0, lz [1, 5])], k, 0, lvOf [], []⟩
def n33_0 : T33_0 St := fun x1_0 x5 => ⟨20, lookA [(1, .box 0 0), (5, aI x5)], Go.V.look [(0, .cells [aL x1_0])]⟩
def p33_0 : List Bool := [t', t', f', t', f']
def L33 (k : Nat) (p : List Bool) (r : List (St → O33)) : Nat → St → O33 := loopF (E33 k) (S33 k) Tryz.f33 p r
theorem r33_0 (k) (rec : St → O33) (v) : roundF (E33 k) (S33 k) Tryz.f33 p33_0 [] rec (U2 n33_0 v) = U2 (impl_FewestChannels.s0 k (W2 rec n33_0)) v := by kernel_rfl
theorem q33_0 (k) (n) : W2 (L33 k p33_0 [] n) n33_0 = impl_FewestChannels.l0 k n :=
 u2 (lq (E33 k) (S33 k) (fun rec => U2 (impl_FewestChannels.s0 k (C2 rec))) (fun n => U2 (impl_FewestChannels.l0 k n)) (r33_0 k) n)
theorem M33 (k) : Meets Tryz.prog 33 (S33 k) := mo Tryz.func33 (oc (M78 k) (oc (M83 k) (oc (M84 k) on))) fun x => (show funK (E33 k) (S33 k) Tryz.f33 x = impl_FewestChannels.g k (W2 (L33 k p33_0 [] k) n33_0) x by kernel_rfl).trans (by rw [q33_0]; rfl)
abbrev O34 := Option (Int × Int)
abbrev T34_0 (R : Type) := (List Int) → Int → R
def spec_FewestChannels.s0 (k : Nat) (r0 : T34_0 O34) : T34_0 O34 := fun x1_0 x5 => if x5 ≤ 4 then ((spec_l08Lasting.f k x1_0 x5).bind fun t2 => (spec_l02Count.f k x1_0).bind fun t3 => if 0 ≤ (wrap64 (t3 - 1)) then (if (wrap64 (t3 - 1)) < (t2.length : Int) then (if (rdOf false t2 (wrap64 (t3 - 1))) = true then (some (x5, 0)) else (r0 x1_0 (wrap64 (x5 + 1)))) else none) else none) else (some (0, 4))
def spec_FewestChannels.l0 (k : Nat) : Nat → T34_0 O34
 | 0 => Z2
 | n + 1 => spec_FewestChannels.s0 k (spec_FewestChannels.l0 k n)
def spec_FewestChannels.g (k : Nat) (r0 : T34_0 O34) (l0_0 : List Int) : Option (Int × Int) := (spec_l08Code.f k l0_0 1).bind fun t1 => if t1 = 0 then (r0 l0_0 1) else (some (0, t1))
def spec_FewestChannels.f (k : Nat) (l0_0 : List Int) : Option (Int × Int) := spec_FewestChannels.g k (spec_FewestChannels.l0 k k) l0_0
def S34 (k : Nat) : Does := ⟨[sT], [sI, sI], spec_FewestChannels.f k⟩
def E34 (k : Nat) : En := ⟨tb, orcOf [(81, S81 k), (85, S85 k), (69, S69 k)], lvOf [(0, lz [1, 5])], k, 0, lvOf [], []⟩
def n34_0 : T34_0 St := fun x1_0 x5 => ⟨24, lookA [(1, .box 0 0), (5, aI x5)], Go.V.look [(0, .cells [aL x1_0])]⟩
def p34_0 : List Bool := [t', t', f', t', f']
def L34 (k : Nat) (p : List Bool) (r : List (St → O34)) : Nat → St → O34 := loopF (E34 k) (S34 k) Tryz.f34 p r
theorem r34_0 (k) (rec : St → O34) (v) : roundF (E34 k) (S34 k) Tryz.f34 p34_0 [] rec (U2 n34_0 v) = U2 (spec_FewestChannels.s0 k (W2 rec n34_0)) v := by kernel_rfl
theorem q34_0 (k) (n) : W2 (L34 k p34_0 [] n) n34_0 = spec_FewestChannels.l0 k n :=
 u2 (lq (E34 k) (S34 k) (fun rec => U2 (spec_FewestChannels.s0 k (C2 rec))) (fun n => U2 (spec_FewestChannels.l0 k n)) (r34_0 k) n)
theorem M34 (k) : Meets Tryz.prog 34 (S34 k) := mo Tryz.func34 (oc (M81 k) (oc (M85 k) (oc (M69 k) on))) fun x => (show funK (E34 k) (S34 k) Tryz.f34 x = spec_FewestChannels.g k (W2 (L34 k p34_0 [] k) n34_0) x by kernel_rfl).trans (by rw [q34_0]; rfl)
abbrev O35 := Option (Int × Int × (List Int))
abbrev T35_0 (R : Type) := (List Int) → Int → Int → Int → Int → (List Int) → Int → R
abbrev T35_1 (R : Type) := (List Int) → Int → Int → Int → Int → (List Int) → Int → Int → R
def spec_DrawPutSets.s1 (k : Nat) (r0 : T35_0 O35) (r1 : T35_1 O35) : T35_1 O35 := fun x5_0 x5_1 x5_2 x6 x7 x8 x9 x10 => (spec_l08Size.f k x10).bind fun t6 => if x7 < t6 then (r1 x5_0 x5_1 x5_2 x6 x7 x8 x9 (andV .i64 x10 (wrap64 (x10 - 1)))) else (if x8.length + 1 ≤ 1099511627776 then (r0 x5_0 x5_1 x5_2 x6 x7 (x8 ++ [x10]) (wrap64 (x9 - 1))) else none)
def spec_DrawPutSets.l1 (k : Nat) (r0 : T35_0 O35) : Nat → T35_1 O35
 | 0 => Z8
 | n + 1 => spec_DrawPutSets.s1 k r0 (spec_DrawPutSets.l1 k r0 n)
def spec_DrawPutSets.s0 (k : Nat) (r0 : T35_0 O35) (r1 : T35_1 O35) : T35_0 O35 := fun x5_0 x5_1 x5_2 x6 x7 x8 x9 => if 0 < x9 then (if (IntKind.wrap .u64 (x6)) < 0 then none else ((spec_l01Next.f (x5_0, x5_1, x5_2) (shlV .i64 1 (IntKind.wrap .u64 (x6)))).bind fun t5 => r1 t5.2.1 t5.2.2.1 t5.2.2.2 x6 x7 x8 x9 t5.1)) else ((spec_l01Next.f (x5_0, x5_1, x5_2) 16).bind fun t7 => if (decide (t7.1 = 0)) = true then ((spec_l01Pick.f (t7.2.1, t7.2.2.1, t7.2.2.2) [0, 9, 1]).bind fun t8 => some (t8.1, x7, x8)) else (if (decide (t7.1 = 1)) = true then ((spec_l01Pick.f (t7.2.1, t7.2.2.1, t7.2.2.2) [(-1), 256, 255]).bind fun t9 => if x8.length + 1 ≤ 1099511627776 then (some (x6, x7, (x8 ++ [t9.1]))) else none) else (some (x6, x7, x8))))
def spec_DrawPutSets.l0 (k : Nat) : Nat → T35_0 O35
 | 0 => Z7
 | n + 1 => spec_DrawPutSets.s0 k (spec_DrawPutSets.l0 k n) (spec_DrawPutSets.l1 k (spec_DrawPutSets.l0 k n) k)
def spec_DrawPutSets.g (k : Nat) (r0 : T35_0 O35) (l0 : List Int) : Option (Int × Int × (List Int)) := (spec_l01From.f k l0).bind fun t1 => (spec_l01Next.f (t1.1, t1.2.1, t1.2.2) 6).bind fun t2 => (spec_l01Next.f (t2.2.1, t2.2.2.1, t2.2.2.2) 4).bind fun t3 => (spec_l01Next.f (t3.2.1, t3.2.2.1, t3.2.2.2) 8).bind fun t4 => r0 t4.2.1 t4.2.2.1 t4.2.2.2 (wrap64 (1 + t2.1)) (wrap64 (1 + t3.1)) [] (wrap64 (1 + t4.1))
def spec_DrawPutSets.f (k : Nat) (l0 : List Int) : Option (Int × Int × (List Int)) := spec_DrawPutSets.g k (spec_DrawPutSets.l0 k k) l0
def S35 (k : Nat) : Does := ⟨[sU], [sI, sI, (false, [.own 2 (.int .i64)])], spec_DrawPutSets.f k⟩
def E35 (k : Nat) : En := ⟨tb, orcOf [(48, S48 k), (60, S60 k), (91, S91 k), (49, S49 k)], lvOf [(0, lz [5, 6, 7, 8, 9]), (2, lz [5, 6, 7, 8, 9, 10])], k, 0, lvOf [], []⟩
def n35_0 : T35_0 St := fun x5_0 x5_1 x5_2 x6 x7 x8 x9 => ⟨62, lookA [(5, .box 0 0), (6, aI x6), (7, aI x7), (8, .own 1), (9, aI x9)], Go.V.look [(0, .cells [aU x5_0, aI x5_1, aQ x5_2]), (1, .flat 2 (.int .i64) x8)]⟩
def p35_0 : List Bool := [t', t', t', f', t', f']
def n35_1 : T35_1 St := fun x5_0 x5_1 x5_2 x6 x7 x8 x9 x10 => ⟨62, lookA [(5, .box 0 0), (6, aI x6), (7, aI x7), (8, .own 1), (9, aI x9), (10, aI x10)], Go.V.look [(0, .cells [aU x5_0, aI x5_1, aQ x5_2]), (1, .flat 2 (.int .i64) x8)]⟩
def p35_1 : List Bool := [t', t', t', f', t', f', f', t', f', f', t', f', f']
def L35 (k : Nat) (p : List Bool) (r : List (St → O35)) : Nat → St → O35 := loopF (E35 k) (S35 k) Tryz.f35 p r
theorem r35_1 (k) (R0 : St → O35) (rec : St → O35) (v) : roundF (E35 k) (S35 k) Tryz.f35 p35_1 [R0] rec (U8 n35_1 v) = U8 (spec_DrawPutSets.s1 k (W7 R0 n35_0) (W8 rec n35_1)) v := by kernel_rfl
theorem q35_1 (k) (R0 : St → O35) (n) : W8 (L35 k p35_1 [R0] n) n35_1 = spec_DrawPutSets.l1 k (W7 R0 n35_0) n :=
 u8 (lq (E35 k) (S35 k) (fun rec => U8 (spec_DrawPutSets.s1 k (W7 R0 n35_0) (C8 rec))) (fun n => U8 (spec_DrawPutSets.l1 k (W7 R0 n35_0) n)) (r35_1 k R0) n)
theorem r35_0 (k) (rec : St → O35) (G1 : T35_1 O35) (h1 : W8 (L35 k p35_1 [rec] k) n35_1 = G1) (v) : roundF (E35 k) (S35 k) Tryz.f35 p35_0 [] rec (U7 n35_0 v) = U7 (spec_DrawPutSets.s0 k (W7 rec n35_0) G1) v := by
 subst h1
 kernel_rfl
theorem q35_0 (k) (n) : W7 (L35 k p35_0 [] n) n35_0 = spec_DrawPutSets.l0 k n :=
 u7 (lq (E35 k) (S35 k) (fun rec => U7 (spec_DrawPutSets.s0 k (C7 rec) (spec_DrawPutSets.l1 k (C7 rec) k))) (fun n => U7 (spec_DrawPutSets.l0 k n)) (fun rec v => r35_0 k rec _ (q35_1 k rec k) v) n)
theorem M35 (k) : Meets Tryz.prog 35 (S35 k) := mo Tryz.func35 (oc (M48 k) (oc (M60 k) (oc (M91 k) (oc (M49 k) on)))) fun x => (show funK (E35 k) (S35 k) Tryz.f35 x = spec_DrawPutSets.g k (W7 (L35 k p35_0 [] k) n35_0) x by kernel_rfl).trans (by rw [q35_0]; rfl)
def impl_isMany.f (a0 : Int) : Option (Bool) := (impl_within.f a0 1 8).bind fun t1 => some t1
def S92 (k : Nat) : Does := ⟨[sI], [sB], impl_isMany.f⟩
def E92 (k : Nat) : En := ⟨tb, orcOf [(54, S54 k)], lvOf [], k, 0, lvOf [], []⟩
theorem M92 (k) : Meets Tryz.prog 92 (S92 k) := mo Tryz.func92 (oc (M54 k) on) fun x => (by kernel_rfl : funK (E92 k) (S92 k) Tryz.f92 x = (S92 k).fn x)
abbrev O99 := Option (Int)
abbrev T99_0 (R : Type) := (List Int) → Int → Int → Int → R
def slices_Index_int64_int64.s0 (k : Nat) (r0 : T99_0 O99) : T99_0 O99 := fun x0 x1 x7 x8 => if x8 < x7 then (if 0 ≤ x8 then (if x8 < x0.length then (if x1 = (rd x0 x8) then (some x8) else (r0 x0 x1 x7 (wrap64 (x8 + 1)))) else none) else none) else (some (-1))
def slices_Index_int64_int64.l0 (k : Nat) : Nat → T99_0 O99
 | 0 => Z4
 | n + 1 => slices_Index_int64_int64.s0 k (slices_Index_int64_int64.l0 k n)
def slices_Index_int64_int64.g (k : Nat) (r0 : T99_0 O99) (l0 : List Int) (a1 : Int) : Option (Int) := r0 l0 a1 (l0.length : Int) 0
def slices_Index_int64_int64.f (k : Nat) (l0 : List Int) (a1 : Int) : Option (Int) := slices_Index_int64_int64.g k (slices_Index_int64_int64.l0 k k) l0 a1
def S99 (k : Nat) : Does := ⟨[sL, sI], [sI], U2 (slices_Index_int64_int64.f k)⟩
def E99 (k : Nat) : En := ⟨tb, orcOf [], lvOf [(0, lz [0, 1, 7, 8])], k, 0, lvOf [], []⟩
def n99_0 : T99_0 St := fun x0 x1 x7 x8 => ⟨19, lookA [(0, aL x0), (1, aI x1), (7, aI x7), (8, aI x8)], Go.V.look []⟩
def p99_0 : List Bool := [t', f', t', f']
def L99 (k : Nat) (p : List Bool) (r : List (St → O99)) : Nat → St → O99 := loopF (E99 k) (S99 k) Tryz.f99 p r
theorem r99_0 (k) (rec : St → O99) (v) : roundF (E99 k) (S99 k) Tryz.f99 p99_0 [] rec (U4 n99_0 v) = U4 (slices_Index_int64_int64.s0 k (W4 rec n99_0)) v := by kernel_rfl
theorem q99_0 (k) (n) : W4 (L99 k p99_0 [] n) n99_0 = slices_Index_int64_int64.l0 k n :=
 u4 (lq (E99 k) (S99 k) (fun rec => U4 (slices_Index_int64_int64.s0 k (C4 rec))) (fun n => U4 (slices_Index_int64_int64.l0 k n)) (r99_0 k) n)
theorem M99 (k) : Meets Tryz.prog 99 (S99 k) := mo Tryz.func99 on fun x => (show funK (E99 k) (S99 k) Tryz.f99 x = slices_Index_int64_int64.g k (W4 (L99 k p99_0 [] k) n99_0) x.1 x.2 by kernel_rfl).trans (by rw [q99_0]; rfl)
def slices_Contains_int64_int64.f (k : Nat) (l0 : List Int) (a1 : Int) : Option (Bool) := (slices_Index_int64_int64.f k l0 a1).bind fun t1 => some (decide (0 ≤ t1))
def S98 (k : Nat) : Does := ⟨[sL, sI], [sB], U2 (slices_Contains_int64_int64.f k)⟩
def E98 (k : Nat) : En := ⟨tb, orcOf [(99, S99 k)], lvOf [], k, 0, lvOf [], []⟩
theorem M98 (k) : Meets Tryz.prog 98 (S98 k) := mo Tryz.func98 (oc (M99 k) on) fun x => (by kernel_rfl : funK (E98 k) (S98 k) Tryz.f98 x = (S98 k).fn x)
def bits_Mul64.f (a0 : Int) (a1 : Int) : Option (Int × Int) := some ((IntKind.wrap .u64 ((IntKind.wrap .u64 ((IntKind.wrap .u64 ((shrV .u64 a0 32) * (shrV .u64 a1 32))) + (shrV .u64 (IntKind.wrap .u64 ((IntKind.wrap .u64 ((shrV .u64 a0 32) * (andV .u64 a1 4294967295))) + (shrV .u64 (IntKind.wrap .u64 ((andV .u64 a0 4294967295) * (andV .u64 a1 4294967295))) 32))) 32))) + (shrV .u64 (IntKind.wrap .u64 ((andV .u64 (IntKind.wrap .u64 ((IntKind.wrap .u64 ((shrV .u64 a0 32) * (andV .u64 a1 4294967295))) + (shrV .u64 (IntKind.wrap .u64 ((andV .u64 a0 4294967295) * (andV .u64 a1 4294967295))) 32))) 4294967295) + (IntKind.wrap .u64 ((andV .u64 a0 4294967295) * (shrV .u64 a1 32))))) 32))), (IntKind.wrap .u64 (a0 * a1)))
def S146 (k : Nat) : Does := ⟨[(false, [.dat (.int .u64)]), (false, [.dat (.int .u64)])], [(false, [.dat (.int .u64)]), (false, [.dat (.int .u64)])], U2 bits_Mul64.f⟩
def E146 (k : Nat) : En := ⟨tb, orcOf [], lvOf [], k, 0, lvOf [], []⟩
theorem M146 (k) : Meets Tryz.prog 146 (S146 k) := mo Tryz.func146 on fun x => (by kernel_rfl : funK (E146 k) (S146 k) Tryz.f146 x = (S146 k).fn x)
def bits_Mul.f (a0 : Int) (a1 : Int) : Option (Int × Int) := (bits_Mul64.f a0 a1).bind fun t1 => some (t1.1, t1.2)
def S130 (k : Nat) : Does := ⟨[(false, [.dat (.int .u64)]), (false, [.dat (.int .u64)])], [(false, [.dat (.int .u64)]), (false, [.dat (.int .u64)])], U2 bits_Mul.f⟩
def E130 (k : Nat) : En := ⟨tb, orcOf [(146, S146 k)], lvOf [], k, 0, lvOf [], []⟩
theorem M130 (k) : Meets Tryz.prog 130 (S130 k) := mo Tryz.func130 (oc (M146 k) on) fun x => (by kernel_rfl : funK (E130 k) (S130 k) Tryz.f130 x = (S130 k).fn x)
structure Aside0 (p : Prop) : Prop where mk :: (out : p)
theorem rep_mul {n : Nat} (hn : n < 4294967296) : bits_Mul.f 1 (n : Int) = some (0, (n : Int)) := by
 have w : ∀ x : Int, 0 ≤ x → x < 18446744073709551616 → IntKind.u64.wrap x = x := fun x h0 h1 => IntWalk.u64_in x ⟨h0, by omega⟩
 have m0 : ∀ b : Nat, IntKind.u64.bits = 64 := fun _ => rfl
 have a1 : andV .u64 1 4294967295 = 1 := by rw [andV_eq]; decide
 have a2 : andV .u64 (n : Int) 4294967295 = n := by
  rw [andV_eq, wrapV_eq]
  have e : ((BitVec.ofInt IntKind.u64.bits (n : Int) &&& BitVec.ofInt IntKind.u64.bits 4294967295).toNat) = n := by
   show ((BitVec.ofInt 64 (n : Int) &&& BitVec.ofInt 64 4294967295).toNat) = n
   rw [BitVec.toNat_and]
   have e1 : (BitVec.ofInt 64 (n : Int)).toNat = n := by simp; omega
   have e2 : (BitVec.ofInt 64 4294967295).toNat = 2 ^ 32 - 1 := by decide
   rw [e1, e2, Nat.and_two_pow_sub_one_eq_mod, Nat.mod_eq_of_lt (by omega)]
  rw [e]; exact w _ (by omega) (by omega)
 have s1 : shrV .u64 1 32 = 0 := by rw [shrV_eq]; decide
 have s2 : shrV .u64 (n : Int) 32 = 0 := by
  rw [shrV_eq]
  show (n : Int).fdiv 4294967296 = 0
  rw [Int.fdiv_eq_ediv_of_nonneg _ (by omega)]; omega
 have s3 : shrV .u64 0 32 = 0 := by rw [shrV_eq]; decide
 have a0 : andV .u64 0 4294967295 = 0 := by rw [andV_eq]; decide
 unfold bits_Mul.f bits_Mul64.f
 simp only [s1, s2, a1, a2, Int.zero_mul, Int.one_mul, Int.mul_zero, Option.bind_some, w 0 (by omega) (by omega), w n (by omega) (by omega), s3, Int.add_zero, a0]
theorem rep_mulc {n : Nat} (hn : n < 4294967296) {w : World} (hg : Gl Tryz.prog w fun _ => False) : Calls Tryz.prog 130 #[.int .u64 1, .int .u64 (n : Int)] w fun e w' => e = .returned (.tuple #[.int .u64 0, .int .u64 (n : Int)]) ∧ Below w.heap.size w w' := by
 refine ((M130 0).calls w (fun _ => False) [.int .u64 1, .int .u64 (n : Int)] [.int .u64 1, .int .u64 (n : Int)] (show Int × Int from (1, (n : Int))) (show Int × Int from (0, (n : Int))) ?_ (fun _ h => h.elim) ?_ ?_ (hg.move (Frame0.refl _ _) fun _ h => by cases h) ?_).mono ?_
 ·exact ⟨_, _, _, rfl, rfl, rfl, rfl, _, _, _, rfl, rfl, rfl, rfl, rfl, rfl⟩
 ·exact ⟨_, _, rfl, rfl, _, rfl, rfl⟩
 ·exact List.nodup_nil
 ·exact rep_mul hn
 ·rintro e w' ⟨v, vs, rc, rfl, hg, hc, hf, hp, -, -⟩
  obtain ⟨v1, vs1, cs1, -, rfl, -, rfl, v2, vs2, cs2, -, rfl, -, rfl, rfl, rfl⟩ := hc
  obtain ⟨u1, us, e1, h1, u2, e2, h2⟩ := hp
  have e1 : [v1, v2] = u1 :: us := e1
  obtain ⟨rfl, rfl⟩ := List.cons.inj e1
  obtain ⟨rfl, -⟩ := List.cons.inj e2
  have h1 : [v1] = [Value.int .u64 0] := h1
  have h2 : [v2] = [Value.int .u64 (n : Int)] := h2
  cases h1; cases h2
  have hg : v = _ := hg
  subst hg
  exact ⟨rfl, hf.os, hf.tape, hf.output, hf.size, fun k hk => hf.block k hk fun h => by cases (show k ∈ ([] : List Nat) from h)⟩
def repSt (v : Int) (n c : Nat) : List Value := List.replicate c (.int .i64 v) ++ List.replicate (n - c) (.int .i64 0)
def repCs (v : Int) (d : Nat) : List Value := List.replicate d (.int .i64 v)
theorem repSt_len (v : Int) (n c : Nat) (h : c ≤ n) : (repSt v n c).length = n := by simp [repSt]; omega
theorem repSt_zero (v : Int) (n : Nat) : (madeCells #[Value.int .i64 0] n) = (repSt v n 0).toArray := by
 apply Array.ext'
 apply List.ext_getElem
 ·simp [repSt, madeCells]
 ·intro i h1 h2
  simp [repSt, madeCells, Nat.mod_one]
theorem repSt_splice (v : Int) (n c d : Nat) (h : c + d ≤ n) : splice (repSt v n c) c (repCs v d) = repSt v n (c + d) := by
 unfold splice repSt repCs
 rw [List.take_append_of_le_length (by simp), List.take_of_length_le (by simp), List.length_replicate, List.drop_append, List.drop_eq_nil_of_le (by simp), List.nil_append, List.drop_replicate, List.length_replicate, ← List.append_assoc, List.replicate_append_replicate]
 congr 2
 omega
theorem repCell (v : Int) (n c : Nat) (w : World) (g : Nat) (hg : w.heap[g]? = some (.cells (repSt v n c).toArray 2 (0, 0))) (d : Nat) (hd : d ≤ c) (ad : Addr) (ha : ad = ⟨g, 0, none⟩) : ∀ j u, (repCs v d)[j]? = some u → w.cell? (ad.add j) = some u := by
 intro j u hu
 subst ha
 have hj : j < d := by
  rcases Nat.lt_or_ge j d with h | h
  ·exact h
  ·simp [repCs, List.getElem?_eq_none (show (List.replicate d (Value.int IntKind.i64 v)).length ≤ j by simpa using h)] at hu
 simp [repCs, hj] at hu
 subst hu
 have e : (repSt v n c)[j]? = some (.int .i64 v) := by
  simp only [repSt]
  rw [List.getElem?_append_left (by simp; omega), List.getElem?_replicate, if_pos (by omega)]
 have ea : (⟨g, 0, none⟩ : Addr).add j = ⟨g, j, none⟩ := by unfold Addr.add; split <;> simp_all
 rw [ea]
 simp [World.cell?, hg, e]
set_option maxHeartbeats 2000000 in
set_option maxRecDepth 100000 in
theorem rep_calls (A0 : Option Addr) (ad0 : Addr) (hA : A0 = some ad0) (c0 : Nat) (v : Int) (n : Nat) (w : World) (hr0 : w.cell? ad0 = some (.int .i64 v)) (hn : n ≤ 1048576) (hgl : Gl Tryz.prog w fun _ => False) :
  Calls Tryz.prog 97 #[.slice A0 1 c0, .int .i64 n] w fun e w' => ∃ g, e = .returned (.slice (some ⟨g, 0, none⟩) n n) ∧ w.heap.size ≤ g ∧ w'.heap[g]? = some (.cells (repSt v n n).toArray 2 (0, 0)) ∧ Below w.heap.size w w' := by
 have HM := Aside0.mk (rep_mulc (n := n) (by omega) hgl)
 have hinfo : (Tryz.prog.info? 2).map (fun i => (i.zero, i.size, i.bytes)) = some (some (.int .i64 0), 1, 8) := by kernel_rfl
 have hu : Tryz.prog.underlying 24 = some (.slice 2) := by kernel_rfl
 have hmk : ∀ W : World, (Instr.makeSlice 24 (.int .i64 (n : Int)) (.int .i64 (n : Int))).run Tryz.prog W = .ok (.slice (some ⟨W.heap.size, 0, none⟩) n n) (W.alloc (.cells (madeCells #[.int .i64 0] n) 2)) :=
  run_make_row' 24 2 (.int .i64 0) 8 hu hinfo rfl .i64 .i64 n (by omega) (by omega)
 have c1 : decide (9223372036854775807 < (n : Int)) = false := decide_eq_false (by omega)
 have c2 : decide ((n : Int) < 0) = false := decide_eq_false (by omega)
 have HA0 : Aside0 (∀ W : World, Below w.heap.size w W → 0 < (repCs v (Nat.min 1 n)).length → ∃ ad, A0 = some ad ∧ ∀ j u, (repCs v (Nat.min 1 n))[j]? = some u → W.cell? (ad.add j) = some u) := ⟨fun W hW hp => by
  refine ⟨ad0, hA, fun j u hu => ?_⟩
  have hj : j < Nat.min 1 n := by
   rcases Nat.lt_or_ge j (Nat.min 1 n) with h | h
   ·exact h
   ·rw [repCs, List.getElem?_eq_none (by simpa using h)] at hu; cases hu
  have hm : Nat.min 1 n ≤ 1 := Nat.min_le_left 1 n
  have hj0 : j = 0 := by omega
  subst hj0
  rw [repCs, List.getElem?_replicate, if_pos hj] at hu
  obtain rfl := Option.some.inj hu
  have ea : ad0.add 0 = ad0 := by cases ad0; unfold Addr.add; split <;> simp_all
  rw [ea, hW.cell (World.block_lt_of_cell? w _ hr0)]
  exact hr0⟩
 have HL : Aside0 ((repCs v (Nat.min 1 n)).length = Nat.min 1 n) := ⟨by simp [repCs]⟩
 have HF : Aside0 (0 + (repCs v (Nat.min 1 n)).length ≤ (repSt v n 0).length) := ⟨by rw [repSt_len v n 0 (by omega), HL.out]; have : Nat.min 1 n ≤ n := Nat.min_le_right 1 n; omega⟩
 have HO : Aside0 (∀ d, ∀ u ∈ repCs v d, u.oneCell' = true) := ⟨fun d u hu => by rw [(List.mem_replicate.mp hu).2]; rfl⟩
 have hsz : (Tryz.prog.info? 2).map (·.size) = some 1 := by kernel_rfl
 have HU := Aside0.mk hu
 clear hr0 hA hinfo hu
 go_enter Tryz.func97, Tryz.ntmps97
 go_wp2_with fail
 refine HM.out.mono ?_
 rintro e wb ⟨rfl, hwb⟩
 have HB0 := Aside0.mk hwb
 clear hwb
 have HG : Aside0 ((wb.alloc (.cells (madeCells #[Value.int .i64 0] n) 2)).heap[wb.heap.size]? = some (.cells (repSt v n 0).toArray 2 (0, 0))) := ⟨by rw [repSt_zero v n]; exact heap_alloc_new wb _⟩
 go_wp2_with ((refine wpList_copy_splice rfl (.tmp 31) (.tmp 32) 24 24 rfl 2 HU.out hsz _ _ n n 1 c0 rfl rfl wb.heap.size 0 (repSt v n 0) 2 HG.out (repCs v (Nat.min 1 n)) HL.out (fun hp => ⟨rfl, HA0.out _ (HB0.out.alloc HB0.out.size _) hp⟩) HF.out (HO.out _) w.heap.size w (HB0.out.alloc HB0.out.size _) HB0.out.size ?_; intro w1 hg1 hb1))
 replace hg1 : Hid (w1.heap[wb.heap.size]? = some (.cells (repSt v n (Nat.min 1 n)).toArray 2 (0, 0))) := by
  have h := hg1
  rw [repSt_splice v n 0 (Nat.min 1 n) (by have : Nat.min 1 n ≤ n := Nat.min_le_right 1 n; omega), Nat.zero_add] at h
  exact h
 have hmin : Nat.min 1 n ≤ n := Nat.min_le_right 1 n
 have hmin1 : n = 0 ∨ 1 ≤ Nat.min 1 n := by
  rcases Nat.eq_zero_or_pos n with h | h
  ·exact .inl h
  ·exact .inr (Nat.le_min.mpr ⟨Nat.le_refl _, h⟩)
 go_loopg [8] n (fun gg s8 wr => ∃ c : Nat, c ≤ n ∧ Aside0 (n = 0 ∨ 1 ≤ c) ∧ n - c ≤ gg ∧ s8 = .int .i64 c ∧ Aside0 (wr.heap[wb.heap.size]? = some (.cells (repSt v n c).toArray 2 (0, 0))) ∧ Aside0 (Below w.heap.size w wr))
 case atStart => exact ⟨Nat.min 1 n, hmin, ⟨hmin1⟩, by omega, by rw [HL.out], ⟨hg1⟩, ⟨hb1⟩⟩
 case round =>
  clear HG HA0 hmk
  obtain ⟨c, hc, H1, hgg, rfl, HG, HB⟩ := hrel
  by_cases hlt : c < n
  ·have hltz : (c : Int) < (n : Int) := by omega
   have hne : ¬ n = c := by omega
   have HL2 : Aside0 ((repCs v (Nat.min c (n - c))).length = Nat.min c (n - c)) := ⟨by simp [repCs]⟩
   have hm1 : Nat.min c (n - c) ≤ c := Nat.min_le_left _ _
   have hm2 : Nat.min c (n - c) ≤ n - c := Nat.min_le_right _ _
   have HF2 : Aside0 (c + (repCs v (Nat.min c (n - c))).length ≤ (repSt v n c).length) := ⟨by rw [repSt_len v n c hc, HL2.out]; omega⟩
   have HC2 : Aside0 (∀ W : World, W.heap = wr.heap → ∀ j u, (repCs v (Nat.min c (n - c)))[j]? = some u → W.cell? ((⟨wb.heap.size, 0, none⟩ : Addr).add j) = some u) := ⟨fun W hW => repCell v n c W wb.heap.size (by rw [hW]; exact HG.out) _ hm1 _ rfl⟩
   go_wp2
   go_region_law ((refine step_copy_splice rfl (.tmp 41) (.tmp 44) 24 24 rfl 2 HU.out hsz (some ⟨wb.heap.size, c, none⟩) (some ⟨wb.heap.size, 0, none⟩) (n - c) (n - c) c n (by simp [Act.eval, Act.put]) (by simp [Act.eval, Act.put]) wb.heap.size c (repSt v n c) 2 (by exact HG.out) (repCs v (Nat.min c (n - c))) HL2.out (fun _ => ⟨rfl, _, rfl, HC2.out _ rfl⟩) HF2.out (HO.out _) w.heap.size w (by first | exact HB.out | exact HB.out.drew) HB0.out.size ?_; intro w4 hg4 hb4))
   have hg5 : w4.heap[wb.heap.size]? = some (.cells (repSt v n (c + Nat.min c (n - c))).toArray 2 (0, 0)) := by
    have h := hg4
    rw [repSt_splice v n c (Nat.min c (n - c)) (by omega)] at h
    exact h
   have HG5 := Aside0.mk hg5
   have HB5 := Aside0.mk hb4
   clear hg5 hg4 hb4
   have hpos : 1 ≤ Nat.min c (n - c) := Nat.le_min.mpr ⟨by have := H1.out; omega, by omega⟩
   have HW := Aside0.mk (show IntKind.i64.wrap ((c : Int) + ((repCs v (Nat.min c (n - c))).length : Int)) = ((c + Nat.min c (n - c) : Nat) : Int) by rw [HL2.out, IntWalk.i64_in _ (by omega)]; omega)
   go_wp2
   go_roundg (n - (c + Nat.min c (n - c)))
   case measure => omega
   case rel => exact ⟨c + Nat.min c (n - c), by omega, ⟨.inr (by have := H1.out; omega)⟩, Nat.le_refl _, by rw [← HW.out], HG5, HB5⟩
  ·have c3 : decide ((c : Int) < (n : Int)) = false := decide_eq_false (by omega)
   have c4 : decide (c < n) = false := decide_eq_false hlt
   have hcn : c = n := by omega
   have HN : Aside0 (repSt v n c = repSt v n n) := ⟨by rw [hcn]⟩
   clear hcn
   go_wp2
   go_ret
   exact ⟨wb.heap.size, rfl, HB0.out.size, by rw [← HN.out]; exact HG.out, HB.out⟩
noncomputable def slices_Repeat_int64_int64.f (l0 : List Int) (a1 : Int) : Option (List Int) :=
 match l0 with
 | [v] => if 0 ≤ a1 ∧ a1 ≤ 1048576 then some (List.replicate a1.toNat v) else none
 | _ => none
noncomputable def S97 (k : Nat) : Does := ⟨[(false, [.dat (.list (.int .i64))]), (false, [.dat (.int .i64)])], [(false, [.own 2 (.int .i64)])], fun x => slices_Repeat_int64_int64.f x.1 x.2⟩
theorem rep_elems (w : World) (N : Nat → Prop) (v : Int) : ∀ n, Elems w N (.int .i64) (List.replicate n v) (List.replicate n (Value.int .i64 v))
 | 0 => rfl
 | n + 1 => ⟨[Value.int .i64 v], List.replicate n (Value.int .i64 v), rfl, rfl, rep_elems w N v n⟩
theorem rep_inv {l0 : List Int} {a1 : Int} {y : List Int} (h : slices_Repeat_int64_int64.f l0 a1 = some y) : ∃ (v : Int) (n : Nat), l0 = [v] ∧ a1 = (n : Int) ∧ n ≤ 1048576 ∧ y = List.replicate n v := by
 unfold slices_Repeat_int64_int64.f at h
 split at h
 ·split at h
  ·rename_i hb
   cases h
   obtain ⟨n, rfl⟩ := Int.eq_ofNat_of_zero_le hb.1
   exact ⟨_, n, rfl, rfl, by omega, rfl⟩
  ·cases h
 ·cases h
theorem M97 (k : Nat) : Meets Tryz.prog 97 (S97 k) := by
 refine ⟨fun args w => by
  have hf := Tryz.func97
  have h1 : (Tryz.f97.name == "runtime.NumGoroutine") = false := by kernel_rfl
  have h1 : Tryz.f97.name ≠ "runtime.NumGoroutine" := by simpa using h1
  obtain ⟨c, hc⟩ := Option.isSome_iff_exists.1 (show Tryz.f97.body.isSome = true by kernel_rfl)
  simp [callFunc, hf, h1, hc, mark], ?_⟩
 intro w X args cells x y hc hX hp hn hgl hy
 obtain ⟨v1, vs1, cs1, -, rfl, -, rfl, v2, vs2, cs2, -, rfl, -, rfl, rfl, rfl⟩ := hc
 obtain ⟨u1, us, e1, h1, u2, e2, h2⟩ := hp
 obtain ⟨rfl, rfl⟩ := List.cons.inj e1
 obtain ⟨rfl, -⟩ := List.cons.inj e2
 obtain ⟨l0, a1⟩ := x
 obtain ⟨v, n, e5, e6, hb, rfl⟩ := rep_inv hy
 have e5 : l0 = [v] := e5
 have e6 : a1 = (n : Int) := e6
 subst e5; subst e6
 obtain ⟨A, cap, e3, hcap, -, hel⟩ := h1
 have e4 : [v2] = [Value.int .i64 (n : Int)] := h2
 cases e3; cases e4
 obtain ⟨ad, hA, c, hlc, hat, hrc⟩ := hel 0 (Nat.zero_lt_one)
 have hrc : c = [Value.int .i64 v] := hrc
 subst hrc
 have hcell := (hat 0 (by simp)).2
 have ea : (ad.add (0 * (Ty.int IntKind.i64).size)).add 0 = ad := by
  rw [Nat.zero_mul]
  have e : ad.add 0 = ad := by cases ad; unfold Addr.add; split <;> simp_all
  rw [e, e]
 rw [ea] at hcell
 refine (rep_calls A ad hA cap v n w hcell hb (hgl.move (Frame0.refl _ _) fun _ h => h.elim)).mono ?_
 rintro e w' ⟨g, rfl, hg, hrow, hB⟩
 refine ⟨_, [.slice (some ⟨g, 0, none⟩) n n], [.slice (some ⟨g, 0, none⟩) n n], rfl, rfl, ⟨_, _, _, rfl, rfl, rfl, rfl, rfl, rfl⟩, ⟨hB.os, hB.tape, hB.output, hB.size, fun r hr _ => hB.block r hr⟩, ?_, ?_, ?_⟩
 ·refine ⟨_, rfl, List.replicate n (Value.int .i64 v), ?_, ?_⟩
  ·show w'.ownsRow 0 2 1 _ (List.replicate n v).length _
   rw [List.length_replicate]
   refine ⟨by simp, .inr ⟨g, n, _, rfl, Nat.zero_le _, hrow, Nat.le_refl _, Nat.le_trans hb (by decide), ?_, ?_⟩⟩
   ·simp [repSt]
   ·simp [repSt]
  ·exact rep_elems _ _ v n
 ·show ([g] : List Nat).Nodup
  simp
 ·intro r hr
  have hr : r ∈ [g] := hr
  rw [List.mem_singleton.1 hr]; exact hg
def impl_PutSets_1.f (a0 : Int) (a1 : Int) (a2 : Int) : Option (Bool) := if a1 < 0 then none else ((impl_within.f a0 0 (wrap64 ((shlV .i64 1 a1) - 1))).bind fun t1 => if t1 = true then ((impl_members.f a0).bind fun t2 => some (decide (t2 ≤ a2))) else (some false))
def S95 (k : Nat) : Does := ⟨[sI, (false, [.dat (.ptr (.int .i64))]), (false, [.dat (.ptr (.int .i64))])], [sB], U3 impl_PutSets_1.f⟩
def E95 (k : Nat) : En := ⟨tb, orcOf [(54, S54 k), (96, S96 k)], lvOf [], k, 0, lvOf [], []⟩
theorem M95 (k) : Meets Tryz.prog 95 (S95 k) := mo Tryz.func95 (oc (M54 k) (oc (M96 k) on)) fun x => (by kernel_rfl : funK (E95 k) (S95 k) Tryz.f95 x = (S95 k).fn x)
def impl_areAll_int64_1_impl_PutSets_1.f (a0 : Int) (a1 : Int × Int) : Option (Bool) := (impl_PutSets_1.f a0 a1.1 a1.2).bind fun t1 => some (!decide (t1 = true))
def S128_c95 (k : Nat) : Does := ⟨[sI, (false, [.dat (.ptr (.clo 95 (.pair (.ptr (.int .i64)) (.ptr (.int .i64)))))])], [sB], U2 impl_areAll_int64_1_impl_PutSets_1.f⟩
def E128_c95 (k : Nat) : En := ⟨tb, orcOf [(95, S95 k)], lvOf [], k, 0, lvOf [], []⟩
theorem M128_c95 (k) : Meets Tryz.prog 128 (S128_c95 k) := mo Tryz.func128 (oc (M95 k) on) fun x => (by kernel_rfl : funK (E128_c95 k) (S128_c95 k) Tryz.f128 x = (S128_c95 k).fn x)
abbrev O144_c128c95 := Option (Int)
abbrev T144_c128c95_0 (R : Type) := (List Int) → (Int × Int) → Int → Int → R
def slices_IndexFunc_int64_int64_impl_areAll_int64_1_impl_PutSets_1.s0 (k : Nat) (r0 : T144_c128c95_0 O144_c128c95) : T144_c128c95_0 O144_c128c95 := fun x0 x1 x7 x8 => if x8 < x7 then (if 0 ≤ x8 then (if x8 < x0.length then ((impl_areAll_int64_1_impl_PutSets_1.f (rd x0 x8) x1).bind fun t1 => if t1 = true then (some x8) else (r0 x0 x1 x7 (wrap64 (x8 + 1)))) else none) else none) else (some (-1))
def slices_IndexFunc_int64_int64_impl_areAll_int64_1_impl_PutSets_1.l0 (k : Nat) : Nat → T144_c128c95_0 O144_c128c95
 | 0 => Z4
 | n + 1 => slices_IndexFunc_int64_int64_impl_areAll_int64_1_impl_PutSets_1.s0 k (slices_IndexFunc_int64_int64_impl_areAll_int64_1_impl_PutSets_1.l0 k n)
def slices_IndexFunc_int64_int64_impl_areAll_int64_1_impl_PutSets_1.g (k : Nat) (r0 : T144_c128c95_0 O144_c128c95) (l0 : List Int) (a1 : Int × Int) : Option (Int) := r0 l0 a1 (l0.length : Int) 0
def slices_IndexFunc_int64_int64_impl_areAll_int64_1_impl_PutSets_1.f (k : Nat) (l0 : List Int) (a1 : Int × Int) : Option (Int) := slices_IndexFunc_int64_int64_impl_areAll_int64_1_impl_PutSets_1.g k (slices_IndexFunc_int64_int64_impl_areAll_int64_1_impl_PutSets_1.l0 k k) l0 a1
def S144_c128c95 (k : Nat) : Does := ⟨[sL, (false, [.dat (.clo 128 (.ptr (.clo 95 (.pair (.ptr (.int .i64)) (.ptr (.int .i64))))))])], [sI], U2 (slices_IndexFunc_int64_int64_impl_areAll_int64_1_impl_PutSets_1.f k)⟩
def E144_c128c95 (k : Nat) : En := ⟨tb, orcOf [(128, S128_c95 k)], lvOf [(0, lz [0, 1, 7, 8])], k, 0, lvOf [], []⟩
def n144_c128c95_0 : T144_c128c95_0 St := fun x0 x1 x7 x8 => ⟨19, lookA [(0, aL x0), (1, .dat (.clo 128 (.ptr (.clo 95 (.pair (.ptr (.int .i64)) (.ptr (.int .i64)))))) x1), (7, aI x7), (8, aI x8)], Go.V.look []⟩
def p144_c128c95_0 : List Bool := [t', f', t', f']
def L144_c128c95 (k : Nat) (p : List Bool) (r : List (St → O144_c128c95)) : Nat → St → O144_c128c95 := loopF (E144_c128c95 k) (S144_c128c95 k) Tryz.f144 p r
theorem r144_c128c95_0 (k) (rec : St → O144_c128c95) (v) : roundF (E144_c128c95 k) (S144_c128c95 k) Tryz.f144 p144_c128c95_0 [] rec (U4 n144_c128c95_0 v) = U4 (slices_IndexFunc_int64_int64_impl_areAll_int64_1_impl_PutSets_1.s0 k (W4 rec n144_c128c95_0)) v := by kernel_rfl
theorem q144_c128c95_0 (k) (n) : W4 (L144_c128c95 k p144_c128c95_0 [] n) n144_c128c95_0 = slices_IndexFunc_int64_int64_impl_areAll_int64_1_impl_PutSets_1.l0 k n :=
 u4 (lq (E144_c128c95 k) (S144_c128c95 k) (fun rec => U4 (slices_IndexFunc_int64_int64_impl_areAll_int64_1_impl_PutSets_1.s0 k (C4 rec))) (fun n => U4 (slices_IndexFunc_int64_int64_impl_areAll_int64_1_impl_PutSets_1.l0 k n)) (r144_c128c95_0 k) n)
theorem M144_c128c95 (k) : Meets Tryz.prog 144 (S144_c128c95 k) := mo Tryz.func144 (oc (M128_c95 k) on) fun x => (show funK (E144_c128c95 k) (S144_c128c95 k) Tryz.f144 x = slices_IndexFunc_int64_int64_impl_areAll_int64_1_impl_PutSets_1.g k (W4 (L144_c128c95 k p144_c128c95_0 [] k) n144_c128c95_0) x.1 x.2 by kernel_rfl).trans (by rw [q144_c128c95_0]; rfl)
def slices_ContainsFunc_int64_int64_impl_areAll_int64_1_impl_PutSets_1.f (k : Nat) (l0 : List Int) (a1 : Int × Int) : Option (Bool) := (slices_IndexFunc_int64_int64_impl_areAll_int64_1_impl_PutSets_1.f k l0 a1).bind fun t1 => some (decide (0 ≤ t1))
def S127_c128c95 (k : Nat) : Does := ⟨[sL, (false, [.dat (.clo 128 (.ptr (.clo 95 (.pair (.ptr (.int .i64)) (.ptr (.int .i64))))))])], [sB], U2 (slices_ContainsFunc_int64_int64_impl_areAll_int64_1_impl_PutSets_1.f k)⟩
def E127_c128c95 (k : Nat) : En := ⟨tb, orcOf [(144, S144_c128c95 k)], lvOf [], k, 0, lvOf [], []⟩
theorem M127_c128c95 (k) : Meets Tryz.prog 127 (S127_c128c95 k) := mo Tryz.func127 (oc (M144_c128c95 k) on) fun x => (by kernel_rfl : funK (E127_c128c95 k) (S127_c128c95 k) Tryz.f127 x = (S127_c128c95 k).fn x)
def impl_areAll_int64_impl_PutSets_1.f (k : Nat) (l0 : List Int) (a1 : Int × Int) : Option (Bool) := (slices_ContainsFunc_int64_int64_impl_areAll_int64_1_impl_PutSets_1.f k l0 a1).bind fun t1 => some (!decide (t1 = true))
def S94_c95 (k : Nat) : Does := ⟨[sL, (false, [.dat (.clo 95 (.pair (.ptr (.int .i64)) (.ptr (.int .i64))))])], [sB], U2 (impl_areAll_int64_impl_PutSets_1.f k)⟩
def E94_c95 (k : Nat) : En := ⟨tb, orcOf [(127, S127_c128c95 k)], lvOf [], k, 0, lvOf [], []⟩
theorem M94_c95 (k) : Meets Tryz.prog 94 (S94_c95 k) := mo Tryz.func94 (oc (M127_c128c95 k) on) fun x => (by kernel_rfl : funK (E94_c95 k) (S94_c95 k) Tryz.f94 x = (S94_c95 k).fn x)
abbrev O38 := Option (Bool)
abbrev T38_0 (R : Type) := (List (List Int)) → (List (List Int)) → Int → R
def laws_rows9.s0 (k : Nat) (r0 : T38_0 O38) : T38_0 O38 := fun x0 x1 x5 => if x5 < x0.length then (if 0 ≤ x5 then (if x5 < x0.length then (if 0 ≤ x5 then (if x5 < x1.length then ((laws_likeInts.f k (rdOf ([] : List Int) x0 x5) (rdOf ([] : List Int) x1 x5)).bind fun t1 => if t1 = true then (r0 x0 x1 (wrap64 (x5 + 1))) else (some false)) else none) else none) else none) else none) else (some true)
def laws_rows9.l0 (k : Nat) : Nat → T38_0 O38
 | 0 => Z3
 | n + 1 => laws_rows9.s0 k (laws_rows9.l0 k n)
def laws_rows9.g (k : Nat) (r0 : T38_0 O38) (l0 : List (List Int)) (l1 : List (List Int)) : Option (Bool) := if (l0.length : Int) = (l1.length : Int) then (r0 l0 l1 0) else (some false)
def laws_rows9.f (k : Nat) (l0 : List (List Int)) (l1 : List (List Int)) : Option (Bool) := laws_rows9.g k (laws_rows9.l0 k k) l0 l1
def S38 (k : Nat) : Does := ⟨[sM, sM], [sB], U2 (laws_rows9.f k)⟩
def E38 (k : Nat) : En := ⟨tb, orcOf [(9, S9 k)], lvOf [(0, lz [0, 1, 5])], k, 0, lvOf [], []⟩
def n38_0 : T38_0 St := fun x0 x1 x5 => ⟨27, lookA [(0, aM x0), (1, aM x1), (5, aI x5)], Go.V.look []⟩
def p38_0 : List Bool := [t', t', f', t', f']
def L38 (k : Nat) (p : List Bool) (r : List (St → O38)) : Nat → St → O38 := loopF (E38 k) (S38 k) Tryz.f38 p r
theorem r38_0 (k) (rec : St → O38) (v) : roundF (E38 k) (S38 k) Tryz.f38 p38_0 [] rec (U3 n38_0 v) = U3 (laws_rows9.s0 k (W3 rec n38_0)) v := by kernel_rfl
theorem q38_0 (k) (n) : W3 (L38 k p38_0 [] n) n38_0 = laws_rows9.l0 k n :=
 u3 (lq (E38 k) (S38 k) (fun rec => U3 (laws_rows9.s0 k (C3 rec))) (fun n => U3 (laws_rows9.l0 k n)) (r38_0 k) n)
theorem M38 (k) : Meets Tryz.prog 38 (S38 k) := mo Tryz.func38 (oc (M9 k) on) fun x => (show funK (E38 k) (S38 k) Tryz.f38 x = laws_rows9.g k (W3 (L38 k p38_0 [] k) n38_0) x.1 x.2 by kernel_rfl).trans (by rw [q38_0]; rfl)
def impl_length_int64_131.f (l0 : List (List Int)) : Option (Int) := some (l0.length : Int)
def S131 (k : Nat) : Does := ⟨[sM], [sI], impl_length_int64_131.f⟩
def E131 (k : Nat) : En := ⟨tb, orcOf [], lvOf [], k, 0, lvOf [], []⟩
theorem M131 (k) : Meets Tryz.prog 131 (S131 k) := mo Tryz.func131 on fun x => (by kernel_rfl : funK (E131 k) (S131 k) Tryz.f131 x = (S131 k).fn x)
def impl_areTurns_1.f (a0 : Int) (a1 : Int) : Option (Bool) := (impl_within.f a0 (-1) (wrap64 (a1 - 1))).bind fun t1 => some t1
def S117 (k : Nat) : Does := ⟨[sI, (false, [.dat (.ptr (.int .i64))])], [sB], U2 impl_areTurns_1.f⟩
def E117 (k : Nat) : En := ⟨tb, orcOf [(54, S54 k)], lvOf [], k, 0, lvOf [], []⟩
theorem M117 (k) : Meets Tryz.prog 117 (S117 k) := mo Tryz.func117 (oc (M54 k) on) fun x => (by kernel_rfl : funK (E117 k) (S117 k) Tryz.f117 x = (S117 k).fn x)
def impl_areAll_int64_1_impl_areTurns_1.f (a0 : Int) (a1 : Int) : Option (Bool) := (impl_areTurns_1.f a0 a1).bind fun t1 => some (!decide (t1 = true))
def S128_c117 (k : Nat) : Does := ⟨[sI, (false, [.dat (.ptr (.clo 117 (.ptr (.int .i64))))])], [sB], U2 impl_areAll_int64_1_impl_areTurns_1.f⟩
def E128_c117 (k : Nat) : En := ⟨tb, orcOf [(117, S117 k)], lvOf [], k, 0, lvOf [], []⟩
theorem M128_c117 (k) : Meets Tryz.prog 128 (S128_c117 k) := mo Tryz.func128 (oc (M117 k) on) fun x => (by kernel_rfl : funK (E128_c117 k) (S128_c117 k) Tryz.f128 x = (S128_c117 k).fn x)
abbrev O144_c128c117 := Option (Int)
abbrev T144_c128c117_0 (R : Type) := (List Int) → Int → Int → Int → R
def slices_IndexFunc_int64_int64_impl_areAll_int64_1_impl_areTurns_1.s0 (k : Nat) (r0 : T144_c128c117_0 O144_c128c117) : T144_c128c117_0 O144_c128c117 := fun x0 x1 x7 x8 => if x8 < x7 then (if 0 ≤ x8 then (if x8 < x0.length then ((impl_areAll_int64_1_impl_areTurns_1.f (rd x0 x8) x1).bind fun t1 => if t1 = true then (some x8) else (r0 x0 x1 x7 (wrap64 (x8 + 1)))) else none) else none) else (some (-1))
def slices_IndexFunc_int64_int64_impl_areAll_int64_1_impl_areTurns_1.l0 (k : Nat) : Nat → T144_c128c117_0 O144_c128c117
 | 0 => Z4
 | n + 1 => slices_IndexFunc_int64_int64_impl_areAll_int64_1_impl_areTurns_1.s0 k (slices_IndexFunc_int64_int64_impl_areAll_int64_1_impl_areTurns_1.l0 k n)
def slices_IndexFunc_int64_int64_impl_areAll_int64_1_impl_areTurns_1.g (k : Nat) (r0 : T144_c128c117_0 O144_c128c117) (l0 : List Int) (a1 : Int) : Option (Int) := r0 l0 a1 (l0.length : Int) 0
def slices_IndexFunc_int64_int64_impl_areAll_int64_1_impl_areTurns_1.f (k : Nat) (l0 : List Int) (a1 : Int) : Option (Int) := slices_IndexFunc_int64_int64_impl_areAll_int64_1_impl_areTurns_1.g k (slices_IndexFunc_int64_int64_impl_areAll_int64_1_impl_areTurns_1.l0 k k) l0 a1
def S144_c128c117 (k : Nat) : Does := ⟨[sL, (false, [.dat (.clo 128 (.ptr (.clo 117 (.ptr (.int .i64)))))])], [sI], U2 (slices_IndexFunc_int64_int64_impl_areAll_int64_1_impl_areTurns_1.f k)⟩
def E144_c128c117 (k : Nat) : En := ⟨tb, orcOf [(128, S128_c117 k)], lvOf [(0, lz [0, 1, 7, 8])], k, 0, lvOf [], []⟩
def n144_c128c117_0 : T144_c128c117_0 St := fun x0 x1 x7 x8 => ⟨19, lookA [(0, aL x0), (1, .dat (.clo 128 (.ptr (.clo 117 (.ptr (.int .i64))))) x1), (7, aI x7), (8, aI x8)], Go.V.look []⟩
def p144_c128c117_0 : List Bool := [t', f', t', f']
def L144_c128c117 (k : Nat) (p : List Bool) (r : List (St → O144_c128c117)) : Nat → St → O144_c128c117 := loopF (E144_c128c117 k) (S144_c128c117 k) Tryz.f144 p r
theorem r144_c128c117_0 (k) (rec : St → O144_c128c117) (v) : roundF (E144_c128c117 k) (S144_c128c117 k) Tryz.f144 p144_c128c117_0 [] rec (U4 n144_c128c117_0 v) = U4 (slices_IndexFunc_int64_int64_impl_areAll_int64_1_impl_areTurns_1.s0 k (W4 rec n144_c128c117_0)) v := by kernel_rfl
theorem q144_c128c117_0 (k) (n) : W4 (L144_c128c117 k p144_c128c117_0 [] n) n144_c128c117_0 = slices_IndexFunc_int64_int64_impl_areAll_int64_1_impl_areTurns_1.l0 k n :=
 u4 (lq (E144_c128c117 k) (S144_c128c117 k) (fun rec => U4 (slices_IndexFunc_int64_int64_impl_areAll_int64_1_impl_areTurns_1.s0 k (C4 rec))) (fun n => U4 (slices_IndexFunc_int64_int64_impl_areAll_int64_1_impl_areTurns_1.l0 k n)) (r144_c128c117_0 k) n)
theorem M144_c128c117 (k) : Meets Tryz.prog 144 (S144_c128c117 k) := mo Tryz.func144 (oc (M128_c117 k) on) fun x => (show funK (E144_c128c117 k) (S144_c128c117 k) Tryz.f144 x = slices_IndexFunc_int64_int64_impl_areAll_int64_1_impl_areTurns_1.g k (W4 (L144_c128c117 k p144_c128c117_0 [] k) n144_c128c117_0) x.1 x.2 by kernel_rfl).trans (by rw [q144_c128c117_0]; rfl)
def slices_ContainsFunc_int64_int64_impl_areAll_int64_1_impl_areTurns_1.f (k : Nat) (l0 : List Int) (a1 : Int) : Option (Bool) := (slices_IndexFunc_int64_int64_impl_areAll_int64_1_impl_areTurns_1.f k l0 a1).bind fun t1 => some (decide (0 ≤ t1))
def S127_c128c117 (k : Nat) : Does := ⟨[sL, (false, [.dat (.clo 128 (.ptr (.clo 117 (.ptr (.int .i64)))))])], [sB], U2 (slices_ContainsFunc_int64_int64_impl_areAll_int64_1_impl_areTurns_1.f k)⟩
def E127_c128c117 (k : Nat) : En := ⟨tb, orcOf [(144, S144_c128c117 k)], lvOf [], k, 0, lvOf [], []⟩
theorem M127_c128c117 (k) : Meets Tryz.prog 127 (S127_c128c117 k) := mo Tryz.func127 (oc (M144_c128c117 k) on) fun x => (by kernel_rfl : funK (E127_c128c117 k) (S127_c128c117 k) Tryz.f127 x = (S127_c128c117 k).fn x)
def impl_areAll_int64_impl_areTurns_1.f (k : Nat) (l0 : List Int) (a1 : Int) : Option (Bool) := (slices_ContainsFunc_int64_int64_impl_areAll_int64_1_impl_areTurns_1.f k l0 a1).bind fun t1 => some (!decide (t1 = true))
def S94_c117 (k : Nat) : Does := ⟨[sL, (false, [.dat (.clo 117 (.ptr (.int .i64)))])], [sB], U2 (impl_areAll_int64_impl_areTurns_1.f k)⟩
def E94_c117 (k : Nat) : En := ⟨tb, orcOf [(127, S127_c128c117 k)], lvOf [], k, 0, lvOf [], []⟩
theorem M94_c117 (k) : Meets Tryz.prog 94 (S94_c117 k) := mo Tryz.func94 (oc (M127_c128c117 k) on) fun x => (by kernel_rfl : funK (E94_c117 k) (S94_c117 k) Tryz.f94 x = (S94_c117 k).fn x)
def impl_areTurns.f (k : Nat) (l0 : List Int) (a1 : Int) : Option (Bool) := (impl_length_int64.f l0).bind fun t1 => (impl_within.f t1 1 120).bind fun t2 => if t2 = true then ((impl_areAll_int64_impl_areTurns_1.f k l0 a1).bind fun t3 => some t3) else (some false)
def S75 (k : Nat) : Does := ⟨[sL, sI], [sB], U2 (impl_areTurns.f k)⟩
def E75 (k : Nat) : En := ⟨tb, orcOf [(93, S93 k), (54, S54 k), (94, S94_c117 k)], lvOf [], k, 0, lvOf [], []⟩
theorem M75 (k) : Meets Tryz.prog 75 (S75 k) := mo Tryz.func75 (oc (M93 k) (oc (M54 k) (oc (M94_c117 k) on))) fun x => (by kernel_rfl : funK (E75 k) (S75 k) Tryz.f75 x = (S75 k).fn x)
def impl_areChannels_1.f (k : Nat) (l0 : List Int) (a1 : Int) (a2 : List (List Int)) : Option (Bool) := (impl_areTurns.f k l0 a1).bind fun t1 => if t1 = true then (if 0 < (a2.length : Int) then (some (decide ((l0.length : Int) = ((rdOf ([] : List Int) a2 0).length : Int)))) else none) else (some false)
def S133 (k : Nat) : Does := ⟨[sL, (false, [.dat (.ptr (.int .i64))]), (false, [.dat (.ptr (.list (.list (.int .i64))))])], [sB], U3 (impl_areChannels_1.f k)⟩
def E133 (k : Nat) : En := ⟨tb, orcOf [(75, S75 k)], lvOf [], k, 0, lvOf [], []⟩
theorem M133 (k) : Meets Tryz.prog 133 (S133 k) := mo Tryz.func133 (oc (M75 k) on) fun x => (by kernel_rfl : funK (E133 k) (S133 k) Tryz.f133 x = (S133 k).fn x)
def impl_areAll_int64_1_impl_areChannels_1.f (k : Nat) (l0 : List Int) (a1 : Int × (List (List Int))) : Option (Bool) := (impl_areChannels_1.f k l0 a1.1 a1.2).bind fun t1 => some (!decide (t1 = true))
def S148_c133 (k : Nat) : Does := ⟨[sL, (false, [.dat (.ptr (.clo 133 (.pair (.ptr (.int .i64)) (.ptr (.list (.list (.int .i64)))))))])], [sB], U2 (impl_areAll_int64_1_impl_areChannels_1.f k)⟩
def E148_c133 (k : Nat) : En := ⟨tb, orcOf [(133, S133 k)], lvOf [], k, 0, lvOf [], []⟩
theorem M148_c133 (k) : Meets Tryz.prog 148 (S148_c133 k) := mo Tryz.func148 (oc (M133 k) on) fun x => (by kernel_rfl : funK (E148_c133 k) (S148_c133 k) Tryz.f148 x = (S148_c133 k).fn x)
abbrev O155_c148c133 := Option (Int)
abbrev T155_c148c133_0 (R : Type) := (List (List Int)) → (Int × (List (List Int))) → Int → Int → R
def slices_IndexFunc_int64_int64_impl_areAll_int64_1_impl_areChannels_1.s0 (k : Nat) (r0 : T155_c148c133_0 O155_c148c133) : T155_c148c133_0 O155_c148c133 := fun x0 x1 x7 x8 => if x8 < x7 then (if 0 ≤ x8 then (if x8 < x0.length then ((impl_areAll_int64_1_impl_areChannels_1.f k (rdOf ([] : List Int) x0 x8) x1).bind fun t1 => if t1 = true then (some x8) else (r0 x0 x1 x7 (wrap64 (x8 + 1)))) else none) else none) else (some (-1))
def slices_IndexFunc_int64_int64_impl_areAll_int64_1_impl_areChannels_1.l0 (k : Nat) : Nat → T155_c148c133_0 O155_c148c133
 | 0 => Z4
 | n + 1 => slices_IndexFunc_int64_int64_impl_areAll_int64_1_impl_areChannels_1.s0 k (slices_IndexFunc_int64_int64_impl_areAll_int64_1_impl_areChannels_1.l0 k n)
def slices_IndexFunc_int64_int64_impl_areAll_int64_1_impl_areChannels_1.g (k : Nat) (r0 : T155_c148c133_0 O155_c148c133) (l0 : List (List Int)) (a1 : Int × (List (List Int))) : Option (Int) := r0 l0 a1 (l0.length : Int) 0
def slices_IndexFunc_int64_int64_impl_areAll_int64_1_impl_areChannels_1.f (k : Nat) (l0 : List (List Int)) (a1 : Int × (List (List Int))) : Option (Int) := slices_IndexFunc_int64_int64_impl_areAll_int64_1_impl_areChannels_1.g k (slices_IndexFunc_int64_int64_impl_areAll_int64_1_impl_areChannels_1.l0 k k) l0 a1
def S155_c148c133 (k : Nat) : Does := ⟨[sM, (false, [.dat (.clo 148 (.ptr (.clo 133 (.pair (.ptr (.int .i64)) (.ptr (.list (.list (.int .i64))))))))])], [sI], U2 (slices_IndexFunc_int64_int64_impl_areAll_int64_1_impl_areChannels_1.f k)⟩
def E155_c148c133 (k : Nat) : En := ⟨tb, orcOf [(148, S148_c133 k)], lvOf [(0, lz [0, 1, 7, 8])], k, 0, lvOf [], []⟩
def n155_c148c133_0 : T155_c148c133_0 St := fun x0 x1 x7 x8 => ⟨19, lookA [(0, aM x0), (1, .dat (.clo 148 (.ptr (.clo 133 (.pair (.ptr (.int .i64)) (.ptr (.list (.list (.int .i64)))))))) x1), (7, aI x7), (8, aI x8)], Go.V.look []⟩
def p155_c148c133_0 : List Bool := [t', f', t', f']
def L155_c148c133 (k : Nat) (p : List Bool) (r : List (St → O155_c148c133)) : Nat → St → O155_c148c133 := loopF (E155_c148c133 k) (S155_c148c133 k) Tryz.f155 p r
theorem r155_c148c133_0 (k) (rec : St → O155_c148c133) (v) : roundF (E155_c148c133 k) (S155_c148c133 k) Tryz.f155 p155_c148c133_0 [] rec (U4 n155_c148c133_0 v) = U4 (slices_IndexFunc_int64_int64_impl_areAll_int64_1_impl_areChannels_1.s0 k (W4 rec n155_c148c133_0)) v := by kernel_rfl
theorem q155_c148c133_0 (k) (n) : W4 (L155_c148c133 k p155_c148c133_0 [] n) n155_c148c133_0 = slices_IndexFunc_int64_int64_impl_areAll_int64_1_impl_areChannels_1.l0 k n :=
 u4 (lq (E155_c148c133 k) (S155_c148c133 k) (fun rec => U4 (slices_IndexFunc_int64_int64_impl_areAll_int64_1_impl_areChannels_1.s0 k (C4 rec))) (fun n => U4 (slices_IndexFunc_int64_int64_impl_areAll_int64_1_impl_areChannels_1.l0 k n)) (r155_c148c133_0 k) n)
theorem M155_c148c133 (k) : Meets Tryz.prog 155 (S155_c148c133 k) := mo Tryz.func155 (oc (M148_c133 k) on) fun x => (show funK (E155_c148c133 k) (S155_c148c133 k) Tryz.f155 x = slices_IndexFunc_int64_int64_impl_areAll_int64_1_impl_areChannels_1.g k (W4 (L155_c148c133 k p155_c148c133_0 [] k) n155_c148c133_0) x.1 x.2 by kernel_rfl).trans (by rw [q155_c148c133_0]; rfl)
def slices_ContainsFunc_int64_int64_impl_areAll_int64_1_impl_areChannels_1.f (k : Nat) (l0 : List (List Int)) (a1 : Int × (List (List Int))) : Option (Bool) := (slices_IndexFunc_int64_int64_impl_areAll_int64_1_impl_areChannels_1.f k l0 a1).bind fun t1 => some (decide (0 ≤ t1))
def S147_c148c133 (k : Nat) : Does := ⟨[sM, (false, [.dat (.clo 148 (.ptr (.clo 133 (.pair (.ptr (.int .i64)) (.ptr (.list (.list (.int .i64))))))))])], [sB], U2 (slices_ContainsFunc_int64_int64_impl_areAll_int64_1_impl_areChannels_1.f k)⟩
def E147_c148c133 (k : Nat) : En := ⟨tb, orcOf [(155, S155_c148c133 k)], lvOf [], k, 0, lvOf [], []⟩
theorem M147_c148c133 (k) : Meets Tryz.prog 147 (S147_c148c133 k) := mo Tryz.func147 (oc (M155_c148c133 k) on) fun x => (by kernel_rfl : funK (E147_c148c133 k) (S147_c148c133 k) Tryz.f147 x = (S147_c148c133 k).fn x)
def impl_areAll_int64_impl_areChannels_1.f (k : Nat) (l0 : List (List Int)) (a1 : Int × (List (List Int))) : Option (Bool) := (slices_ContainsFunc_int64_int64_impl_areAll_int64_1_impl_areChannels_1.f k l0 a1).bind fun t1 => some (!decide (t1 = true))
def S132_c133 (k : Nat) : Does := ⟨[sM, (false, [.dat (.clo 133 (.pair (.ptr (.int .i64)) (.ptr (.list (.list (.int .i64))))))])], [sB], U2 (impl_areAll_int64_impl_areChannels_1.f k)⟩
def E132_c133 (k : Nat) : En := ⟨tb, orcOf [(147, S147_c148c133 k)], lvOf [], k, 0, lvOf [], []⟩
theorem M132_c133 (k) : Meets Tryz.prog 132 (S132_c133 k) := mo Tryz.func132 (oc (M147_c148c133 k) on) fun x => (by kernel_rfl : funK (E132_c133 k) (S132_c133 k) Tryz.f132 x = (S132_c133 k).fn x)
def impl_areChannels.f (k : Nat) (a0 : Int) (l1 : List (List Int)) : Option (Bool) := (impl_isMany.f a0).bind fun t1 => if t1 = true then ((impl_length_int64_131.f l1).bind fun t2 => (impl_within.f t2 1 4).bind fun t3 => if t3 = true then ((impl_areAll_int64_impl_areChannels_1.f k l1 (a0, l1)).bind fun t4 => some t4) else (some false)) else (some false)
def S100 (k : Nat) : Does := ⟨[sI, sM], [sB], U2 (impl_areChannels.f k)⟩
def E100 (k : Nat) : En := ⟨tb, orcOf [(92, S92 k), (131, S131 k), (54, S54 k), (132, S132_c133 k)], lvOf [], k, 0, lvOf [], []⟩
theorem M100 (k) : Meets Tryz.prog 100 (S100 k) := mo Tryz.func100 (oc (M92 k) (oc (M131 k) (oc (M54 k) (oc (M132_c133 k) on)))) fun x => (by kernel_rfl : funK (E100 k) (S100 k) Tryz.f100 x = (S100 k).fn x)
abbrev O101 := Option (List (List Int))
abbrev T101_0 (R : Type) := Int → (List (List Int)) → (List (List Int)) → Int → Int → R
abbrev T101_1 (R : Type) := Int → (List (List Int)) → (List (List Int)) → Int → Int → Int → Int → Int → R
abbrev T101_2 (R : Type) := Int → (List (List Int)) → (List (List Int)) → Int → Int → Int → Int → Int → Int → Int → (List (List Int)) → Int → Int → R
def impl_clashes.s2 (k : Nat) (r1 : T101_1 O101) (r2 : T101_2 O101) : T101_2 O101 := fun x0 x1 x5 x6 x7 x8 x14 x15 x18 x19 x22 x23 x24 => if x24 < x23 then (if 0 ≤ x24 then (if x24 < x22.length then (if 0 ≤ x6 then (if x6 < ((rdOf ([] : List Int) x22 x24).length : Int) then (if (rd (rdOf ([] : List Int) x22 x24) x6) = x7 then (r2 x0 x1 x5 x6 x7 (wrap64 (x8 + 1)) x14 x15 x18 x19 x22 x23 (wrap64 (x24 + 1))) else (r2 x0 x1 x5 x6 x7 x8 x14 x15 x18 x19 x22 x23 (wrap64 (x24 + 1)))) else none) else none) else none) else none) else (if 1 < x8 then (if x5.length + 1 ≤ 1099511627776 then (r1 x0 x1 (x5 ++ [[x6, x7]]) x6 x14 x15 x18 (wrap64 (x19 + 1))) else none) else (r1 x0 x1 x5 x6 x14 x15 x18 (wrap64 (x19 + 1))))
def impl_clashes.l2 (k : Nat) (r0 : T101_0 O101) (r1 : T101_1 O101) : Nat → T101_2 O101
 | 0 => Z13
 | n + 1 => impl_clashes.s2 k r1 (impl_clashes.l2 k r0 r1 n)
def impl_clashes.s1 (k : Nat) (r0 : T101_0 O101) (r1 : T101_1 O101) (r2 : T101_2 O101) : T101_1 O101 := fun x0 x1 x5 x6 x14 x15 x18 x19 => if x19 < x18 then (r2 x0 x1 x5 x6 x19 0 x14 x15 x18 x19 x1 (x1.length : Int) 0) else (r0 x0 x1 x5 x14 (wrap64 (x15 + 1)))
def impl_clashes.l1 (k : Nat) (r0 : T101_0 O101) : Nat → T101_1 O101
 | 0 => Z8
 | n + 1 => impl_clashes.s1 k r0 (impl_clashes.l1 k r0 n) (impl_clashes.l2 k r0 (impl_clashes.l1 k r0 n) k)
def impl_clashes.s0 (k : Nat) (r0 : T101_0 O101) (r1 : T101_1 O101) : T101_0 O101 := fun x0 x1 x5 x14 x15 => if x15 < x14 then (r1 x0 x1 x5 x15 x14 x15 x0 0) else (some x5)
def impl_clashes.l0 (k : Nat) : Nat → T101_0 O101
 | 0 => Z5
 | n + 1 => impl_clashes.s0 k (impl_clashes.l0 k n) (impl_clashes.l1 k (impl_clashes.l0 k n) k)
def impl_clashes.g (k : Nat) (r0 : T101_0 O101) (a0 : Int) (l1 : List (List Int)) : Option (List (List Int)) := if 0 < (l1.length : Int) then (r0 a0 l1 [] ((rdOf ([] : List Int) l1 0).length : Int) 0) else none
def impl_clashes.f (k : Nat) (a0 : Int) (l1 : List (List Int)) : Option (List (List Int)) := impl_clashes.g k (impl_clashes.l0 k k) a0 l1
def S101 (k : Nat) : Does := ⟨[sI, sM], [(false, [.own 24 (.list (.int .i64))])], U2 (impl_clashes.f k)⟩
def E101 (k : Nat) : En := ⟨tb, orcOf [], lvOf [(0, [(0, []), (1, []), (5, [.nil 24 (.list (.int .i64))]), (14, []), (15, [])]), (2, [(0, []), (1, []), (5, [.nil 24 (.list (.int .i64))]), (6, []), (14, []), (15, []), (18, []), (19, [])]), (4, lz [0, 1, 5, 6, 7, 8, 14, 15, 18, 19, 22, 23, 24])], k, 0, lvOf [], []⟩
def n101_0 : T101_0 St := fun x0 x1 x5 x14 x15 => ⟨48, lookA [(0, aI x0), (1, aM x1), (5, .own 0), (14, aI x14), (15, aI x15)], Go.V.look [(0, .flat 24 (.list (.int .i64)) x5)]⟩
def p101_0 : List Bool := [t', t', f', t', f']
def n101_1 : T101_1 St := fun x0 x1 x5 x6 x14 x15 x18 x19 => ⟨48, lookA [(0, aI x0), (1, aM x1), (5, .own 0), (6, aI x6), (14, aI x14), (15, aI x15), (18, aI x18), (19, aI x19)], Go.V.look [(0, .flat 24 (.list (.int .i64)) x5)]⟩
def p101_1 : List Bool := [t', t', f', t', f', f', t', t', f', f', t', t', f']
def n101_2 : T101_2 St := fun x0 x1 x5 x6 x7 x8 x14 x15 x18 x19 x22 x23 x24 => ⟨48, lookA [(0, aI x0), (1, aM x1), (5, .own 0), (6, aI x6), (7, aI x7), (8, aI x8), (14, aI x14), (15, aI x15), (18, aI x18), (19, aI x19), (22, aM x22), (23, aI x23), (24, aI x24)], Go.V.look [(0, .flat 24 (.list (.int .i64)) x5)]⟩
def p101_2 : List Bool := [t', t', f', t', f', f', t', t', f', f', t', t', f', f', t', t', f', f', t', t', f', t', f']
def L101 (k : Nat) (p : List Bool) (r : List (St → O101)) : Nat → St → O101 := loopF (E101 k) (S101 k) Tryz.f101 p r
theorem r101_2 (k) (R0 R1 : St → O101) (rec : St → O101) (v) : roundF (E101 k) (S101 k) Tryz.f101 p101_2 [R0, R1] rec (U13 n101_2 v) = U13 (impl_clashes.s2 k (W8 R1 n101_1) (W13 rec n101_2)) v := by kernel_rfl
theorem q101_2 (k) (R0 R1 : St → O101) (n) : W13 (L101 k p101_2 [R0, R1] n) n101_2 = impl_clashes.l2 k (W5 R0 n101_0) (W8 R1 n101_1) n :=
 u13 (lq (E101 k) (S101 k) (fun rec => U13 (impl_clashes.s2 k (W8 R1 n101_1) (C13 rec))) (fun n => U13 (impl_clashes.l2 k (W5 R0 n101_0) (W8 R1 n101_1) n)) (r101_2 k R0 R1) n)
theorem r101_1 (k) (R0 : St → O101) (rec : St → O101) (G2 : T101_2 O101) (h2 : W13 (L101 k p101_2 [R0, rec] k) n101_2 = G2) (v) : roundF (E101 k) (S101 k) Tryz.f101 p101_1 [R0] rec (U8 n101_1 v) = U8 (impl_clashes.s1 k (W5 R0 n101_0) (W8 rec n101_1) G2) v := by
 subst h2
 kernel_rfl
theorem q101_1 (k) (R0 : St → O101) (n) : W8 (L101 k p101_1 [R0] n) n101_1 = impl_clashes.l1 k (W5 R0 n101_0) n :=
 u8 (lq (E101 k) (S101 k) (fun rec => U8 (impl_clashes.s1 k (W5 R0 n101_0) (C8 rec) (impl_clashes.l2 k (W5 R0 n101_0) (C8 rec) k))) (fun n => U8 (impl_clashes.l1 k (W5 R0 n101_0) n)) (fun rec v => r101_1 k R0 rec _ (q101_2 k R0 rec k) v) n)
theorem r101_0 (k) (rec : St → O101) (G1 : T101_1 O101) (h1 : W8 (L101 k p101_1 [rec] k) n101_1 = G1) (v) : roundF (E101 k) (S101 k) Tryz.f101 p101_0 [] rec (U5 n101_0 v) = U5 (impl_clashes.s0 k (W5 rec n101_0) G1) v := by
 subst h1
 kernel_rfl
theorem q101_0 (k) (n) : W5 (L101 k p101_0 [] n) n101_0 = impl_clashes.l0 k n :=
 u5 (lq (E101 k) (S101 k) (fun rec => U5 (impl_clashes.s0 k (C5 rec) (impl_clashes.l1 k (C5 rec) k))) (fun n => U5 (impl_clashes.l0 k n)) (fun rec v => r101_0 k rec _ (q101_1 k rec k) v) n)
theorem M101 (k) : Meets Tryz.prog 101 (S101 k) := mo Tryz.func101 on fun x => (show funK (E101 k) (S101 k) Tryz.f101 x = impl_clashes.g k (W5 (L101 k p101_0 [] k) n101_0) x.1 x.2 by kernel_rfl).trans (by rw [q101_0]; rfl)
def impl_ClashesOf.f (k : Nat) (a0 : Int) (l1 : List (List Int)) : Option ((List (List Int)) × Int) := (impl_areChannels.f k a0 l1).bind fun t1 => if t1 = true then ((impl_clashes.f k a0 l1).bind fun t2 => some (t2, 0)) else (some ([], 2))
def S39 (k : Nat) : Does := ⟨[sI, sM], [(false, [.own 24 (.list (.int .i64))]), sI], U2 (impl_ClashesOf.f k)⟩
def E39 (k : Nat) : En := ⟨tb, orcOf [(100, S100 k), (101, S101 k)], lvOf [], k, 0, lvOf [], []⟩
theorem M39 (k) : Meets Tryz.prog 39 (S39 k) := mo Tryz.func39 (oc (M100 k) (oc (M101 k) on)) fun x => (by kernel_rfl : funK (E39 k) (S39 k) Tryz.f39 x = (S39 k).fn x)
abbrev O105 := Option (List Int)
abbrev T105_0 (R : Type) := Int → (List Int) → (List (List Int)) → Int → Int → R
abbrev T105_1 (R : Type) := Int → (List Int) → (List (List Int)) → Int → Int → (List Int) → Int → Int → R
def impl_together.s1 (k : Nat) (r0 : T105_0 O105) (r1 : T105_1 O105) : T105_1 O105 := fun x1 x5 x16 x17 x18 x22 x23 x24 => if x24 < x23 then (if 0 ≤ x24 then (if x24 < x22.length then (if (rd x22 x24) = x1 then (if 0 ≤ x24 then (if x24 < x5.length then (r1 x1 (x5.set x24.toNat x1) x16 x17 x18 x22 x23 (wrap64 (x24 + 1))) else none) else none) else (r1 x1 x5 x16 x17 x18 x22 x23 (wrap64 (x24 + 1)))) else none) else none) else (r0 x1 x5 x16 x17 (wrap64 (x18 + 1)))
def impl_together.l1 (k : Nat) (r0 : T105_0 O105) : Nat → T105_1 O105
 | 0 => Z8
 | n + 1 => impl_together.s1 k r0 (impl_together.l1 k r0 n)
def impl_together.s0 (k : Nat) (r0 : T105_0 O105) (r1 : T105_1 O105) : T105_0 O105 := fun x1 x5 x16 x17 x18 => if x18 < x17 then (if 0 ≤ x18 then (if x18 < x16.length then (r1 x1 x5 x16 x17 x18 (rdOf ([] : List Int) x16 x18) ((rdOf ([] : List Int) x16 x18).length : Int) 0) else none) else none) else (some x5)
def impl_together.l0 (k : Nat) : Nat → T105_0 O105
 | 0 => Z5
 | n + 1 => impl_together.s0 k (impl_together.l0 k n) (impl_together.l1 k (impl_together.l0 k n) k)
def impl_together.g (k : Nat) (r0 : T105_0 O105) (l0 : List (List Int)) (a1 : Int) : Option (List Int) := if 0 < (l0.length : Int) then ((slices_Repeat_int64_int64.f [(-1)] ((rdOf ([] : List Int) l0 0).length : Int)).bind fun t1 => r0 a1 t1 l0 (l0.length : Int) 0) else none
def impl_together.f (k : Nat) (l0 : List (List Int)) (a1 : Int) : Option (List Int) := impl_together.g k (impl_together.l0 k k) l0 a1
def S105 (k : Nat) : Does := ⟨[sM, sI], [(false, [.own 2 (.int .i64)])], U2 (impl_together.f k)⟩
def E105 (k : Nat) : En := ⟨tb, orcOf [(97, S97 k)], lvOf [(0, lz [1, 5, 16, 17, 18]), (2, lz [1, 5, 16, 17, 18, 22, 23, 24])], k, 0, lvOf [], []⟩
def n105_0 : T105_0 St := fun x1 x5 x16 x17 x18 => ⟨39, lookA [(1, aI x1), (5, .own 0), (16, aM x16), (17, aI x17), (18, aI x18)], Go.V.look [(0, .flat 2 (.int .i64) x5)]⟩
def p105_0 : List Bool := [t', t', f', t', f']
def n105_1 : T105_1 St := fun x1 x5 x16 x17 x18 x22 x23 x24 => ⟨39, lookA [(1, aI x1), (5, .own 0), (16, aM x16), (17, aI x17), (18, aI x18), (22, aL x22), (23, aI x23), (24, aI x24)], Go.V.look [(0, .flat 2 (.int .i64) x5)]⟩
def p105_1 : List Bool := [t', t', f', t', f', f', t', t', f', f', t', t', f']
def L105 (k : Nat) (p : List Bool) (r : List (St → O105)) : Nat → St → O105 := loopF (E105 k) (S105 k) Tryz.f105 p r
theorem r105_1 (k) (R0 : St → O105) (rec : St → O105) (v) : roundF (E105 k) (S105 k) Tryz.f105 p105_1 [R0] rec (U8 n105_1 v) = U8 (impl_together.s1 k (W5 R0 n105_0) (W8 rec n105_1)) v := by kernel_rfl
theorem q105_1 (k) (R0 : St → O105) (n) : W8 (L105 k p105_1 [R0] n) n105_1 = impl_together.l1 k (W5 R0 n105_0) n :=
 u8 (lq (E105 k) (S105 k) (fun rec => U8 (impl_together.s1 k (W5 R0 n105_0) (C8 rec))) (fun n => U8 (impl_together.l1 k (W5 R0 n105_0) n)) (r105_1 k R0) n)
theorem r105_0 (k) (rec : St → O105) (G1 : T105_1 O105) (h1 : W8 (L105 k p105_1 [rec] k) n105_1 = G1) (v) : roundF (E105 k) (S105 k) Tryz.f105 p105_0 [] rec (U5 n105_0 v) = U5 (impl_together.s0 k (W5 rec n105_0) G1) v := by
 subst h1
 kernel_rfl
theorem q105_0 (k) (n) : W5 (L105 k p105_0 [] n) n105_0 = impl_together.l0 k n :=
 u5 (lq (E105 k) (S105 k) (fun rec => U5 (impl_together.s0 k (C5 rec) (impl_together.l1 k (C5 rec) k))) (fun n => U5 (impl_together.l0 k n)) (fun rec v => r105_0 k rec _ (q105_1 k rec k) v) n)
theorem M105 (k) : Meets Tryz.prog 105 (S105 k) := mo Tryz.func105 (oc (M97 k) on) fun x => (show funK (E105 k) (S105 k) Tryz.f105 x = impl_together.g k (W5 (L105 k p105_0 [] k) n105_0) x.1 x.2 by kernel_rfl).trans (by rw [q105_0]; rfl)
abbrev O76 := Option (List Int)
abbrev T76_0 (R : Type) := (List Int) → Int → (List Int) → (List Int) → Int → Int → R
abbrev T76_1 (R : Type) := (List Int) → (List Int) → (List Int) → Int → Int → R
def impl_waits.s1 (k : Nat) (r1 : T76_1 O76) : T76_1 O76 := fun x0 x5 x6 x27 x28 => if x28 < x27 then (if 0 ≤ x28 then (if x28 < x5.length then (if (wrap64 (x28 + 1)) < (x5.length : Int) then (if 0 ≤ (wrap64 (x28 + 1)) then (if (wrap64 (x28 + 1)) < (x5.length : Int) then (if x6.length + 1 ≤ 1099511627776 then (r1 x0 x5 (x6 ++ [(wrap64 ((rd x5 (wrap64 (x28 + 1))) - (rd x5 x28)))]) x27 (wrap64 (x28 + 1))) else none) else none) else none) else (if 0 < (x5.length : Int) then ((impl_length_int64.f x0).bind fun t1 => if x6.length + 1 ≤ 1099511627776 then (r1 x0 x5 (x6 ++ [(wrap64 ((wrap64 ((rd x5 0) + t1)) - (rd x5 x28)))]) x27 (wrap64 (x28 + 1))) else none) else none)) else none) else none) else (some x6)
def impl_waits.l1 (k : Nat) : Nat → T76_1 O76
 | 0 => Z5
 | n + 1 => impl_waits.s1 k (impl_waits.l1 k n)
def impl_waits.s0 (k : Nat) (r0 : T76_0 O76) (r1 : T76_1 O76) : T76_0 O76 := fun x0 x1 x5 x11 x12 x13 => if x13 < x12 then (if 0 ≤ x13 then (if x13 < x11.length then (if (rd x11 x13) = x1 then (if x5.length + 1 ≤ 1099511627776 then (r0 x0 x1 (x5 ++ [x13]) x11 x12 (wrap64 (x13 + 1))) else none) else (r0 x0 x1 x5 x11 x12 (wrap64 (x13 + 1)))) else none) else none) else (r1 x0 x5 [] (x5.length : Int) 0)
def impl_waits.l0 (k : Nat) : Nat → T76_0 O76
 | 0 => Z6
 | n + 1 => impl_waits.s0 k (impl_waits.l0 k n) (impl_waits.l1 k k)
def impl_waits.g (k : Nat) (r0 : T76_0 O76) (l0 : List Int) (a1 : Int) : Option (List Int) := r0 l0 a1 [] l0 (l0.length : Int) 0
def impl_waits.f (k : Nat) (l0 : List Int) (a1 : Int) : Option (List Int) := impl_waits.g k (impl_waits.l0 k k) l0 a1
def S76 (k : Nat) : Does := ⟨[sL, sI], [(false, [.own 2 (.int .i64)])], U2 (impl_waits.f k)⟩
def E76 (k : Nat) : En := ⟨tb, orcOf [(93, S93 k)], lvOf [(0, [(0, []), (1, []), (5, [.nil 2 (.int .i64)]), (6, []), (11, []), (12, []), (13, [])]), (2, [(0, []), (5, []), (6, [.nil 2 (.int .i64)]), (26, []), (27, []), (28, [])])], k, 0, lvOf [], []⟩
def n76_0 : T76_0 St := fun x0 x1 x5 x11 x12 x13 => ⟨61, lookA [(0, aL x0), (1, aI x1), (5, .own 0), (6, .nil), (11, aL x11), (12, aI x12), (13, aI x13)], Go.V.look [(0, .flat 2 (.int .i64) x5)]⟩
def p76_0 : List Bool := [t', t', f', t', f']
def n76_1 : T76_1 St := fun x0 x5 x6 x27 x28 => ⟨61, lookA [(0, aL x0), (5, .own 0), (6, .own 1), (26, .own 0), (27, aI x27), (28, aI x28)], Go.V.look [(0, .flat 2 (.int .i64) x5), (1, .flat 2 (.int .i64) x6)]⟩
def p76_1 : List Bool := [t', t', t', f', t', f']
def L76 (k : Nat) (p : List Bool) (r : List (St → O76)) : Nat → St → O76 := loopF (E76 k) (S76 k) Tryz.f76 p r
theorem r76_1 (k) (rec : St → O76) (v) : roundF (E76 k) (S76 k) Tryz.f76 p76_1 [] rec (U5 n76_1 v) = U5 (impl_waits.s1 k (W5 rec n76_1)) v := by kernel_rfl
theorem q76_1 (k) (n) : W5 (L76 k p76_1 [] n) n76_1 = impl_waits.l1 k n :=
 u5 (lq (E76 k) (S76 k) (fun rec => U5 (impl_waits.s1 k (C5 rec))) (fun n => U5 (impl_waits.l1 k n)) (r76_1 k) n)
theorem r76_0 (k) (rec : St → O76) (G1 : T76_1 O76) (h1 : W5 (L76 k p76_1 [] k) n76_1 = G1) (v) : roundF (E76 k) (S76 k) Tryz.f76 p76_0 [] rec (U6 n76_0 v) = U6 (impl_waits.s0 k (W6 rec n76_0) G1) v := by
 subst h1
 kernel_rfl
theorem q76_0 (k) (n) : W6 (L76 k p76_0 [] n) n76_0 = impl_waits.l0 k n :=
 u6 (lq (E76 k) (S76 k) (fun rec => U6 (impl_waits.s0 k (C6 rec) (impl_waits.l1 k k))) (fun n => U6 (impl_waits.l0 k n)) (fun rec v => r76_0 k rec _ (q76_1 k k) v) n)
theorem M76 (k) : Meets Tryz.prog 76 (S76 k) := mo Tryz.func76 (oc (M93 k) on) fun x => (show funK (E76 k) (S76 k) Tryz.f76 x = impl_waits.g k (W6 (L76 k p76_0 [] k) n76_0) x.1 x.2 by kernel_rfl).trans (by rw [q76_0]; rfl)
abbrev O57 := Option (Int)
abbrev T57_0 (R : Type) := Int → (List Int) → Int → Int → R
def impl_greatest.s0 (k : Nat) (r0 : T57_0 O57) : T57_0 O57 := fun x3 x6 x7 x8 => if x8 < x7 then (if 0 ≤ x8 then (if x8 < x6.length then (r0 (maxV x3 (rd x6 x8)) x6 x7 (wrap64 (x8 + 1))) else none) else none) else (some x3)
def impl_greatest.l0 (k : Nat) : Nat → T57_0 O57
 | 0 => Z4
 | n + 1 => impl_greatest.s0 k (impl_greatest.l0 k n)
def impl_greatest.g (k : Nat) (r0 : T57_0 O57) (l0 : List Int) : Option (Int) := r0 0 l0 (l0.length : Int) 0
def impl_greatest.f (k : Nat) (l0 : List Int) : Option (Int) := impl_greatest.g k (impl_greatest.l0 k k) l0
def S57 (k : Nat) : Does := ⟨[sL], [sI], impl_greatest.f k⟩
def E57 (k : Nat) : En := ⟨tb, orcOf [], lvOf [(0, lz [3, 6, 7, 8])], k, 0, lvOf [], []⟩
def n57_0 : T57_0 St := fun x3 x6 x7 x8 => ⟨17, lookA [(3, aI x3), (6, aL x6), (7, aI x7), (8, aI x8)], Go.V.look []⟩
def p57_0 : List Bool := [t', t', f', t', f']
def L57 (k : Nat) (p : List Bool) (r : List (St → O57)) : Nat → St → O57 := loopF (E57 k) (S57 k) Tryz.f57 p r
theorem r57_0 (k) (rec : St → O57) (v) : roundF (E57 k) (S57 k) Tryz.f57 p57_0 [] rec (U4 n57_0 v) = U4 (impl_greatest.s0 k (W4 rec n57_0)) v := by kernel_rfl
theorem q57_0 (k) (n) : W4 (L57 k p57_0 [] n) n57_0 = impl_greatest.l0 k n :=
 u4 (lq (E57 k) (S57 k) (fun rec => U4 (impl_greatest.s0 k (C4 rec))) (fun n => U4 (impl_greatest.l0 k n)) (r57_0 k) n)
theorem M57 (k) : Meets Tryz.prog 57 (S57 k) := mo Tryz.func57 on fun x => (show funK (E57 k) (S57 k) Tryz.f57 x = impl_greatest.g k (W4 (L57 k p57_0 [] k) n57_0) x by kernel_rfl).trans (by rw [q57_0]; rfl)
abbrev O41 := Option (Bool × Int)
abbrev T41_0 (R : Type) := (List (List Int)) → (List Int) → Int → Int → R
def impl_ServeTogether.s0 (k : Nat) (r0 : T41_0 O41) : T41_0 O41 := fun x1 x27 x28 x29 => if x29 < x28 then (if 0 ≤ x29 then (if x29 < x27.length then ((impl_together.f k x1 x29).bind fun t6 => (impl_waits.f k t6 x29).bind fun t7 => (impl_greatest.f k t7).bind fun t8 => if t8 = 0 then (some (false, 0)) else (if (rd x27 x29) < t8 then (some (false, 0)) else (r0 x1 x27 x28 (wrap64 (x29 + 1))))) else none) else none) else (some (true, 0))
def impl_ServeTogether.l0 (k : Nat) : Nat → T41_0 O41
 | 0 => Z4
 | n + 1 => impl_ServeTogether.s0 k (impl_ServeTogether.l0 k n)
def impl_ServeTogether.g (k : Nat) (r0 : T41_0 O41) (l0_0 : List Int) (l1 : List (List Int)) : Option (Bool × Int) := (impl_Tasks_many.f l0_0).bind fun t1 => (impl_areChannels.f k (maxV t1 1) l1).bind fun t2 => (impl_tasksCode.f k l0_0 t2).bind fun t3 => if t3 = 0 then ((impl_Tasks_many.f l0_0).bind fun t4 => (impl_clashes.f k t4 l1).bind fun t5 => if 0 < (t5.length : Int) then (some (false, 5)) else (r0 l1 l0_0 (l0_0.length : Int) 0)) else (some (false, t3))
def impl_ServeTogether.f (k : Nat) (l0_0 : List Int) (l1 : List (List Int)) : Option (Bool × Int) := impl_ServeTogether.g k (impl_ServeTogether.l0 k k) l0_0 l1
def S41 (k : Nat) : Does := ⟨[sT, sM], [sB, sI], U2 (impl_ServeTogether.f k)⟩
def E41 (k : Nat) : En := ⟨tb, orcOf [(104, S104 k), (100, S100 k), (103, S103 k), (101, S101 k), (105, S105 k), (76, S76 k), (57, S57 k)], lvOf [(0, lz [1, 27, 28, 29])], k, 0, lvOf [], []⟩
def n41_0 : T41_0 St := fun x1 x27 x28 x29 => ⟨48, lookA [(1, aM x1), (27, aL x27), (28, aI x28), (29, aI x29)], Go.V.look []⟩
def p41_0 : List Bool := [t', t', t', f', t', f']
def L41 (k : Nat) (p : List Bool) (r : List (St → O41)) : Nat → St → O41 := loopF (E41 k) (S41 k) Tryz.f41 p r
theorem r41_0 (k) (rec : St → O41) (v) : roundF (E41 k) (S41 k) Tryz.f41 p41_0 [] rec (U4 n41_0 v) = U4 (impl_ServeTogether.s0 k (W4 rec n41_0)) v := by kernel_rfl
theorem q41_0 (k) (n) : W4 (L41 k p41_0 [] n) n41_0 = impl_ServeTogether.l0 k n :=
 u4 (lq (E41 k) (S41 k) (fun rec => U4 (impl_ServeTogether.s0 k (C4 rec))) (fun n => U4 (impl_ServeTogether.l0 k n)) (r41_0 k) n)
theorem M41 (k) : Meets Tryz.prog 41 (S41 k) := mo Tryz.func41 (oc (M104 k) (oc (M100 k) (oc (M103 k) (oc (M101 k) (oc (M105 k) (oc (M76 k) (oc (M57 k) on))))))) fun x => (show funK (E41 k) (S41 k) Tryz.f41 x = impl_ServeTogether.g k (W4 (L41 k p41_0 [] k) n41_0) x.1 x.2 by kernel_rfl).trans (by rw [q41_0]; rfl)
end Go.Proofs.YtcbhhbkghbnljaaGreatDoor.Vf
