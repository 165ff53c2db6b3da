/- What the functions of program, reference and laws give, as plain functions, and that they meet them (part 1). Conditions: none. Written by a program of my own (vp.py). -/
import Derived.Test.YtcbhhbkghbnljaaVc
import Derived.Test.YtcbhhbkghbnljaaProg
import Derived.BigQuiet
import Derived.Deep.DeepCutAuto
import Derived.Deep.LoopGhost
import Derived.Deep.OwnRows
import Derived.Deep.RegionLaw
import Derived.Laws.CopyOwn
import Derived.Laws.MakeOwn
import Derived.Tactics
import Derived.WalkKit
import Derived.Test.YtcbhhbkghbnljaaVc
set_option linter.unusedVariables false
set_option maxRecDepth 100000
noncomputable section
namespace Go.Proofs.Ytcbhhbkghbnljaa.Vf
open Go Go.V Go.RowKit Go.Proofs
def tbl : List (Nat × TI) := [(1, ⟨.fn, 1, 8, [.nilFunc]⟩), (2, ⟨.int .i64, 1, 8, [.int .i64 0]⟩), (3, ⟨.int .i64, 1, 8, [.int .i64 0]⟩), (4, ⟨.bool, 1, 1, [.bool false]⟩), (5, ⟨.int .u8, 1, 1, [.int .u8 0]⟩), (6, ⟨.int .u8, 1, 1, [.int .u8 0]⟩), (7, ⟨.struct true [(0, 2), (1, 3), (2, 4), (3, 6)], 4, 24, [.int .i64 0, .int .i64 0, .bool false, .int .u8 0]⟩), (8, ⟨.struct true [(0, 2), (1, 3), (2, 4), (3, 6)], 4, 24, [.int .i64 0, .int .i64 0, .bool false, .int .u8 0]⟩), (9, ⟨.str, 1, 16, [.string ByteArray.empty]⟩), (10, ⟨.str, 1, 16, [.string ByteArray.empty]⟩), (11, ⟨.str, 1, 16, [.string ByteArray.empty]⟩), (12, ⟨.int .u64, 1, 8, [.int .u64 0]⟩), (13, ⟨.struct false [(0, 9), (1, 12)], 2, 24, [.string ByteArray.empty, .int .u64 0]⟩), (14, ⟨.struct false [(0, 9), (1, 12)], 2, 24, [.string ByteArray.empty, .int .u64 0]⟩), (15, ⟨.ptr 212, 1, 8, [.pointer none]⟩), (16, ⟨.ptr 215, 1, 8, [.pointer none]⟩), (17, ⟨.ptr 224, 1, 8, [.pointer none]⟩), (18, ⟨.struct false [(0, 17)], 1, 8, [.pointer none]⟩), (19, ⟨.struct false [(0, 17)], 1, 8, [.pointer none]⟩), (21, ⟨.int .i32, 1, 4, [.int .i32 0]⟩), (22, ⟨.struct true [(0, 2), (1, 2)], 2, 16, [.int .i64 0, .int .i64 0]⟩), (23, ⟨.struct true [(0, 2), (1, 2)], 2, 16, [.int .i64 0, .int .i64 0]⟩), (25, ⟨.fn, 1, 8, [.nilFunc]⟩), (26, ⟨.struct true [(0, 2), (1, 2)], 2, 16, [.int .i64 0, .int .i64 0]⟩), (27, ⟨.fn, 1, 8, [.nilFunc]⟩), (28, ⟨.fn, 1, 8, [.nilFunc]⟩), (29, ⟨.slice 2, 1, 24, [.slice none 0 0]⟩), (30, ⟨.struct true [(0, 29)], 1, 24, [.slice none 0 0]⟩), (31, ⟨.struct true [(0, 29)], 1, 24, [.slice none 0 0]⟩), (32, ⟨.fn, 1, 8, [.nilFunc]⟩), (34, ⟨.fn, 1, 8, [.nilFunc]⟩), (35, ⟨.struct true [(0, 29)], 1, 24, [.slice none 0 0]⟩), (36, ⟨.fn, 1, 8, [.nilFunc]⟩), (37, ⟨.fn, 1, 8, [.nilFunc]⟩), (38, ⟨.fn, 1, 8, [.nilFunc]⟩), (39, ⟨.fn, 1, 8, [.nilFunc]⟩), (40, ⟨.fn, 1, 8, [.nilFunc]⟩), (42, ⟨.fn, 1, 8, [.nilFunc]⟩), (43, ⟨.fn, 1, 8, [.nilFunc]⟩), (44, ⟨.fn, 1, 8, [.nilFunc]⟩), (45, ⟨.fn, 1, 8, [.nilFunc]⟩), (46, ⟨.slice 5, 1, 24, [.slice none 0 0]⟩), (47, ⟨.fn, 1, 8, [.nilFunc]⟩), (49, ⟨.fn, 1, 8, [.nilFunc]⟩), (51, ⟨.fn, 1, 8, [.nilFunc]⟩), (52, ⟨.fn, 1, 8, [.nilFunc]⟩), (54, ⟨.fn, 1, 8, [.nilFunc]⟩), (55, ⟨.fn, 1, 8, [.nilFunc]⟩), (56, ⟨.fn, 1, 8, [.nilFunc]⟩), (58, ⟨.fn, 1, 8, [.nilFunc]⟩), (59, ⟨.fn, 1, 8, [.nilFunc]⟩), (60, ⟨.fn, 1, 8, [.nilFunc]⟩), (61, ⟨.fn, 1, 8, [.nilFunc]⟩), (63, ⟨.fn, 1, 8, [.nilFunc]⟩), (64, ⟨.fn, 1, 8, [.nilFunc]⟩), (65, ⟨.fn, 1, 8, [.nilFunc]⟩), (67, ⟨.fn, 1, 8, [.nilFunc]⟩), (68, ⟨.fn, 1, 8, [.nilFunc]⟩), (69, ⟨.fn, 1, 8, [.nilFunc]⟩), (70, ⟨.fn, 1, 8, [.nilFunc]⟩), (71, ⟨.fn, 1, 8, [.nilFunc]⟩), (72, ⟨.fn, 1, 8, [.nilFunc]⟩), (74, ⟨.fn, 1, 8, [.nilFunc]⟩), (76, ⟨.fn, 1, 8, [.nilFunc]⟩), (77, ⟨.fn, 1, 8, [.nilFunc]⟩), (78, ⟨.fn, 1, 8, [.nilFunc]⟩), (79, ⟨.fn, 1, 8, [.nilFunc]⟩), (80, ⟨.fn, 1, 8, [.nilFunc]⟩), (81, ⟨.fn, 1, 8, [.nilFunc]⟩), (83, ⟨.fn, 1, 8, [.nilFunc]⟩), (85, ⟨.fn, 1, 8, [.nilFunc]⟩), (86, ⟨.slice 29, 1, 24, [.slice none 0 0]⟩), (88, ⟨.fn, 1, 8, [.nilFunc]⟩), (89, ⟨.fn, 1, 8, [.nilFunc]⟩), (91, ⟨.fn, 1, 8, [.nilFunc]⟩), (92, ⟨.fn, 1, 8, [.nilFunc]⟩), (94, ⟨.fn, 1, 8, [.nilFunc]⟩), (95, ⟨.fn, 1, 8, [.nilFunc]⟩), (96, ⟨.fn, 1, 8, [.nilFunc]⟩), (97, ⟨.fn, 1, 8, [.nilFunc]⟩), (98, ⟨.fn, 1, 8, [.nilFunc]⟩), (99, ⟨.fn, 1, 8, [.nilFunc]⟩), (100, ⟨.fn, 1, 8, [.nilFunc]⟩), (101, ⟨.slice 4, 1, 24, [.slice none 0 0]⟩), (102, ⟨.fn, 1, 8, [.nilFunc]⟩), (103, ⟨.fn, 1, 8, [.nilFunc]⟩), (104, ⟨.fn, 1, 8, [.nilFunc]⟩), (105, ⟨.fn, 1, 8, [.nilFunc]⟩), (106, ⟨.fn, 1, 8, [.nilFunc]⟩), (107, ⟨.fn, 1, 8, [.nilFunc]⟩), (108, ⟨.fn, 1, 8, [.nilFunc]⟩), (109, ⟨.fn, 1, 8, [.nilFunc]⟩), (110, ⟨.fn, 1, 8, [.nilFunc]⟩), (111, ⟨.ptr 188, 1, 8, [.pointer none]⟩), (112, ⟨.fn, 1, 8, [.nilFunc]⟩), (113, ⟨.fn, 1, 8, [.nilFunc]⟩), (114, ⟨.fn, 1, 8, [.nilFunc]⟩), (115, ⟨.fn, 1, 8, [.nilFunc]⟩), (117, ⟨.fn, 1, 8, [.nilFunc]⟩), (118, ⟨.map 2 3, 1, 8, [.map none]⟩), (119, ⟨.fn, 1, 8, [.nilFunc]⟩), (121, ⟨.struct true [(0, 2), (1, 2)], 2, 16, [.int .i64 0, .int .i64 0]⟩), (122, ⟨.struct true [(0, 2), (1, 2)], 2, 16, [.int .i64 0, .int .i64 0]⟩), (124, ⟨.fn, 1, 8, [.nilFunc]⟩), (125, ⟨.fn, 1, 8, [.nilFunc]⟩), (126, ⟨.ptr 130, 1, 8, [.pointer none]⟩), (127, ⟨.fn, 1, 8, [.nilFunc]⟩), (128, ⟨.slice 145, 1, 24, [.slice none 0 0]⟩), (129, ⟨.struct true [(0, 35), (1, 128), (2, 101)], 3, 72, [.slice none 0 0, .slice none 0 0, .slice none 0 0]⟩), (130, ⟨.struct true [(0, 35), (1, 128), (2, 101)], 3, 72, [.slice none 0 0, .slice none 0 0, .slice none 0 0]⟩), (131, ⟨.fn, 1, 8, [.nilFunc]⟩), (132, ⟨.fn, 1, 8, [.nilFunc]⟩), (133, ⟨.fn, 1, 8, [.nilFunc]⟩), (134, ⟨.fn, 1, 8, [.nilFunc]⟩), (135, ⟨.ptr 193, 1, 8, [.pointer none]⟩), (136, ⟨.fn, 1, 8, [.nilFunc]⟩), (137, ⟨.fn, 1, 8, [.nilFunc]⟩), (138, ⟨.fn, 1, 8, [.nilFunc]⟩), (140, ⟨.fn, 1, 8, [.nilFunc]⟩), (141, ⟨.fn, 1, 8, [.nilFunc]⟩), (142, ⟨.fn, 1, 8, [.nilFunc]⟩), (143, ⟨.fn, 1, 8, [.nilFunc]⟩), (145, ⟨.map 2 2, 1, 8, [.map none]⟩), (146, ⟨.fn, 1, 8, [.nilFunc]⟩), (148, ⟨.fn, 1, 8, [.nilFunc]⟩), (149, ⟨.fn, 1, 8, [.nilFunc]⟩), (150, ⟨.fn, 1, 8, [.nilFunc]⟩), (151, ⟨.fn, 1, 8, [.nilFunc]⟩), (152, ⟨.fn, 1, 8, [.nilFunc]⟩), (153, ⟨.fn, 1, 8, [.nilFunc]⟩), (154, ⟨.fn, 1, 8, [.nilFunc]⟩), (155, ⟨.fn, 1, 8, [.nilFunc]⟩), (156, ⟨.fn, 1, 8, [.nilFunc]⟩), (157, ⟨.fn, 1, 8, [.nilFunc]⟩), (158, ⟨.fn, 1, 8, [.nilFunc]⟩), (159, ⟨.fn, 1, 8, [.nilFunc]⟩), (160, ⟨.fn, 1, 8, [.nilFunc]⟩), (161, ⟨.fn, 1, 8, [.nilFunc]⟩), (162, ⟨.int .u64, 1, 8, [.int .u64 0]⟩), (163, ⟨.fn, 1, 8, [.nilFunc]⟩), (164, ⟨.ptr 170, 1, 8, [.pointer none]⟩), (166, ⟨.fn, 1, 8, [.nilFunc]⟩), (167, ⟨.fn, 1, 8, [.nilFunc]⟩), (168, ⟨.fn, 1, 8, [.nilFunc]⟩), (169, ⟨.struct true [(0, 26), (2, 35), (3, 86), (4, 101)], 5, 88, [.int .i64 0, .int .i64 0, .slice none 0 0, .slice none 0 0, .slice none 0 0]⟩), (170, ⟨.struct true [(0, 26), (2, 35), (3, 86), (4, 101)], 5, 88, [.int .i64 0, .int .i64 0, .slice none 0 0, .slice none 0 0, .slice none 0 0]⟩), (171, ⟨.fn, 1, 8, [.nilFunc]⟩), (172, ⟨.fn, 1, 8, [.nilFunc]⟩), (173, ⟨.fn, 1, 8, [.nilFunc]⟩), (174, ⟨.fn, 1, 8, [.nilFunc]⟩), (175, ⟨.fn, 1, 8, [.nilFunc]⟩), (176, ⟨.fn, 1, 8, [.nilFunc]⟩), (177, ⟨.fn, 1, 8, [.nilFunc]⟩), (178, ⟨.fn, 1, 8, [.nilFunc]⟩), (179, ⟨.fn, 1, 8, [.nilFunc]⟩), (180, ⟨.fn, 1, 8, [.nilFunc]⟩), (181, ⟨.slice 3, 1, 24, [.slice none 0 0]⟩), (182, ⟨.fn, 1, 8, [.nilFunc]⟩), (183, ⟨.int .u64, 1, 8, [.int .u64 0]⟩), (185, ⟨.fn, 1, 8, [.nilFunc]⟩), (186, ⟨.slice 189, 1, 24, [.slice none 0 0]⟩), (187, ⟨.struct true [(0, 186), (1, 101)], 2, 48, [.slice none 0 0, .slice none 0 0]⟩), (188, ⟨.struct true [(0, 186), (1, 101)], 2, 48, [.slice none 0 0, .slice none 0 0]⟩), (189, ⟨.slice 122, 1, 24, [.slice none 0 0]⟩), (190, ⟨.fn, 1, 8, [.nilFunc]⟩), (191, ⟨.fn, 1, 8, [.nilFunc]⟩), (192, ⟨.struct true [(0, 46), (1, 3), (2, 162)], 3, 40, [.slice none 0 0, .int .i64 0, .int .u64 0]⟩), (193, ⟨.struct true [(0, 46), (1, 3), (2, 162)], 3, 40, [.slice none 0 0, .int .i64 0, .int .u64 0]⟩), (194, ⟨.fn, 1, 8, [.nilFunc]⟩), (195, ⟨.fn, 1, 8, [.nilFunc]⟩), (196, ⟨.fn, 1, 8, [.nilFunc]⟩), (197, ⟨.fn, 1, 8, [.nilFunc]⟩), (198, ⟨.fn, 1, 8, [.nilFunc]⟩), (199, ⟨.fn, 1, 8, [.nilFunc]⟩), (200, ⟨.int .u32, 1, 4, [.int .u32 0]⟩), (202, ⟨.fn, 1, 8, [.nilFunc]⟩), (204, ⟨.fn, 1, 8, [.nilFunc]⟩), (205, ⟨.fn, 1, 8, [.nilFunc]⟩), (206, ⟨.fn, 1, 8, [.nilFunc]⟩), (207, ⟨.fn, 1, 8, [.nilFunc]⟩), (208, ⟨.fn, 1, 8, [.nilFunc]⟩), (209, ⟨.fn, 1, 8, [.nilFunc]⟩), (210, ⟨.fn, 1, 8, [.nilFunc]⟩), (211, ⟨.struct false [(0, 17), (1, 17), (2, 17), (3, 9)], 4, 40, [.pointer none, .pointer none, .pointer none, .string ByteArray.empty]⟩), (212, ⟨.struct false [(0, 17), (1, 17), (2, 17), (3, 9)], 4, 40, [.pointer none, .pointer none, .pointer none, .string ByteArray.empty]⟩), (214, ⟨.struct false [(0, 213)], 0, 0, []⟩), (215, ⟨.struct false [(0, 213)], 0, 0, []⟩), (216, ⟨.fn, 1, 8, [.nilFunc]⟩), (217, ⟨.int .u8, 1, 1, [.int .u8 0]⟩), (218, ⟨.int .u8, 1, 1, [.int .u8 0]⟩), (219, ⟨.fn, 1, 8, [.nilFunc]⟩), (220, ⟨.ptr 5, 1, 8, [.pointer none]⟩), (221, ⟨.int .i32, 1, 4, [.int .i32 0]⟩), (222, ⟨.int .i32, 1, 4, [.int .i32 0]⟩), (223, ⟨.struct false [(0, 12), (1, 12), (2, 200), (3, 217), (4, 5), (5, 5), (6, 218), (7, 219), (8, 220), (9, 221), (10, 222)], 11, 48, [.int .u64 0, .int .u64 0, .int .u32 0, .int .u8 0, .int .u8 0, .int .u8 0, .int .u8 0, .nilFunc, .pointer none, .int .i32 0, .int .i32 0]⟩), (224, ⟨.struct false [(0, 12), (1, 12), (2, 200), (3, 217), (4, 5), (5, 5), (6, 218), (7, 219), (8, 220), (9, 221), (10, 222)], 11, 48, [.int .u64 0, .int .u64 0, .int .u32 0, .int .u8 0, .int .u8 0, .int .u8 0, .int .u8 0, .nilFunc, .pointer none, .int .i32 0, .int .i32 0]⟩)]
def tb : TypeId → Option TI := Go.V.look tbl
theorem QZ : tbl.map (fun p => rn Try.prog p.1) = tbl.map (fun p => some p.2) := by kernel_rfl
theorem tbOk : ek Try.prog tb := KZ QZ
theorem KO : Try.prog.follows .mixedOrders = true := by kernel_rfl
abbrev sI : Bool × List D1 := (false, [.dat (.int .i64)])
abbrev sL : Bool × List D1 := (false, [.dat (.list (.int .i64))])
abbrev sM : Bool × List D1 := (false, [.dat (.list (.list (.int .i64)))])
abbrev sT : Bool × List D1 := (true, [.dat (.list (.int .i64))])
abbrev sB : Bool × List D1 := (false, [.dat .bool])
abbrev sU : Bool × List D1 := (false, [.dat (.list (.int .u8))])
abbrev sC : Bool × List D1 := (false, [.cel (.struct (.pair (.list (.int .u8)) (.pair (.int .i64) (.int .u64))))])
abbrev aI (x : Int) : AV := .dat (.int .i64) x
abbrev aL (x : List Int) : AV := .dat (.list (.int .i64)) x
abbrev aM (x : List (List Int)) : AV := .dat (.list (.list (.int .i64))) x
abbrev aB (x : Bool) : AV := .dat .bool x
abbrev aU (x : List Int) : AV := .dat (.list (.int .u8)) x
abbrev aQ (x : Int) : AV := .dat (.int .u64) x
theorem on : fX Try.prog (bn []) := Ej
theorem oc {f : FuncId} {S : bD} {l : List (Nat × bD)} (h : bf Try.prog f S) (hl : fX Try.prog (bn l)) : fX Try.prog (bn ((f, S) :: l)) := Hl h hl
theorem mo {f : FuncId} {fn : Func} {S : bD} {E : En} (hf : Try.prog.funcs[f]? = some fn) (ho : fX Try.prog E.orc) (e : ∀ x, cc E S fn x = S.fn x) (hn : (fn.name == "runtime.NumGoroutine") = false := by kernel_rfl) (ht : E.tb = tb := by rfl) (hb : fn.body.isSome = true := by rfl) : bf Try.prog f S := G6 hf hn (ht ▸ tbOk) ho KO (fun x y h => (e x).trans h) hb
theorem lq {V : Type} (E : En) (S : bD) {fn : Func} {p : List Bool} {recs : List (St → Option (cO (flatC S.rs ++ outsC S.ps)))} {enc : V → St} (s : (V → Option (cO (flatC S.rs ++ outsC S.ps))) → V → Option (cO (flatC S.rs ++ outsC S.ps))) (l : Nat → V → Option (cO (flatC S.rs ++ outsC S.ps))) (h : ∀ rec v, bJ E S fn p recs rec (enc v) = s (fun v => rec (enc v)) v) (n : Nat) (h0 : ∀ v, l 0 v = none := by exact fun _ => rfl) (h1 : ∀ n v, l (n + 1) v = s (l n) v := by exact fun _ _ => rfl) : ∀ v, cC E S fn p recs n (enc v) = l n v := G4 E S fn p recs enc s l h0 h1 h n
def t' := true
def f' := false
def lz (l : List Nat) : List (Nat × List LvK) := l.map fun i => (i, [])
section
variable {t0 t1 t2 t3 t4 t5 t6 t7 t8 t9 t10 t11 t12 R T : Type}
def Z1 : t12 → Option R := fun _ => none
def U1 (f : t12 → R) : t12 → R := f
def C1 (f : t12 → R) : t12 → R := f
def W1 (g : R → T) (f : t12 → R) : t12 → T := fun a => g (f a)
theorem u1 {g : R → T} {f : t12 → R} {h : t12 → T} (e : ∀ v, g (U1 f v) = U1 h v) : W1 g f = h := funext e
def Z2 : t11 → t12 → Option R := fun _ => Z1
def U2 (f : t11 → t12 → R) (v : t11 × t12) : R := U1 (f v.1) v.2
def C2 (f : t11 × t12 → R) : t11 → t12 → R := fun a => C1 fun v => f (a, v)
def W2 (g : R → T) (f : t11 → t12 → R) : t11 → t12 → T := fun a => W1 g (f a)
theorem u2 {g : R → T} {f : t11 → t12 → R} {h : t11 → t12 → T} (e : ∀ v, g (U2 f v) = U2 h v) : W2 g f = h := funext fun a => u1 fun v => e (a, v)
def Z3 : t10 → t11 → t12 → Option R := fun _ => Z2
def U3 (f : t10 → t11 → t12 → R) (v : t10 × t11 × t12) : R := U2 (f v.1) v.2
def C3 (f : t10 × t11 × t12 → R) : t10 → t11 → t12 → R := fun a => C2 fun v => f (a, v)
def W3 (g : R → T) (f : t10 → t11 → t12 → R) : t10 → t11 → t12 → T := fun a => W2 g (f a)
theorem u3 {g : R → T} {f : t10 → t11 → t12 → R} {h : t10 → t11 → t12 → T} (e : ∀ v, g (U3 f v) = U3 h v) : W3 g f = h := funext fun a => u2 fun v => e (a, v)
def Z4 : t9 → t10 → t11 → t12 → Option R := fun _ => Z3
def U4 (f : t9 → t10 → t11 → t12 → R) (v : t9 × t10 × t11 × t12) : R := U3 (f v.1) v.2
def C4 (f : t9 × t10 × t11 × t12 → R) : t9 → t10 → t11 → t12 → R := fun a => C3 fun v => f (a, v)
def W4 (g : R → T) (f : t9 → t10 → t11 → t12 → R) : t9 → t10 → t11 → t12 → T := fun a => W3 g (f a)
theorem u4 {g : R → T} {f : t9 → t10 → t11 → t12 → R} {h : t9 → t10 → t11 → t12 → T} (e : ∀ v, g (U4 f v) = U4 h v) : W4 g f = h := funext fun a => u3 fun v => e (a, v)
def Z5 : t8 → t9 → t10 → t11 → t12 → Option R := fun _ => Z4
def U5 (f : t8 → t9 → t10 → t11 → t12 → R) (v : t8 × t9 × t10 × t11 × t12) : R := U4 (f v.1) v.2
def C5 (f : t8 × t9 × t10 × t11 × t12 → R) : t8 → t9 → t10 → t11 → t12 → R := fun a => C4 fun v => f (a, v)
def W5 (g : R → T) (f : t8 → t9 → t10 → t11 → t12 → R) : t8 → t9 → t10 → t11 → t12 → T := fun a => W4 g (f a)
theorem u5 {g : R → T} {f : t8 → t9 → t10 → t11 → t12 → R} {h : t8 → t9 → t10 → t11 → t12 → T} (e : ∀ v, g (U5 f v) = U5 h v) : W5 g f = h := funext fun a => u4 fun v => e (a, v)
def Z6 : t7 → t8 → t9 → t10 → t11 → t12 → Option R := fun _ => Z5
def U6 (f : t7 → t8 → t9 → t10 → t11 → t12 → R) (v : t7 × t8 × t9 × t10 × t11 × t12) : R := U5 (f v.1) v.2
def C6 (f : t7 × t8 × t9 × t10 × t11 × t12 → R) : t7 → t8 → t9 → t10 → t11 → t12 → R := fun a => C5 fun v => f (a, v)
def W6 (g : R → T) (f : t7 → t8 → t9 → t10 → t11 → t12 → R) : t7 → t8 → t9 → t10 → t11 → t12 → T := fun a => W5 g (f a)
theorem u6 {g : R → T} {f : t7 → t8 → t9 → t10 → t11 → t12 → R} {h : t7 → t8 → t9 → t10 → t11 → t12 → T} (e : ∀ v, g (U6 f v) = U6 h v) : W6 g f = h := funext fun a => u5 fun v => e (a, v)
def Z7 : t6 → t7 → t8 → t9 → t10 → t11 → t12 → Option R := fun _ => Z6
def U7 (f : t6 → t7 → t8 → t9 → t10 → t11 → t12 → R) (v : t6 × t7 × t8 × t9 × t10 × t11 × t12) : R := U6 (f v.1) v.2
def C7 (f : t6 × t7 × t8 × t9 × t10 × t11 × t12 → R) : t6 → t7 → t8 → t9 → t10 → t11 → t12 → R := fun a => C6 fun v => f (a, v)
def W7 (g : R → T) (f : t6 → t7 → t8 → t9 → t10 → t11 → t12 → R) : t6 → t7 → t8 → t9 → t10 → t11 → t12 → T := fun a => W6 g (f a)
theorem u7 {g : R → T} {f : t6 → t7 → t8 → t9 → t10 → t11 → t12 → R} {h : t6 → t7 → t8 → t9 → t10 → t11 → t12 → T} (e : ∀ v, g (U7 f v) = U7 h v) : W7 g f = h := funext fun a => u6 fun v => e (a, v)
def Z8 : t5 → t6 → t7 → t8 → t9 → t10 → t11 → t12 → Option R := fun _ => Z7
def U8 (f : t5 → t6 → t7 → t8 → t9 → t10 → t11 → t12 → R) (v : t5 × t6 × t7 × t8 × t9 × t10 × t11 × t12) : R := U7 (f v.1) v.2
def C8 (f : t5 × t6 × t7 × t8 × t9 × t10 × t11 × t12 → R) : t5 → t6 → t7 → t8 → t9 → t10 → t11 → t12 → R := fun a => C7 fun v => f (a, v)
def W8 (g : R → T) (f : t5 → t6 → t7 → t8 → t9 → t10 → t11 → t12 → R) : t5 → t6 → t7 → t8 → t9 → t10 → t11 → t12 → T := fun a => W7 g (f a)
theorem u8 {g : R → T} {f : t5 → t6 → t7 → t8 → t9 → t10 → t11 → t12 → R} {h : t5 → t6 → t7 → t8 → t9 → t10 → t11 → t12 → T} (e : ∀ v, g (U8 f v) = U8 h v) : W8 g f = h := funext fun a => u7 fun v => e (a, v)
def Z9 : t4 → t5 → t6 → t7 → t8 → t9 → t10 → t11 → t12 → Option R := fun _ => Z8
def U9 (f : t4 → t5 → t6 → t7 → t8 → t9 → t10 → t11 → t12 → R) (v : t4 × t5 × t6 × t7 × t8 × t9 × t10 × t11 × t12) : R := U8 (f v.1) v.2
def C9 (f : t4 × t5 × t6 × t7 × t8 × t9 × t10 × t11 × t12 → R) : t4 → t5 → t6 → t7 → t8 → t9 → t10 → t11 → t12 → R := fun a => C8 fun v => f (a, v)
def W9 (g : R → T) (f : t4 → t5 → t6 → t7 → t8 → t9 → t10 → t11 → t12 → R) : t4 → t5 → t6 → t7 → t8 → t9 → t10 → t11 → t12 → T := fun a => W8 g (f a)
theorem u9 {g : R → T} {f : t4 → t5 → t6 → t7 → t8 → t9 → t10 → t11 → t12 → R} {h : t4 → t5 → t6 → t7 → t8 → t9 → t10 → t11 → t12 → T} (e : ∀ v, g (U9 f v) = U9 h v) : W9 g f = h := funext fun a => u8 fun v => e (a, v)
def Z10 : t3 → t4 → t5 → t6 → t7 → t8 → t9 → t10 → t11 → t12 → Option R := fun _ => Z9
def U10 (f : t3 → t4 → t5 → t6 → t7 → t8 → t9 → t10 → t11 → t12 → R) (v : t3 × t4 × t5 × t6 × t7 × t8 × t9 × t10 × t11 × t12) : R := U9 (f v.1) v.2
def C10 (f : t3 × t4 × t5 × t6 × t7 × t8 × t9 × t10 × t11 × t12 → R) : t3 → t4 → t5 → t6 → t7 → t8 → t9 → t10 → t11 → t12 → R := fun a => C9 fun v => f (a, v)
def W10 (g : R → T) (f : t3 → t4 → t5 → t6 → t7 → t8 → t9 → t10 → t11 → t12 → R) : t3 → t4 → t5 → t6 → t7 → t8 → t9 → t10 → t11 → t12 → T := fun a => W9 g (f a)
theorem u10 {g : R → T} {f : t3 → t4 → t5 → t6 → t7 → t8 → t9 → t10 → t11 → t12 → R} {h : t3 → t4 → t5 → t6 → t7 → t8 → t9 → t10 → t11 → t12 → T} (e : ∀ v, g (U10 f v) = U10 h v) : W10 g f = h := funext fun a => u9 fun v => e (a, v)
def Z11 : t2 → t3 → t4 → t5 → t6 → t7 → t8 → t9 → t10 → t11 → t12 → Option R := fun _ => Z10
def U11 (f : t2 → t3 → t4 → t5 → t6 → t7 → t8 → t9 → t10 → t11 → t12 → R) (v : t2 × t3 × t4 × t5 × t6 × t7 × t8 × t9 × t10 × t11 × t12) : R := U10 (f v.1) v.2
def C11 (f : t2 × t3 × t4 × t5 × t6 × t7 × t8 × t9 × t10 × t11 × t12 → R) : t2 → t3 → t4 → t5 → t6 → t7 → t8 → t9 → t10 → t11 → t12 → R := fun a => C10 fun v => f (a, v)
def W11 (g : R → T) (f : t2 → t3 → t4 → t5 → t6 → t7 → t8 → t9 → t10 → t11 → t12 → R) : t2 → t3 → t4 → t5 → t6 → t7 → t8 → t9 → t10 → t11 → t12 → T := fun a => W10 g (f a)
theorem u11 {g : R → T} {f : t2 → t3 → t4 → t5 → t6 → t7 → t8 → t9 → t10 → t11 → t12 → R} {h : t2 → t3 → t4 → t5 → t6 → t7 → t8 → t9 → t10 → t11 → t12 → T} (e : ∀ v, g (U11 f v) = U11 h v) : W11 g f = h := funext fun a => u10 fun v => e (a, v)
def Z12 : t1 → t2 → t3 → t4 → t5 → t6 → t7 → t8 → t9 → t10 → t11 → t12 → Option R := fun _ => Z11
def U12 (f : t1 → t2 → t3 → t4 → t5 → t6 → t7 → t8 → t9 → t10 → t11 → t12 → R) (v : t1 × t2 × t3 × t4 × t5 × t6 × t7 × t8 × t9 × t10 × t11 × t12) : R := U11 (f v.1) v.2
def C12 (f : t1 × t2 × t3 × t4 × t5 × t6 × t7 × t8 × t9 × t10 × t11 × t12 → R) : t1 → t2 → t3 → t4 → t5 → t6 → t7 → t8 → t9 → t10 → t11 → t12 → R := fun a => C11 fun v => f (a, v)
def W12 (g : R → T) (f : t1 → t2 → t3 → t4 → t5 → t6 → t7 → t8 → t9 → t10 → t11 → t12 → R) : t1 → t2 → t3 → t4 → t5 → t6 → t7 → t8 → t9 → t10 → t11 → t12 → T := fun a => W11 g (f a)
theorem u12 {g : R → T} {f : t1 → t2 → t3 → t4 → t5 → t6 → t7 → t8 → t9 → t10 → t11 → t12 → R} {h : t1 → t2 → t3 → t4 → t5 → t6 → t7 → t8 → t9 → t10 → t11 → t12 → T} (e : ∀ v, g (U12 f v) = U12 h v) : W12 g f = h := funext fun a => u11 fun v => e (a, v)
def Z13 : t0 → t1 → t2 → t3 → t4 → t5 → t6 → t7 → t8 → t9 → t10 → t11 → t12 → Option R := fun _ => Z12
def U13 (f : t0 → t1 → t2 → t3 → t4 → t5 → t6 → t7 → t8 → t9 → t10 → t11 → t12 → R) (v : t0 × t1 × t2 × t3 × t4 × t5 × t6 × t7 × t8 × t9 × t10 × t11 × t12) : R := U12 (f v.1) v.2
def C13 (f : t0 × t1 × t2 × t3 × t4 × t5 × t6 × t7 × t8 × t9 × t10 × t11 × t12 → R) : t0 → t1 → t2 → t3 → t4 → t5 → t6 → t7 → t8 → t9 → t10 → t11 → t12 → R := fun a => C12 fun v => f (a, v)
def W13 (g : R → T) (f : t0 → t1 → t2 → t3 → t4 → t5 → t6 → t7 → t8 → t9 → t10 → t11 → t12 → R) : t0 → t1 → t2 → t3 → t4 → t5 → t6 → t7 → t8 → t9 → t10 → t11 → t12 → T := fun a => W12 g (f a)
theorem u13 {g : R → T} {f : t0 → t1 → t2 → t3 → t4 → t5 → t6 → t7 → t8 → t9 → t10 → t11 → t12 → R} {h : t0 → t1 → t2 → t3 → t4 → t5 → t6 → t7 → t8 → t9 → t10 → t11 → t12 → T} (e : ∀ v, g (U13 f v) = U13 h v) : W13 g f = h := funext fun a => u12 fun v => e (a, v)
end
def tq.f (l0 : List Int) : Option (Bool) := some (decide (4096 < (l0.length : Int)))
def S28 (k : Nat) : bD := ⟨[sU], [sB], tq.f⟩
def E28 (k : Nat) : En := ⟨tb, bn [], aX [], k, 0, aX [], []⟩
theorem M28 (k) : bf Try.prog 28 (S28 k) := mo Try.func28 on fun x => (by kernel_rfl : cc (E28 k) (S28 k) Try.f28 x = (S28 k).fn x)
def ak.f (a0 : (List Int) × Int × Int) (a1 : Int) : Option (Int × ((List Int) × Int × Int)) := if a1 < 1 then (some (0, a0.1, a0.2.1, a0.2.2)) else (if a0.2.1 < (a0.1.length : Int) then (if 0 ≤ a0.2.1 then (if a0.2.1 < (a0.1.length : Int) then (if a1 = 0 then none else (some ((Int.tmod (wrap64 ((wrap64 ((bE .u64 (cp .u64 (IntKind.wrap .u64 ((IntKind.wrap .u64 (a0.2.2 * 6364136223846793005)) + 1442695040888963407)) 33) 16777215))) + (wrap64 ((rd a0.1 a0.2.1))))) a1), a0.1, (wrap64 (a0.2.1 + 1)), (IntKind.wrap .u64 ((IntKind.wrap .u64 (a0.2.2 * 6364136223846793005)) + 1442695040888963407))))) else none) else none) else (if a1 = 0 then none else (some ((Int.tmod (wrap64 ((bE .u64 (cp .u64 (IntKind.wrap .u64 ((IntKind.wrap .u64 (a0.2.2 * 6364136223846793005)) + 1442695040888963407)) 33) 16777215))) a1), a0.1, a0.2.1, (IntKind.wrap .u64 ((IntKind.wrap .u64 (a0.2.2 * 6364136223846793005)) + 1442695040888963407))))))
def qN (k : Nat) : bD := ⟨[sC, sI], [sI], U2 ak.f⟩
def PT (k : Nat) : En := ⟨tb, bn [], aX [], k, 1, aX [], []⟩
theorem uH (k) : bf Try.prog 147 (qN k) := mo Try.func147 on fun x => (by kernel_rfl : cc (PT k) (qN k) Try.f147 x = (qN k).fn x)
abbrev AN := Option (((List Int) × Int × Int))
abbrev r5 (R : Type) := (List Int) → (List Int) → Int → Int → Int → R
def bC.s0 (k : Nat) (r0 : r5 AN) : r5 AN := fun x0 x3_0 x3_1 x3_2 x4 => if x4 < x0.length then (if x4 < 4096 then (if 0 ≤ x4 then (if x4 < x0.length then (r0 x0 x3_0 x3_1 (IntKind.wrap .u64 ((IntKind.wrap .u64 ((IntKind.wrap .u64 (x3_2 * 1099511628211)) + (IntKind.wrap .u64 ((rd x0 x4))))) + 241)) (wrap64 (x4 + 1))) else none) else none) else (some (x3_0, x3_1, x3_2))) else (some (x3_0, x3_1, x3_2))
def bC.l0 (k : Nat) : Nat → r5 AN
 | 0 => Z5
 | n + 1 => bC.s0 k (bC.l0 k n)
def bC.g (k : Nat) (r0 : r5 AN) (l0 : List Int) : Option (((List Int) × Int × Int)) := r0 l0 l0 0 (IntKind.wrap .u64 (14041 + (IntKind.wrap .u64 ((l0.length : Int))))) 0
def bC.f (k : Nat) (l0 : List Int) : Option (((List Int) × Int × Int)) := bC.g k (bC.l0 k k) l0
def Bh (k : Nat) : bD := ⟨[sU], [sC], bC.f k⟩
def IB (k : Nat) : En := ⟨tb, bn [], aX [(0, lz [0, 3, 4])], k, 0, aX [], []⟩
def xJ : r5 St := fun x0 x3_0 x3_1 x3_2 x4 => ⟨38, bX [(0, aU x0), (3, .box 0 0), (4, aI x4)], Go.V.look [(0, .cells [aU x3_0, aI x3_1, aQ x3_2])]⟩
def Cg : List Bool := [t', t', f', t', f']
def NT (k : Nat) (p : List Bool) (r : List (St → AN)) : Nat → St → AN := cC (IB k) (Bh k) Try.f135 p r
theorem MW (k) (rec : St → AN) (v) : bJ (IB k) (Bh k) Try.f135 Cg [] rec (U5 xJ v) = U5 (bC.s0 k (W5 rec xJ)) v := by kernel_rfl
theorem Me (k) (n) : W5 (NT k Cg [] n) xJ = bC.l0 k n :=
 u5 (lq (IB k) (Bh k) (fun rec => U5 (bC.s0 k (C5 rec))) (fun n => U5 (bC.l0 k n)) (MW k) n)
theorem Of (k) : bf Try.prog 135 (Bh k) := mo Try.func135 on fun x => (show cc (IB k) (Bh k) Try.f135 x = bC.g k (W5 (NT k Cg [] k) xJ) x by kernel_rfl).trans (by rw [Me]; rfl)
def dw.f (l0 : List Int) : Option (List Int) := if 0 + l0.length ≤ 1099511627776 then (some ([] ++ l0)) else none
def E2 (k : Nat) : bD := ⟨[sL], [(false, [.own 2 (.int .i64)])], dw.f⟩
def PK (k : Nat) : En := ⟨tb, bn [], aX [], k, 0, aX [], []⟩
theorem K7 (k) : bf Try.prog 120 (E2 k) := mo Try.func120 on fun x => (by kernel_rfl : cc (PK k) (E2 k) Try.f120 x = (E2 k).fn x)
def di.f (l0_0 : List Int) : Option (Int) := some (l0_0.length : Int)
def Bi (k : Nat) : bD := ⟨[sT], [sI], di.f⟩
def PR (k : Nat) : En := ⟨tb, bn [], aX [], k, 0, aX [], []⟩
theorem Ga (k) : bf Try.prog 142 (Bi k) := mo Try.func142 on fun x => (by kernel_rfl : cc (PR k) (Bi k) Try.f142 x = (Bi k).fn x)
def bT.f (a0 : (List Int) × Int × Int) (l1 : List Int) : Option (Int × ((List Int) × Int × Int)) := (ak.f (a0.1, a0.2.1, a0.2.2) (l1.length : Int)).bind fun t1 => if 0 ≤ t1.1 then (if t1.1 < (l1.length : Int) then (some ((rd l1 t1.1), t1.2.1, t1.2.2.1, t1.2.2.2)) else none) else none
def uR (k : Nat) : bD := ⟨[sC, sL], [sI], U2 bT.f⟩
def PN (k : Nat) : En := ⟨tb, bn [(147, qN k)], aX [], k, 1, aX [], []⟩
theorem yT (k) : bf Try.prog 136 (uR k) := mo Try.func136 (oc (uH k) on) fun x => (by kernel_rfl : cc (PN k) (uR k) Try.f136 x = (uR k).fn x)
abbrev A9 := Option ((List Int) × ((List Int) × Int × Int))
abbrev sF (R : Type) := (List Int) → Int → Int → Int → (List Int) → Int → Int → R
def bc.s0 (k : Nat) (r0 : sF A9) : sF A9 := fun x0_0 x0_1 x0_2 x1 x5 x6 x7 => if 0 < x7 then ((ak.f (x0_0, x0_1, x0_2) x1).bind fun t4 => (ak.f (t4.2.1, t4.2.2.1, t4.2.2.2) (wrap64 (x6 + 3))).bind fun t5 => if t5.1 = 0 then (if x5.length + 1 ≤ 1099511627776 then (r0 t5.2.1 t5.2.2.1 t5.2.2.2 x1 (x5 ++ [(-1)]) x6 (wrap64 (x7 - 1))) else none) else (if x5.length + 1 ≤ 1099511627776 then (r0 t5.2.1 t5.2.2.1 t5.2.2.2 x1 (x5 ++ [t4.1]) x6 (wrap64 (x7 - 1))) else none)) else (some (x5, x0_0, x0_1, x0_2))
def bc.l0 (k : Nat) : Nat → sF A9
 | 0 => Z7
 | n + 1 => bc.s0 k (bc.l0 k n)
def bc.g (k : Nat) (r0 : sF A9) (a0 : (List Int) × Int × Int) (a1 : Int) : Option ((List Int) × ((List Int) × Int × Int)) := (bT.f (a0.1, a0.2.1, a0.2.2) [1, 4, 20]).bind fun t1 => (bT.f (t1.2.1, t1.2.2.1, t1.2.2.2) [6, 12, 40, 120]).bind fun t2 => (ak.f (t2.2.1, t2.2.2.1, t2.2.2.2) t2.1).bind fun t3 => r0 t3.2.1 t3.2.2.1 t3.2.2.2 a1 [] t1.1 (wrap64 (1 + t3.1))
def bc.f (k : Nat) (a0 : (List Int) × Int × Int) (a1 : Int) : Option ((List Int) × ((List Int) × Int × Int)) := bc.g k (bc.l0 k k) a0 a1
def Fe (k : Nat) : bD := ⟨[sC, sI], [(false, [.own 2 (.int .i64)])], U2 (bc.f k)⟩
def IS (k : Nat) : En := ⟨tb, bn [(136, uR k), (147, qN k)], aX [(0, lz [0, 1, 5, 6, 7])], k, 1, aX [], []⟩
def yh : sF St := fun x0_0 x0_1 x0_2 x1 x5 x6 x7 => ⟨36, bX [(0, .box 0 0), (1, aI x1), (5, .own 1), (6, aI x6), (7, aI x7)], Go.V.look [(0, .cells [aU x0_0, aI x0_1, aQ x0_2]), (1, .flat 2 (.int .i64) x5)]⟩
def CK : List Bool := [t', t', f', t', f']
def N8 (k : Nat) (p : List Bool) (r : List (St → A9)) : Nat → St → A9 := cC (IS k) (Fe k) Try.f243 p r
theorem Nq (k) (rec : St → A9) (v) : bJ (IS k) (Fe k) Try.f243 CK [] rec (U7 yh v) = U7 (bc.s0 k (W7 rec yh)) v := by kernel_rfl
theorem MH (k) (n) : W7 (N8 k CK [] n) yh = bc.l0 k n :=
 u7 (lq (IS k) (Fe k) (fun rec => U7 (bc.s0 k (C7 rec))) (fun n => U7 (bc.l0 k n)) (Nq k) n)
theorem QR (k) : bf Try.prog 243 (Fe k) := mo Try.func243 (oc (yT k) (oc (uH k) on)) fun x => (show cc (IS k) (Fe k) Try.f243 x = bc.g k (W7 (N8 k CK [] k) yh) x.1 x.2 by kernel_rfl).trans (by rw [MH]; rfl)
abbrev AZ := Option (List Int)
abbrev sv (R : Type) := (List Int) → Int → (List Int) → Int → Int → Int → R
def bd.s0 (k : Nat) (r0 : sv AZ) : sv AZ := fun x0 x1 x5 x6 x7 x8 => if x8 < x0.length then (if 0 ≤ x8 then (if x8 < x0.length then (if (rd x0 x8) = x1 then (if x6 < 0 then (r0 x0 x1 x5 x8 x8 (wrap64 (x8 + 1))) else (if x5.length + 1 ≤ 1099511627776 then (r0 x0 x1 (x5 ++ [(wrap64 (x8 - x7))]) x6 x8 (wrap64 (x8 + 1))) else none)) else (r0 x0 x1 x5 x6 x7 (wrap64 (x8 + 1)))) else none) else none) else (if 0 ≤ x6 then (if x5.length + 1 ≤ 1099511627776 then (some (x5 ++ [(wrap64 ((wrap64 ((x0.length : Int) - x7)) + x6))])) else none) else (some x5))
def bd.l0 (k : Nat) : Nat → sv AZ
 | 0 => Z6
 | n + 1 => bd.s0 k (bd.l0 k n)
def bd.g (k : Nat) (r0 : sv AZ) (l0 : List Int) (a1 : Int) : Option (List Int) := r0 l0 a1 [] (-1) (-1) 0
def bd.f (k : Nat) (l0 : List Int) (a1 : Int) : Option (List Int) := bd.g k (bd.l0 k k) l0 a1
def Fa (k : Nat) : bD := ⟨[sL, sI], [(false, [.own 2 (.int .i64)])], U2 (bd.f k)⟩
def IM (k : Nat) : En := ⟨tb, bn [], aX [(0, lz [0, 1, 5, 6, 7, 8])], k, 0, aX [], []⟩
def yb : sv St := fun x0 x1 x5 x6 x7 x8 => ⟨44, bX [(0, aL x0), (1, aI x1), (5, .own 0), (6, aI x6), (7, aI x7), (8, aI x8)], Go.V.look [(0, .flat 2 (.int .i64) x5)]⟩
def CE : List Bool := [t', t', f', t', f']
def N4 (k : Nat) (p : List Bool) (r : List (St → AZ)) : Nat → St → AZ := cC (IM k) (Fa k) Try.f222 p r
theorem Nk (k) (rec : St → AZ) (v) : bJ (IM k) (Fa k) Try.f222 CE [] rec (U6 yb v) = U6 (bd.s0 k (W6 rec yb)) v := by kernel_rfl
theorem MB (k) (n) : W6 (N4 k CE [] n) yb = bd.l0 k n :=
 u6 (lq (IM k) (Fa k) (fun rec => U6 (bd.s0 k (C6 rec))) (fun n => U6 (bd.l0 k n)) (Nk k) n)
theorem QF (k) : bf Try.prog 222 (Fa k) := mo Try.func222 on fun x => (show cc (IM k) (Fa k) Try.f222 x = bd.g k (W6 (N4 k CE [] k) yb) x.1 x.2 by kernel_rfl).trans (by rw [MB]; rfl)
abbrev AQ := Option (Int)
abbrev sb (R : Type) := (List Int) → Int → Int → R
def aJ.s0 (k : Nat) (r0 : sb AQ) : sb AQ := fun x5 x6 x7 => if x7 < x5.length then (if 0 ≤ x7 then (if x7 < x5.length then (r0 x5 (jI x6 (rd x5 x7)) (wrap64 (x7 + 1))) else none) else none) else (some x6)
def aJ.l0 (k : Nat) : Nat → sb AQ
 | 0 => Z3
 | n + 1 => aJ.s0 k (aJ.l0 k n)
def aJ.g (k : Nat) (r0 : sb AQ) (l0 : List Int) (a1 : Int) : Option (Int) := (bd.f k l0 a1).bind fun t1 => r0 t1 0 0
def aJ.f (k : Nat) (l0 : List Int) (a1 : Int) : Option (Int) := aJ.g k (aJ.l0 k k) l0 a1
def Bk (k : Nat) : bD := ⟨[sL, sI], [sI], U2 (aJ.f k)⟩
def IE (k : Nat) : En := ⟨tb, bn [(222, Fa k)], aX [(0, lz [5, 6, 7])], k, 0, aX [], []⟩
def xM : sb St := fun x5 x6 x7 => ⟨24, bX [(5, .own 0), (6, aI x6), (7, aI x7)], Go.V.look [(0, .flat 2 (.int .i64) x5)]⟩
def Ck : List Bool := [t', t', f', t', f']
def NW (k : Nat) (p : List Bool) (r : List (St → AQ)) : Nat → St → AQ := cC (IE k) (Bk k) Try.f189 p r
theorem MZ (k) (rec : St → AQ) (v) : bJ (IE k) (Bk k) Try.f189 Ck [] rec (U3 xM v) = U3 (aJ.s0 k (W3 rec xM)) v := by kernel_rfl
theorem Mh (k) (n) : W3 (NW k Ck [] n) xM = aJ.l0 k n :=
 u3 (lq (IE k) (Bk k) (fun rec => U3 (aJ.s0 k (C3 rec))) (fun n => U3 (aJ.l0 k n)) (MZ k) n)
theorem Oi (k) : bf Try.prog 189 (Bk k) := mo Try.func189 (oc (QF k) on) fun x => (show cc (IE k) (Bk k) Try.f189 x = aJ.g k (W3 (NW k Ck [] k) xM) x.1 x.2 by kernel_rfl).trans (by rw [Mh]; rfl)
abbrev pe := Option ((List Int) × (List Int) × ((List Int) × Int × Int))
abbrev sD (R : Type) := (List Int) → Int → Int → Int → (List Int) → Int → R
abbrev pC (R : Type) := (List Int) → Int → Int → Int → (List Int) → (List Int) → Int → R
def aA.s1 (k : Nat) (r1 : pC pe) : pC pe := fun x0_0 x0_1 x0_2 x4 x5 x7_0 x8 => if x8 < x4 then ((aJ.f k x5 x8).bind fun t5 => if t5 = 0 then ((ak.f (x0_0, x0_1, x0_2) 4).bind fun t6 => if t6.1 = 0 then ((ak.f (t6.2.1, t6.2.2.1, t6.2.2.2) 4).bind fun t7 => if x7_0.length + 1 ≤ 1099511627776 then (r1 t7.2.1 t7.2.2.1 t7.2.2.2 x4 x5 (x7_0 ++ [(jI (zP (wrap64 ((wrap64 (40 + t7.1)) - 1)) 40) 1)]) (wrap64 (x8 + 1))) else none) else (if x7_0.length + 1 ≤ 1099511627776 then (r1 t6.2.1 t6.2.2.1 t6.2.2.2 x4 x5 (x7_0 ++ [(jI (zP 40 40) 1)]) (wrap64 (x8 + 1))) else none)) else ((ak.f (x0_0, x0_1, x0_2) 4).bind fun t8 => if t8.1 = 0 then ((ak.f (t8.2.1, t8.2.2.1, t8.2.2.2) 4).bind fun t9 => if x7_0.length + 1 ≤ 1099511627776 then (r1 t9.2.1 t9.2.2.1 t9.2.2.2 x4 x5 (x7_0 ++ [(jI (zP (wrap64 ((wrap64 (t5 + t9.1)) - 1)) 40) 1)]) (wrap64 (x8 + 1))) else none) else (if x7_0.length + 1 ≤ 1099511627776 then (r1 t8.2.1 t8.2.2.1 t8.2.2.2 x4 x5 (x7_0 ++ [(jI (zP t5 40) 1)]) (wrap64 (x8 + 1))) else none))) else (some (x7_0, x5, x0_0, x0_1, x0_2))
def aA.l1 (k : Nat) : Nat → pC pe
 | 0 => Z7
 | n + 1 => aA.s1 k (aA.l1 k n)
def aA.s0 (k : Nat) (r0 : sD pe) (r1 : pC pe) : sD pe := fun x0_0 x0_1 x0_2 x4 x5 x6 => if x6 < x4 then (if x6 < x5.length then ((aJ.f k x5 x6).bind fun t4 => if t4 = 0 then (if 0 ≤ x6 then (if x6 < x5.length then (r0 x0_0 x0_1 x0_2 x4 (x5.set x6.toNat x6) (wrap64 (x6 + 1))) else none) else none) else (r0 x0_0 x0_1 x0_2 x4 x5 (wrap64 (x6 + 1)))) else (r1 x0_0 x0_1 x0_2 x4 x5 [] 0)) else (r1 x0_0 x0_1 x0_2 x4 x5 [] 0)
def aA.l0 (k : Nat) : Nat → sD pe
 | 0 => Z6
 | n + 1 => aA.s0 k (aA.l0 k n) (aA.l1 k k)
def aA.g (k : Nat) (r0 : sD pe) (a0 : (List Int) × Int × Int) : Option ((List Int) × (List Int) × ((List Int) × Int × Int)) := (bT.f (a0.1, a0.2.1, a0.2.2) [3, 5, 8]).bind fun t1 => (ak.f (t1.2.1, t1.2.2.1, t1.2.2.2) t1.1).bind fun t2 => (bc.f k (t2.2.1, t2.2.2.1, t2.2.2.2) (wrap64 (1 + t2.1))).bind fun t3 => r0 t3.2.1 t3.2.2.1 t3.2.2.2 (wrap64 (1 + t2.1)) t3.1 0
def aA.f (k : Nat) (a0 : (List Int) × Int × Int) : Option ((List Int) × (List Int) × ((List Int) × Int × Int)) := aA.g k (aA.l0 k k) a0
def y3 (k : Nat) : bD := ⟨[sC], [(true, [.own 2 (.int .i64)]), (false, [.own 2 (.int .i64)])], aA.f k⟩
def EO (k : Nat) : En := ⟨tb, bn [(136, uR k), (147, qN k), (243, Fe k), (189, Bk k)], aX [(0, lz [0, 2, 4, 5, 6]), (2, lz [0, 2, 4, 5, 7, 8])], k, 1, aX [], []⟩
def ye : sD St := fun x0_0 x0_1 x0_2 x4 x5 x6 => ⟨68, bX [(0, .box 0 0), (2, .box 1 0), (4, aI x4), (5, .own 2), (6, aI x6)], Go.V.look [(0, .cells [aU x0_0, aI x0_1, aQ x0_2]), (1, .cells [.nil]), (2, .flat 2 (.int .i64) x5)]⟩
def CH : List Bool := [t', t', t', f', t', f']
def yf : pC St := fun x0_0 x0_1 x0_2 x4 x5 x7_0 x8 => ⟨68, bX [(0, .box 0 0), (2, .box 1 0), (4, aI x4), (5, .own 2), (7, .box 3 0), (8, aI x8)], Go.V.look [(0, .cells [aU x0_0, aI x0_1, aQ x0_2]), (1, .cells [.nil]), (2, .flat 2 (.int .i64) x5), (3, .cells [.own 4]), (4, .flat 2 (.int .i64) x7_0)]⟩
def CI : List Bool := [t', t', t', t', t', f', t', f']
def IY (k : Nat) (p : List Bool) (r : List (St → pe)) : Nat → St → pe := cC (EO k) (y3 k) Try.f241 p r
theorem No (k) (rec : St → pe) (v) : bJ (EO k) (y3 k) Try.f241 CI [] rec (U7 yf v) = U7 (aA.s1 k (W7 rec yf)) v := by kernel_rfl
theorem MF (k) (n) : W7 (IY k CI [] n) yf = aA.l1 k n :=
 u7 (lq (EO k) (y3 k) (fun rec => U7 (aA.s1 k (C7 rec))) (fun n => U7 (aA.l1 k n)) (No k) n)
theorem Nn (k) (rec : St → pe) (G1 : pC pe) (h1 : W7 (IY k CI [] k) yf = G1) (v) : bJ (EO k) (y3 k) Try.f241 CH [] rec (U6 ye v) = U6 (aA.s0 k (W6 rec ye) G1) v := by
 subst h1
 kernel_rfl
theorem ME (k) (n) : W6 (IY k CH [] n) ye = aA.l0 k n :=
 u6 (lq (EO k) (y3 k) (fun rec => U6 (aA.s0 k (C6 rec) (aA.l1 k k))) (fun n => U6 (aA.l0 k n)) (fun rec v => Nn k rec _ (MF k k) v) n)
theorem QP (k) : bf Try.prog 241 (y3 k) := mo Try.func241 (oc (yT k) (oc (uH k) (oc (QR k) (oc (Oi k) on)))) fun x => (show cc (EO k) (y3 k) Try.f241 x = aA.g k (W6 (IY k CH [] k) ye) x by kernel_rfl).trans (by rw [ME]; rfl)
abbrev A8 := Option ((List Int) × ((List Int) × Int × Int))
abbrev sE (R : Type) := (List Int) → Int → Int → Int → (List Int) → Int → R
def bz.s0 (k : Nat) (r0 : sE A8) : sE A8 := fun x0_0 x0_1 x0_2 x1 x5_0 x6 => if x6 < x1 then ((bT.f (x0_0, x0_1, x0_2) [4, 8, 12, 40]).bind fun t1 => (ak.f (t1.2.1, t1.2.2.1, t1.2.2.2) t1.1).bind fun t2 => if x5_0.length + 1 ≤ 1099511627776 then (r0 t2.2.1 t2.2.2.1 t2.2.2.2 x1 (x5_0 ++ [(wrap64 (1 + t2.1))]) (wrap64 (x6 + 1))) else none) else (some (x5_0, x0_0, x0_1, x0_2))
def bz.l0 (k : Nat) : Nat → sE A8
 | 0 => Z6
 | n + 1 => bz.s0 k (bz.l0 k n)
def bz.g (k : Nat) (r0 : sE A8) (a0 : (List Int) × Int × Int) (a1 : Int) : Option ((List Int) × ((List Int) × Int × Int)) := r0 a0.1 a0.2.1 a0.2.2 a1 [] 0
def bz.f (k : Nat) (a0 : (List Int) × Int × Int) (a1 : Int) : Option ((List Int) × ((List Int) × Int × Int)) := bz.g k (bz.l0 k k) a0 a1
def Fc (k : Nat) : bD := ⟨[sC, sI], [(true, [.own 2 (.int .i64)])], U2 (bz.f k)⟩
def IQ (k : Nat) : En := ⟨tb, bn [(136, uR k), (147, qN k)], aX [(0, lz [0, 1, 4, 5, 6])], k, 1, aX [], [1074069504, 1074070720]⟩
def yg : sE St := fun x0_0 x0_1 x0_2 x1 x5_0 x6 => ⟨26, bX [(0, .box 0 0), (1, aI x1), (4, .box 1 0), (5, .box 2 0), (6, aI x6)], Go.V.look [(0, .cells [aU x0_0, aI x0_1, aQ x0_2]), (1, .cells [.nil]), (2, .cells [.own 3]), (3, .flat 2 (.int .i64) x5_0)]⟩
def CJ : List Bool := [t', t', f', t', f']
def N7 (k : Nat) (p : List Bool) (r : List (St → A8)) : Nat → St → A8 := cC (IQ k) (Fc k) Try.f242 p r
theorem Np (k) (rec : St → A8) (v) : bJ (IQ k) (Fc k) Try.f242 CJ [] rec (U6 yg v) = U6 (bz.s0 k (W6 rec yg)) v := by kernel_rfl
theorem MG (k) (n) : W6 (N7 k CJ [] n) yg = bz.l0 k n :=
 u6 (lq (IQ k) (Fc k) (fun rec => U6 (bz.s0 k (C6 rec))) (fun n => U6 (bz.l0 k n)) (Np k) n)
theorem QQ (k) : bf Try.prog 242 (Fc k) := mo Try.func242 (oc (yT k) (oc (uH k) on)) fun x => (show cc (IQ k) (Fc k) Try.f242 x = bz.g k (W6 (N7 k CJ [] k) yg) x.1 x.2 by kernel_rfl).trans (by rw [MG]; rfl)
def gH.f (k : Nat) (a0 : (List Int) × Int × Int) : Option ((List Int) × ((List Int) × Int × Int)) := (ak.f (a0.1, a0.2.1, a0.2.2) 2).bind fun t1 => if t1.1 = 0 then ((aA.f k (t1.2.1, t1.2.2.1, t1.2.2.2)).bind fun t2 => some (t2.1, t2.2.2.1, t2.2.2.2.1, t2.2.2.2.2)) else ((bT.f (t1.2.1, t1.2.2.1, t1.2.2.2) [3, 5, 8]).bind fun t3 => (ak.f (t3.2.1, t3.2.2.1, t3.2.2.2) t3.1).bind fun t4 => (bz.f k (t4.2.1, t4.2.2.1, t4.2.2.2) (wrap64 (1 + t4.1))).bind fun t5 => some (t5.1, t5.2.1, t5.2.2.1, t5.2.2.2))
def Jk (k : Nat) : bD := ⟨[sC], [(true, [.own 2 (.int .i64)])], gH.f k⟩
def Qa (k : Nat) : En := ⟨tb, bn [(147, qN k), (241, y3 k), (136, uR k), (242, Fc k)], aX [], k, 1, aX [], []⟩
theorem QM (k) : bf Try.prog 234 (Jk k) := mo Try.func234 (oc (uH k) (oc (QP k) (oc (yT k) (oc (QQ k) on)))) fun x => (by kernel_rfl : cc (Qa k) (Jk k) Try.f234 x = (Jk k).fn x)
def dN.f (k : Nat) (a0 : (List Int) × Int × Int) : Option ((List Int) × ((List Int) × Int × Int)) := (ak.f (a0.1, a0.2.1, a0.2.2) 16).bind fun t1 => if 0 ≤ t1.1 then (if t1.1 < 16 then ((dw.f (cP ([] : List Int) [[1], [2, 2], [2, 3], [2, 4, 4], [3, 3, 3], [2, 3, 6], [3, 4, 4], [3, 4, 5], [2, 5, 6], [4, 4, 4, 4], [3, 4, 6, 6], [2, 4, 8, 8], [1, 2], [3, 5, 5, 5], [4, 5, 5, 5], [2, 6, 7]] t1.1)).bind fun t2 => (ak.f (t1.2.1, t1.2.2.1, t1.2.2.2) 4).bind fun t3 => if t3.1 = 0 then ((di.f t2).bind fun t4 => (ak.f (t3.2.1, t3.2.2.1, t3.2.2.2) t4).bind fun t5 => if 0 ≤ t5.1 then (if t5.1 < (t2.length : Int) then ((ak.f (t5.2.1, t5.2.2.1, t5.2.2.2) 3).bind fun t6 => if 0 ≤ t5.1 then (if t5.1 < (t2.length : Int) then ((ak.f (t6.2.1, t6.2.2.1, t6.2.2.2) 24).bind fun t7 => if t7.1 = 0 then ((gH.f k (t7.2.1, t7.2.2.1, t7.2.2.2)).bind fun t8 => some (t8.1, t8.2.1, t8.2.2.1, t8.2.2.2)) else (some ((t2.set t5.1.toNat (jI (wrap64 ((wrap64 ((rd t2 t5.1) + t6.1)) - 1)) 1)), t7.2.1, t7.2.2.1, t7.2.2.2))) else none) else none) else none) else none) else ((ak.f (t3.2.1, t3.2.2.1, t3.2.2.2) 24).bind fun t9 => if t9.1 = 0 then ((gH.f k (t9.2.1, t9.2.2.1, t9.2.2.2)).bind fun t10 => some (t10.1, t10.2.1, t10.2.2.1, t10.2.2.2)) else (some (t2, t9.2.1, t9.2.2.1, t9.2.2.2)))) else none) else none
def Lh (k : Nat) : bD := ⟨[sC], [(true, [.own 2 (.int .i64)])], dN.f k⟩
def P2 (k : Nat) : En := ⟨tb, bn [(147, qN k), (120, E2 k), (142, Bi k), (234, Jk k)], aX [], k, 1, aX [], [1074135040]⟩
theorem QC (k) : bf Try.prog 213 (Lh k) := mo Try.func213 (oc (uH k) (oc (K7 k) (oc (Ga k) (oc (QM k) on)))) fun x => (by kernel_rfl : cc (P2 k) (Lh k) Try.f213 x = (Lh k).fn x)
def bq.f (a0 : Int) (a1 : Int) (a2 : Int) : Option (Bool) := if a1 ≤ a0 then (some (decide (a0 ≤ a2))) else (some false)
def wN (k : Nat) : bD := ⟨[sI, sI, sI], [sB], U3 bq.f⟩
def PE (k : Nat) : En := ⟨tb, bn [], aX [], k, 0, aX [], []⟩
theorem ET (k) : bf Try.prog 102 (wN k) := mo Try.func102 on fun x => (by kernel_rfl : cc (PE k) (wN k) Try.f102 x = (wN k).fn x)
abbrev AO := Option (Bool)
abbrev r9 (R : Type) := (List Int) → Int → R
def ca.s0 (k : Nat) (r0 : r9 AO) : r9 AO := fun x1_0 x3 => if x3 < x1_0.length then (if 0 ≤ x3 then (if x3 < x1_0.length then ((bq.f (rd x1_0 x3) 1 40).bind fun t1 => if t1 = true then (r0 x1_0 (wrap64 (x3 + 1))) else (some false)) else none) else none) else ((di.f x1_0).bind fun t2 => (bq.f t2 1 8).bind fun t3 => some t3)
def ca.l0 (k : Nat) : Nat → r9 AO
 | 0 => Z2
 | n + 1 => ca.s0 k (ca.l0 k n)
def ca.g (k : Nat) (r0 : r9 AO) (l0_0 : List Int) : Option (Bool) := r0 l0_0 0
def ca.f (k : Nat) (l0_0 : List Int) : Option (Bool) := ca.g k (ca.l0 k k) l0_0
def yX (k : Nat) : bD := ⟨[sT], [sB], ca.f k⟩
def IC (k : Nat) : En := ⟨tb, bn [(102, wN k), (142, Bi k)], aX [(0, lz [1, 3])], k, 0, aX [], []⟩
def xK : r9 St := fun x1_0 x3 => ⟨21, bX [(1, .box 0 0), (3, aI x3)], Go.V.look [(0, .cells [aL x1_0])]⟩
def Ci : List Bool := [t', f', t', f']
def NU (k : Nat) (p : List Bool) (r : List (St → AO)) : Nat → St → AO := cC (IC k) (yX k) Try.f144 p r
theorem MX (k) (rec : St → AO) (v) : bJ (IC k) (yX k) Try.f144 Ci [] rec (U2 xK v) = U2 (ca.s0 k (W2 rec xK)) v := by kernel_rfl
theorem Mf (k) (n) : W2 (NU k Ci [] n) xK = ca.l0 k n :=
 u2 (lq (IC k) (yX k) (fun rec => U2 (ca.s0 k (C2 rec))) (fun n => U2 (ca.l0 k n)) (MX k) n)
theorem K8 (k) : bf Try.prog 144 (yX k) := mo Try.func144 (oc (ET k) (oc (Ga k) on)) fun x => (show cc (IC k) (yX k) Try.f144 x = ca.g k (W2 (NU k Ci [] k) xK) x by kernel_rfl).trans (by rw [Mf]; rfl)
abbrev AE := Option (Int)
abbrev rR (R : Type) := (List Int) → Int → Int → R
def bF.s0 (k : Nat) (r0 : rR AE) : rR AE := fun x1_0 x3 x4 => if x4 < x1_0.length then (if 0 ≤ x4 then (if x4 < x1_0.length then (r0 x1_0 (wrap64 (x3 * (rd x1_0 x4))) (wrap64 (x4 + 1))) else none) else none) else (some x3)
def bF.l0 (k : Nat) : Nat → rR AE
 | 0 => Z3
 | n + 1 => bF.s0 k (bF.l0 k n)
def bF.g (k : Nat) (r0 : rR AE) (l0_0 : List Int) : Option (Int) := r0 l0_0 1 0
def bF.f (k : Nat) (l0_0 : List Int) : Option (Int) := bF.g k (bF.l0 k k) l0_0
def Bb (k : Nat) : bD := ⟨[sT], [sI], bF.f k⟩
def It (k : Nat) : En := ⟨tb, bn [], aX [(0, lz [1, 3, 4])], k, 0, aX [], []⟩
def xz : rR St := fun x1_0 x3 x4 => ⟨20, bX [(1, .box 0 0), (3, aI x3), (4, aI x4)], Go.V.look [(0, .cells [aL x1_0])]⟩
def B5 : List Bool := [t', t', f', t', f']
def NL (k : Nat) (p : List Bool) (r : List (St → AE)) : Nat → St → AE := cC (It k) (Bb k) Try.f113 p r
theorem ML (k) (rec : St → AE) (v) : bJ (It k) (Bb k) Try.f113 B5 [] rec (U3 xz v) = U3 (bF.s0 k (W3 rec xz)) v := by kernel_rfl
theorem L3 (k) (n) : W3 (NL k B5 [] n) xz = bF.l0 k n :=
 u3 (lq (It k) (Bb k) (fun rec => U3 (bF.s0 k (C3 rec))) (fun n => U3 (bF.l0 k n)) (ML k) n)
theorem N9 (k) : bf Try.prog 113 (Bb k) := mo Try.func113 on fun x => (show cc (It k) (Bb k) Try.f113 x = bF.g k (W3 (NL k B5 [] k) xz) x by kernel_rfl).trans (by rw [L3]; rfl)
def gq.f (k : Nat) (l0_0 : List Int) : Option (Int) := (ca.f k l0_0).bind fun t1 => if (!decide (t1 = true)) = true then (some 1) else ((bF.f k l0_0).bind fun t2 => if (decide (4000 < t2)) = true then (some 3) else (some 0))
def I9 (k : Nat) : bD := ⟨[sT], [sI], gq.f k⟩
def PS (k : Nat) : En := ⟨tb, bn [(144, yX k), (113, Bb k)], aX [], k, 0, aX [], []⟩
theorem Oh (k) : bf Try.prog 146 (I9 k) := mo Try.func146 (oc (K8 k) (oc (N9 k) on)) fun x => (by kernel_rfl : cc (PS k) (I9 k) Try.f146 x = (I9 k).fn x)
def iW.f (k : Nat) (l0_0 : List Int) (a1 : Int) : Option (Int) := (ca.f k l0_0).bind fun t1 => if (!decide (t1 = true)) = true then (some 1) else ((bq.f a1 1 4).bind fun t2 => if (!decide (t2 = true)) = true then (some 2) else ((gq.f k l0_0).bind fun t3 => some t3))
def I4 (k : Nat) : bD := ⟨[sT, sI], [sI], U2 (iW.f k)⟩
def PG (k : Nat) : En := ⟨tb, bn [(144, yX k), (102, wN k), (146, I9 k)], aX [], k, 0, aX [], []⟩
theorem Qh (k) : bf Try.prog 111 (I4 k) := mo Try.func111 (oc (K8 k) (oc (ET k) (oc (Oh k) on))) fun x => (by kernel_rfl : cc (PG k) (I4 k) Try.f111 x = (I4 k).fn x)
abbrev AX := Option (Int)
abbrev ss (R : Type) := Int → Int → R
def aN.s0 (k : Nat) (r0 : ss AX) : ss AX := fun x0 x3 => if 0 < x0 then (r0 (bE .i64 x0 (wrap64 (x0 - 1))) (wrap64 (x3 + 1))) else (some x3)
def aN.l0 (k : Nat) : Nat → ss AX
 | 0 => Z2
 | n + 1 => aN.s0 k (aN.l0 k n)
def aN.g (k : Nat) (r0 : ss AX) (a0 : Int) : Option (Int) := r0 a0 0
def aN.f (k : Nat) (a0 : Int) : Option (Int) := aN.g k (aN.l0 k k) a0
def E8 (k : Nat) : bD := ⟨[sI], [sI], aN.f k⟩
def IK (k : Nat) : En := ⟨tb, bn [], aX [(0, lz [0, 3])], k, 0, aX [], []⟩
def xZ : ss St := fun x0 x3 => ⟨13, bX [(0, aI x0), (3, aI x3)], Go.V.look []⟩
def CC : List Bool := [t', t', f', f']
def N2 (k : Nat) (p : List Bool) (r : List (St → AX)) : Nat → St → AX := cC (IK k) (E8 k) Try.f211 p r
theorem Ni (k) (rec : St → AX) (v) : bJ (IK k) (E8 k) Try.f211 CC [] rec (U2 xZ v) = U2 (aN.s0 k (W2 rec xZ)) v := by kernel_rfl
theorem Mz (k) (n) : W2 (N2 k CC [] n) xZ = aN.l0 k n :=
 u2 (lq (IK k) (E8 k) (fun rec => U2 (aN.s0 k (C2 rec))) (fun n => U2 (aN.l0 k n)) (Ni k) n)
theorem QA (k) : bf Try.prog 211 (E8 k) := mo Try.func211 on fun x => (show cc (IK k) (E8 k) Try.f211 x = aN.g k (W2 (N2 k CC [] k) xZ) x by kernel_rfl).trans (by rw [Mz]; rfl)
abbrev AF := Option (List Int)
abbrev rT (R : Type) := Int → (List Int) → (List Int) → Int → R
def bP.s0 (k : Nat) (r0 : rT AF) : rT AF := fun x1 x2_0 x5 x6 => if (IntKind.wrap .u64 ((x2_0.length : Int))) < 0 then none else (if x6 < (FZ .i64 1 (IntKind.wrap .u64 ((x2_0.length : Int)))) then ((aN.f k x6).bind fun t1 => if t1 ≤ x1 then (if x5.length + 1 ≤ 1099511627776 then (r0 x1 x2_0 (x5 ++ [x6]) (wrap64 (x6 + 1))) else none) else (r0 x1 x2_0 x5 (wrap64 (x6 + 1)))) else (some x5))
def bP.l0 (k : Nat) : Nat → rT AF
 | 0 => Z4
 | n + 1 => bP.s0 k (bP.l0 k n)
def bP.g (k : Nat) (r0 : rT AF) (l0_0 : List Int) (a1 : Int) : Option (List Int) := r0 a1 l0_0 [] 0
def bP.f (k : Nat) (l0_0 : List Int) (a1 : Int) : Option (List Int) := bP.g k (bP.l0 k k) l0_0 a1
def Bc (k : Nat) : bD := ⟨[sT, sI], [(false, [.own 2 (.int .i64)])], U2 (bP.f k)⟩
def Iu (k : Nat) : En := ⟨tb, bn [(211, E8 k)], aX [(0, lz [1, 2, 5, 6])], k, 0, aX [], []⟩
def xC : rT St := fun x1 x2_0 x5 x6 => ⟨26, bX [(1, aI x1), (2, .box 0 0), (5, .own 1), (6, aI x6)], Go.V.look [(0, .cells [aL x2_0]), (1, .flat 2 (.int .i64) x5)]⟩
def B9 : List Bool := [t', t', f', t', f']
def NM (k : Nat) (p : List Bool) (r : List (St → AF)) : Nat → St → AF := cC (Iu k) (Bc k) Try.f119 p r
theorem MP (k) (rec : St → AF) (v) : bJ (Iu k) (Bc k) Try.f119 B9 [] rec (U4 xC v) = U4 (bP.s0 k (W4 rec xC)) v := by kernel_rfl
theorem L7 (k) (n) : W4 (NM k B9 [] n) xC = bP.l0 k n :=
 u4 (lq (Iu k) (Bc k) (fun rec => U4 (bP.s0 k (C4 rec))) (fun n => U4 (bP.l0 k n)) (MP k) n)
theorem Oa (k) : bf Try.prog 119 (Bc k) := mo Try.func119 (oc (QA k) on) fun x => (show cc (Iu k) (Bc k) Try.f119 x = bP.g k (W4 (NM k B9 [] k) xC) x.1 x.2 by kernel_rfl).trans (by rw [L7]; rfl)
abbrev AJ := Option (List Int)
abbrev rW (R : Type) := Int → (List Int) → (List Int) → Int → R
def cf.s0 (k : Nat) (r0 : rW AJ) : rW AJ := fun x1 x2_0 x5 x6 => if 0 ≤ x6 then (if 0 ≤ x6 then (if x6 < x2_0.length then (if (rd x2_0 x6) = 0 then none else (if 0 ≤ x6 then (if x6 < x5.length then (if 0 ≤ x6 then (if x6 < x2_0.length then (if (rd x2_0 x6) = 0 then none else (r0 (wrap64 (Int.tdiv x1 (rd x2_0 x6))) x2_0 (x5.set x6.toNat (wrap64 ((Int.tmod x1 (rd x2_0 x6)) + 1))) (wrap64 (x6 - 1)))) else none) else none) else none) else none)) else none) else none) else (some x5)
def cf.l0 (k : Nat) : Nat → rW AJ
 | 0 => Z4
 | n + 1 => cf.s0 k (cf.l0 k n)
def cf.g (k : Nat) (r0 : rW AJ) (l0_0 : List Int) (a1 : Int) : Option (List Int) := if 0 ≤ (l0_0.length : Int) then (if (l0_0.length : Int) ≤ (l0_0.length : Int) then (if (l0_0.length : Int).toNat ≤ 1099511627776 then (r0 a1 l0_0 (List.replicate (l0_0.length : Int).toNat (0 : Int)) (wrap64 (((List.replicate (l0_0.length : Int).toNat (0 : Int)).length : Int) - 1))) else none) else none) else none
def cf.f (k : Nat) (l0_0 : List Int) (a1 : Int) : Option (List Int) := cf.g k (cf.l0 k k) l0_0 a1
def Bf (k : Nat) : bD := ⟨[sT, sI], [(false, [.own 2 (.int .i64)])], U2 (cf.f k)⟩
def Ix (k : Nat) : En := ⟨tb, bn [], aX [(0, lz [1, 2, 5, 6])], k, 0, aX [], []⟩
def xF : rW St := fun x1 x2_0 x5 x6 => ⟨37, bX [(1, aI x1), (2, .box 0 0), (5, .own 1), (6, aI x6)], Go.V.look [(0, .cells [aL x2_0]), (1, .flat 2 (.int .i64) x5)]⟩
def Cc : List Bool := [t', t', f', t', f']
def NP (k : Nat) (p : List Bool) (r : List (St → AJ)) : Nat → St → AJ := cC (Ix k) (Bf k) Try.f123 p r
theorem MS (k) (rec : St → AJ) (v) : bJ (Ix k) (Bf k) Try.f123 Cc [] rec (U4 xF v) = U4 (cf.s0 k (W4 rec xF)) v := by kernel_rfl
theorem Ma (k) (n) : W4 (NP k Cc [] n) xF = cf.l0 k n :=
 u4 (lq (Ix k) (Bf k) (fun rec => U4 (cf.s0 k (C4 rec))) (fun n => U4 (cf.l0 k n)) (MS k) n)
theorem Od (k) : bf Try.prog 123 (Bf k) := mo Try.func123 on fun x => (show cc (Ix k) (Bf k) Try.f123 x = cf.g k (W4 (NP k Cc [] k) xF) x.1 x.2 by kernel_rfl).trans (by rw [Ma]; rfl)
abbrev AY := Option ((List Int) × Bool)
abbrev su (R : Type) := (List Int) → Int → (List Int) → (List Int) → Int → R
def bU.s0 (k : Nat) (r0 : su AY) : su AY := fun x1 x2 x3_0 x8 x9 => if x9 < x1.length then (if (IntKind.wrap .u64 (x9)) < 0 then none else (if (decide ((bE .i64 (cp .i64 x2 (IntKind.wrap .u64 (x9))) 1) = 1)) = true then (if 0 ≤ x9 then (if x9 < x3_0.length then (if x8.length + 1 ≤ 1099511627776 then (r0 x1 x2 x3_0 (x8 ++ [(rd x3_0 x9)]) (wrap64 (x9 + 1))) else none) else none) else none) else (if 0 ≤ x9 then (if x9 < x1.length then (if (decide ((rd x1 x9) = 1)) = true then (some ([], false)) else (if 0 ≤ x9 then (if x9 < x1.length then (if x8.length + 1 ≤ 1099511627776 then (r0 x1 x2 x3_0 (x8 ++ [(wrap64 ((rd x1 x9) - 1))]) (wrap64 (x9 + 1))) else none) else none) else none)) else none) else none))) else (some (x8, true))
def bU.l0 (k : Nat) : Nat → su AY
 | 0 => Z5
 | n + 1 => bU.s0 k (bU.l0 k n)
def bU.g (k : Nat) (r0 : su AY) (l0_0 : List Int) (l1 : List Int) (a2 : Int) : Option ((List Int) × Bool) := r0 l1 a2 l0_0 [] 0
def bU.f (k : Nat) (l0_0 : List Int) (l1 : List Int) (a2 : Int) : Option ((List Int) × Bool) := bU.g k (bU.l0 k k) l0_0 l1 a2
def E9 (k : Nat) : bD := ⟨[sT, sL, sI], [(false, [.own 2 (.int .i64)]), sB], U3 (bU.f k)⟩
def IL (k : Nat) : En := ⟨tb, bn [], aX [(0, lz [1, 2, 3, 8, 9])], k, 0, aX [], []⟩
def ya : su St := fun x1 x2 x3_0 x8 x9 => ⟨47, bX [(1, aL x1), (2, aI x2), (3, .box 0 0), (8, .own 1), (9, aI x9)], Go.V.look [(0, .cells [aL x3_0]), (1, .flat 2 (.int .i64) x8)]⟩
def CD : List Bool := [t', t', f', t', f']
def N3 (k : Nat) (p : List Bool) (r : List (St → AY)) : Nat → St → AY := cC (IL k) (E9 k) Try.f212 p r
theorem Nj (k) (rec : St → AY) (v) : bJ (IL k) (E9 k) Try.f212 CD [] rec (U5 ya v) = U5 (bU.s0 k (W5 rec ya)) v := by kernel_rfl
theorem MA (k) (n) : W5 (N3 k CD [] n) ya = bU.l0 k n :=
 u5 (lq (IL k) (E9 k) (fun rec => U5 (bU.s0 k (C5 rec))) (fun n => U5 (bU.l0 k n)) (Nj k) n)
theorem QB (k) : bf Try.prog 212 (E9 k) := mo Try.func212 on fun x => (show cc (IL k) (E9 k) Try.f212 x = bU.g k (W5 (N3 k CD [] k) ya) x.1 x.2.1 x.2.2 by kernel_rfl).trans (by rw [MA]; rfl)
abbrev AG := Option (Int)
abbrev rU (R : Type) := (List Int) → (List Int) → Int → Int → R
def br.s0 (k : Nat) (r0 : rU AG) : rU AG := fun x1 x2_0 x5 x6 => if x6 < x1.length then (if 0 ≤ x6 then (if x6 < x2_0.length then (if 0 ≤ x6 then (if x6 < x1.length then (r0 x1 x2_0 (wrap64 ((wrap64 ((wrap64 (x5 * (rd x2_0 x6))) + (rd x1 x6))) - 1)) (wrap64 (x6 + 1))) else none) else none) else none) else none) else (some x5)
def br.l0 (k : Nat) : Nat → rU AG
 | 0 => Z4
 | n + 1 => br.s0 k (br.l0 k n)
def br.g (k : Nat) (r0 : rU AG) (l0_0 : List Int) (l1 : List Int) : Option (Int) := r0 l1 l0_0 0 0
def br.f (k : Nat) (l0_0 : List Int) (l1 : List Int) : Option (Int) := br.g k (br.l0 k k) l0_0 l1
def Bd (k : Nat) : bD := ⟨[sT, sL], [sI], U2 (br.f k)⟩
def Iv (k : Nat) : En := ⟨tb, bn [], aX [(0, lz [1, 2, 5, 6])], k, 0, aX [], []⟩
def xD : rU St := fun x1 x2_0 x5 x6 => ⟨27, bX [(1, aL x1), (2, .box 0 0), (5, aI x5), (6, aI x6)], Go.V.look [(0, .cells [aL x2_0])]⟩
def Ca : List Bool := [t', t', f', t', f']
def NN (k : Nat) (p : List Bool) (r : List (St → AG)) : Nat → St → AG := cC (Iv k) (Bd k) Try.f121 p r
theorem MQ (k) (rec : St → AG) (v) : bJ (Iv k) (Bd k) Try.f121 Ca [] rec (U4 xD v) = U4 (br.s0 k (W4 rec xD)) v := by kernel_rfl
theorem L8 (k) (n) : W4 (NN k Ca [] n) xD = br.l0 k n :=
 u4 (lq (Iv k) (Bd k) (fun rec => U4 (br.s0 k (C4 rec))) (fun n => U4 (br.l0 k n)) (MQ k) n)
theorem Ob (k) : bf Try.prog 121 (Bd k) := mo Try.func121 on fun x => (show cc (Iv k) (Bd k) Try.f121 x = br.g k (W4 (NN k Ca [] k) xD) x.1 x.2 by kernel_rfl).trans (by rw [L8]; rfl)
abbrev AH := Option (Int × Int × Bool)
abbrev rV (R : Type) := (List Int) → (List Bool) → (List Int) → (List Int) → Int → R
def bG.s0 (k : Nat) (r0 : rV AH) : rV AH := fun x1 x2 x3 x4_0 x11 => if x11 < x1.length then (if 0 ≤ x11 then (if x11 < x1.length then ((bU.f k x4_0 x3 (rd x1 x11)).bind fun t1 => if t1.2 = true then ((br.f k x4_0 t1.1).bind fun t2 => if 0 ≤ t2 then (if t2 < (x2.length : Int) then (if (cP false x2 t2) = true then (if 0 ≤ x11 then (if x11 < x1.length then (some ((rd x1 x11), t2, true)) else none) else none) else (r0 x1 x2 x3 x4_0 (wrap64 (x11 + 1)))) else none) else none) else (r0 x1 x2 x3 x4_0 (wrap64 (x11 + 1)))) else none) else none) else (some (0, 0, false))
def bG.l0 (k : Nat) : Nat → rV AH
 | 0 => Z5
 | n + 1 => bG.s0 k (bG.l0 k n)
def bG.g (k : Nat) (r0 : rV AH) (l0_0 : List Int) (l1 : List Int) (l2 : List Bool) (l3 : List Int) : Option (Int × Int × Bool) := r0 l1 l2 l3 l0_0 0
def bG.f (k : Nat) (l0_0 : List Int) (l1 : List Int) (l2 : List Bool) (l3 : List Int) : Option (Int × Int × Bool) := bG.g k (bG.l0 k k) l0_0 l1 l2 l3
def Be (k : Nat) : bD := ⟨[sT, sL, (false, [.dat (.list .bool)]), sL], [sI, sI, sB], U4 (bG.f k)⟩
def Iw (k : Nat) : En := ⟨tb, bn [(212, E9 k), (121, Bd k)], aX [(0, lz [1, 2, 3, 4, 11])], k, 0, aX [], []⟩
def xE : rV St := fun x1 x2 x3 x4_0 x11 => ⟨44, bX [(1, aL x1), (2, .dat (.list .bool) x2), (3, aL x3), (4, .box 0 0), (11, aI x11)], Go.V.look [(0, .cells [aL x4_0])]⟩
def Cb : List Bool := [t', f', t', f']
def NO (k : Nat) (p : List Bool) (r : List (St → AH)) : Nat → St → AH := cC (Iw k) (Be k) Try.f122 p r
theorem MR (k) (rec : St → AH) (v) : bJ (Iw k) (Be k) Try.f122 Cb [] rec (U5 xE v) = U5 (bG.s0 k (W5 rec xE)) v := by kernel_rfl
theorem L9 (k) (n) : W5 (NO k Cb [] n) xE = bG.l0 k n :=
 u5 (lq (Iw k) (Be k) (fun rec => U5 (bG.s0 k (C5 rec))) (fun n => U5 (bG.l0 k n)) (MR k) n)
theorem Oc (k) : bf Try.prog 122 (Be k) := mo Try.func122 (oc (QB k) (oc (Ob k) on)) fun x => (show cc (Iw k) (Be k) Try.f122 x = bG.g k (W5 (NO k Cb [] k) xE) x.1 x.2.1 x.2.2.1 x.2.2.2 by kernel_rfl).trans (by rw [L9]; rfl)
abbrev jf := Option ((List Bool))
abbrev rQ (R : Type) := (List Int) → (List Int) → (List Bool) → Int → Int → R
abbrev lu (R : Type) := (List Int) → (List Int) → (List Bool) → Bool → R
abbrev pk (R : Type) := (List Int) → (List Int) → (List Bool) → Bool → Int → Int → R
def ar.s2 (k : Nat) (r1 : lu jf) (r2 : pk jf) : pk jf := fun x2_0 x5 x6 x8 x30 x31 => if x31 < x30 then (if 0 ≤ x31 then (if x31 < x6.length then (if (cP false x6 x31) = true then ((cf.f k x2_0 x31).bind fun t3 => (bG.f k x2_0 x5 x6 t3).bind fun t4 => if t4.2.2 = true then (r2 x2_0 x5 x6 x8 x30 (wrap64 (x31 + 1))) else (if 0 ≤ x31 then (if x31 < x6.length then (r2 x2_0 x5 (x6.set x31.toNat false) true x30 (wrap64 (x31 + 1))) else none) else none)) else (r2 x2_0 x5 x6 x8 x30 (wrap64 (x31 + 1)))) else none) else none) else (r1 x2_0 x5 x6 x8)
def ar.l2 (k : Nat) (r1 : lu jf) : Nat → pk jf
 | 0 => Z6
 | n + 1 => ar.s2 k r1 (ar.l2 k r1 n)
def ar.s1 (k : Nat) (r1 : lu jf) (r2 : pk jf) : lu jf := fun x2_0 x5 x6 x8 => if x8 = true then (r2 x2_0 x5 x6 false (x6.length : Int) 0) else (some x6)
def ar.l1 (k : Nat) : Nat → lu jf
 | 0 => Z4
 | n + 1 => ar.s1 k (ar.l1 k n) (ar.l2 k (ar.l1 k n) k)
def ar.s0 (k : Nat) (r0 : rQ jf) (r1 : lu jf) : rQ jf := fun x2_0 x5 x6 x20 x21 => if x21 < x20 then (if 0 ≤ x21 then (if x21 < x6.length then (r0 x2_0 x5 (x6.set x21.toNat true) x20 (wrap64 (x21 + 1))) else none) else none) else (r1 x2_0 x5 x6 true)
def ar.l0 (k : Nat) : Nat → rQ jf
 | 0 => Z5
 | n + 1 => ar.s0 k (ar.l0 k n) (ar.l1 k k)
def ar.g (k : Nat) (r0 : rQ jf) (l0_0 : List Int) (a1 : Int) : Option ((List Bool)) := (bP.f k l0_0 a1).bind fun t1 => (bF.f k l0_0).bind fun t2 => if 0 ≤ t2 then (if t2 ≤ t2 then (if t2.toNat ≤ 1099511627776 then (r0 l0_0 t1 (List.replicate t2.toNat (false : Bool)) ((List.replicate t2.toNat (false : Bool)).length : Int) 0) else none) else none) else none
def ar.f (k : Nat) (l0_0 : List Int) (a1 : Int) : Option ((List Bool)) := ar.g k (ar.l0 k k) l0_0 a1
def uP (k : Nat) : bD := ⟨[sT, sI], [(false, [.own 4 .bool])], U2 (ar.f k)⟩
def yQ (k : Nat) : En := ⟨tb, bn [(119, Bc k), (113, Bb k), (123, Bf k), (122, Be k)], aX [(0, lz [2, 5, 6, 20, 21]), (2, lz [2, 5, 6, 8]), (4, lz [2, 5, 6, 8, 30, 31])], k, 0, aX [], []⟩
def xv : rQ St := fun x2_0 x5 x6 x20 x21 => ⟨57, bX [(2, .box 0 0), (5, .own 1), (6, .own 2), (20, aI x20), (21, aI x21)], Go.V.look [(0, .cells [aL x2_0]), (1, .flat 2 (.int .i64) x5), (2, .flat 4 .bool x6)]⟩
def B2 : List Bool := [t', t', f', t', f']
def lT : lu St := fun x2_0 x5 x6 x8 => ⟨57, bX [(2, .box 0 0), (5, .own 1), (6, .own 2), (8, aB x8)], Go.V.look [(0, .cells [aL x2_0]), (1, .flat 2 (.int .i64) x5), (2, .flat 4 .bool x6)]⟩
def B3 : List Bool := [t', t', t', f', t', f']
def xw : pk St := fun x2_0 x5 x6 x8 x30 x31 => ⟨57, bX [(2, .box 0 0), (5, .own 1), (6, .own 2), (8, aB x8), (30, aI x30), (31, aI x31)], Go.V.look [(0, .cells [aL x2_0]), (1, .flat 2 (.int .i64) x5), (2, .flat 4 .bool x6)]⟩
def B4 : List Bool := [t', t', t', f', t', f', f', t', f', t', t', f']
def EP (k : Nat) (p : List Bool) (r : List (St → jf)) : Nat → St → jf := cC (yQ k) (uP k) Try.f112 p r
theorem MK (k) (R1 : St → jf) (rec : St → jf) (v) : bJ (yQ k) (uP k) Try.f112 B4 [R1] rec (U6 xw v) = U6 (ar.s2 k (W4 R1 lT) (W6 rec xw)) v := by kernel_rfl
theorem L0 (k) (R1 : St → jf) (n) : W6 (EP k B4 [R1] n) xw = ar.l2 k (W4 R1 lT) n :=
 u6 (lq (yQ k) (uP k) (fun rec => U6 (ar.s2 k (W4 R1 lT) (C6 rec))) (fun n => U6 (ar.l2 k (W4 R1 lT) n)) (MK k R1) n)
theorem MJ (k) (rec : St → jf) (G2 : pk jf) (h2 : W6 (EP k B4 [rec] k) xw = G2) (v) : bJ (yQ k) (uP k) Try.f112 B3 [] rec (U4 lT v) = U4 (ar.s1 k (W4 rec lT) G2) v := by
 subst h2
 kernel_rfl
theorem LZ (k) (n) : W4 (EP k B3 [] n) lT = ar.l1 k n :=
 u4 (lq (yQ k) (uP k) (fun rec => U4 (ar.s1 k (C4 rec) (ar.l2 k (C4 rec) k))) (fun n => U4 (ar.l1 k n)) (fun rec v => MJ k rec _ (L0 k rec k) v) n)
theorem MI (k) (rec : St → jf) (G1 : lu jf) (h1 : W4 (EP k B3 [] k) lT = G1) (v) : bJ (yQ k) (uP k) Try.f112 B2 [] rec (U5 xv v) = U5 (ar.s0 k (W5 rec xv) G1) v := by
 subst h1
 kernel_rfl
theorem LY (k) (n) : W5 (EP k B2 [] n) xv = ar.l0 k n :=
 u5 (lq (yQ k) (uP k) (fun rec => U5 (ar.s0 k (C5 rec) (ar.l1 k k))) (fun n => U5 (ar.l0 k n)) (fun rec v => MI k rec _ (LZ k k) v) n)
theorem Qi (k) : bf Try.prog 112 (uP k) := mo Try.func112 (oc (Oa k) (oc (N9 k) (oc (Od k) (oc (Oc k) on)))) fun x => (show cc (yQ k) (uP k) Try.f112 x = ar.g k (W5 (EP k B2 [] k) xv) x.1 x.2 by kernel_rfl).trans (by rw [LY]; rfl)
abbrev O22 := Option ((List Int) × (List Int) × Int)
abbrev y6 (R : Type) := (List Int) → (List Bool) → (List Int) → (List Int) → (List Int) → (List Int) → Int → Int → R
abbrev vv (R : Type) := (List Int) → (List Bool) → (List Int) → (List Int) → (List Int) → (List Int) → R
def aq.s1 (k : Nat) (r1 : vv O22) : vv O22 := fun x2_0 x8 x9 x10 x11 x12 => (br.f k x2_0 x11).bind fun t5 => if 0 ≤ t5 then (if t5 < (x10.length : Int) then (if 0 ≤ (rd x10 t5) then (if 0 ≤ (rd x10 t5) then (if (rd x10 t5) ≤ (x12.length : Int) then ((dw.f (x12.take (rd x10 t5).toNat)).bind fun t6 => if 0 ≤ (rd x10 t5) then (if (rd x10 t5) ≤ (x12.length : Int) then (if (x12.length : Int) ≤ (x12.length : Int) then ((dw.f ((x12.take (x12.length : Int).toNat).drop (rd x10 t5).toNat)).bind fun t7 => some (t6, t7, 0)) else none) else none) else none) else none) else none) else (if 0 ≤ t5 then (if t5 < (x10.length : Int) then ((bG.f k x2_0 x9 x8 x11).bind fun t8 => if x12.length + 1 ≤ 1099511627776 then ((cf.f k x2_0 t8.2.1).bind fun t9 => r1 x2_0 x8 x9 (x10.set t5.toNat (x12.length : Int)) t9 (x12 ++ [t8.1])) else none) else none) else none)) else none) else none
def aq.l1 (k : Nat) : Nat → vv O22
 | 0 => Z6
 | n + 1 => aq.s1 k (aq.l1 k n)
def aq.s0 (k : Nat) (r0 : y6 O22) (r1 : vv O22) : y6 O22 := fun x2_0 x8 x9 x10 x11 x12 x46 x47 => if x47 < x46 then (if 0 ≤ x47 then (if x47 < x10.length then (r0 x2_0 x8 x9 (x10.set x47.toNat (-1)) x11 x12 x46 (wrap64 (x47 + 1))) else none) else none) else (r1 x2_0 x8 x9 x10 x11 x12)
def aq.l0 (k : Nat) : Nat → y6 O22
 | 0 => Z8
 | n + 1 => aq.s0 k (aq.l0 k n) (aq.l1 k k)
def aq.g (k : Nat) (r0 : y6 O22) (l0_0 : List Int) (a1 : Int) : Option ((List Int) × (List Int) × Int) := (iW.f k l0_0 a1).bind fun t1 => if t1 = 0 then ((ar.f k l0_0 a1).bind fun t2 => (bP.f k l0_0 a1).bind fun t3 => if 0 ≤ (wrap64 ((t2.length : Int) - 1)) then (if (wrap64 ((t2.length : Int) - 1)) < (t2.length : Int) then (if (cP false t2 (wrap64 ((t2.length : Int) - 1))) = true then (if 0 ≤ (t2.length : Int) then (if (t2.length : Int) ≤ (t2.length : Int) then (if (t2.length : Int).toNat ≤ 1099511627776 then ((dw.f l0_0).bind fun t4 => r0 l0_0 t2 t3 (List.replicate (t2.length : Int).toNat (0 : Int)) t4 [] ((List.replicate (t2.length : Int).toNat (0 : Int)).length : Int) 0) else none) else none) else none) else (some ([], [], 4))) else none) else none) else (some ([], [], t1))
def aq.f (k : Nat) (l0_0 : List Int) (a1 : Int) : Option ((List Int) × (List Int) × Int) := aq.g k (aq.l0 k k) l0_0 a1
def S22 (k : Nat) : bD := ⟨[sT, sI], [(false, [.own 2 (.int .i64)]), (false, [.own 2 (.int .i64)]), sI], U2 (aq.f k)⟩
def E22 (k : Nat) : En := ⟨tb, bn [(111, I4 k), (112, uP k), (119, Bc k), (120, E2 k), (121, Bd k), (122, Be k), (123, Bf k)], aX [(0, lz [2, 8, 9, 10, 11, 12, 46, 47]), (2, lz [2, 8, 9, 10, 11, 12])], k, 0, aX [(16, [(12, [.data (.int .i64)])])], []⟩
def DY : y6 St := fun x2_0 x8 x9 x10 x11 x12 x46 x47 => ⟨92, bX [(2, .box 0 0), (8, .own 1), (9, .own 2), (10, .own 3), (11, .own 4), (12, .own 5), (46, aI x46), (47, aI x47)], Go.V.look [(0, .cells [aL x2_0]), (1, .flat 4 .bool x8), (2, .flat 2 (.int .i64) x9), (3, .flat 2 (.int .i64) x10), (4, .flat 2 (.int .i64) x11), (5, .flat 2 (.int .i64) x12)]⟩
def Hs : List Bool := [t', t', t', t', t', f', t', f']
def DZ : vv St := fun x2_0 x8 x9 x10 x11 x12 => ⟨92, bX [(2, .box 0 0), (8, .own 1), (9, .own 2), (10, .own 3), (11, .own 4), (12, .own 5)], Go.V.look [(0, .cells [aL x2_0]), (1, .flat 4 .bool x8), (2, .flat 2 (.int .i64) x9), (3, .flat 2 (.int .i64) x10), (4, .flat 2 (.int .i64) x11), (5, .flat 2 (.int .i64) x12)]⟩
def Ht : List Bool := [t', t', t', t', t', t', f']
def L22 (k : Nat) (p : List Bool) (r : List (St → O22)) : Nat → St → O22 := cC (E22 k) (S22 k) Try.f22 p r
theorem Ph (k) (rec : St → O22) (v) : bJ (E22 k) (S22 k) Try.f22 Ht [] rec (U6 DZ v) = U6 (aq.s1 k (W6 rec DZ)) v := by kernel_rfl
theorem O5 (k) (n) : W6 (L22 k Ht [] n) DZ = aq.l1 k n :=
 u6 (lq (E22 k) (S22 k) (fun rec => U6 (aq.s1 k (C6 rec))) (fun n => U6 (aq.l1 k n)) (Ph k) n)
theorem Pg (k) (rec : St → O22) (G1 : vv O22) (h1 : W6 (L22 k Ht [] k) DZ = G1) (v) : bJ (E22 k) (S22 k) Try.f22 Hs [] rec (U8 DY v) = U8 (aq.s0 k (W8 rec DY) G1) v := by
 subst h1
 kernel_rfl
theorem O4 (k) (n) : W8 (L22 k Hs [] n) DY = aq.l0 k n :=
 u8 (lq (E22 k) (S22 k) (fun rec => U8 (aq.s0 k (C8 rec) (aq.l1 k k))) (fun n => U8 (aq.l0 k n)) (fun rec v => Pg k rec _ (O5 k k) v) n)
theorem M22 (k) : bf Try.prog 22 (S22 k) := mo Try.func22 (oc (Qh k) (oc (Qi k) (oc (Oa k) (oc (K7 k) (oc (Ob k) (oc (Oc k) (oc (Od k) on))))))) fun x => (show cc (E22 k) (S22 k) Try.f22 x = aq.g k (W8 (L22 k Hs [] k) DY) x.1 x.2 by kernel_rfl).trans (by rw [O4]; rfl)
abbrev AR := Option ((List Int) × ((List Int) × Int × Int))
abbrev sd (R : Type) := (List Int) → (List Int) → Int → Int → R
def aY.s0 (k : Nat) (r0 : sd AR) : sd AR := fun x5_0 b0_0 b0_1 b0_2 => if (x5_0.length : Int) ≤ 8 then (if x5_0.length + 1 ≤ 1099511627776 then (r0 (x5_0 ++ [9]) b0_0 b0_1 b0_2) else none) else (some (x5_0, b0_0, b0_1, b0_2))
def aY.l0 (k : Nat) : Nat → sd AR
 | 0 => Z4
 | n + 1 => aY.s0 k (aY.l0 k n)
def aY.g (k : Nat) (r0 : sd AR) (a0 : (List Int) × Int × Int) (l1_0 : List Int) : Option ((List Int) × ((List Int) × Int × Int)) := (dw.f l1_0).bind fun t1 => (ak.f (a0.1, a0.2.1, a0.2.2) 50).bind fun t2 => if (decide (t2.1 = 0)) = true then (some ([], t2.2.1, t2.2.2.1, t2.2.2.2)) else (if (decide (t2.1 = 1)) = true then ((di.f l1_0).bind fun t3 => (ak.f (t2.2.1, t2.2.2.1, t2.2.2.2) t3).bind fun t4 => (bT.f (t4.2.1, t4.2.2.1, t4.2.2.2) [0, 41, (-1), 1099511627776]).bind fun t5 => if 0 ≤ t4.1 then (if t4.1 < (t1.length : Int) then (some ((t1.set t4.1.toNat t5.1), t5.2.1, t5.2.2.1, t5.2.2.2)) else none) else none) else (if (decide (t2.1 = 2)) = true then (r0 t1 t2.2.1 t2.2.2.1 t2.2.2.2) else (some (l1_0, t2.2.1, t2.2.2.1, t2.2.2.2))))
def aY.f (k : Nat) (a0 : (List Int) × Int × Int) (l1_0 : List Int) : Option ((List Int) × ((List Int) × Int × Int)) := aY.g k (aY.l0 k k) a0 l1_0
def Bl (k : Nat) : bD := ⟨[sC, sT], [sT], U2 (aY.f k)⟩
def IF (k : Nat) : En := ⟨tb, bn [(120, E2 k), (147, qN k), (142, Bi k), (136, uR k)], aX [(1, lz [4, 5])], k, 1, aX [], [1074135040, 1074136640]⟩
def xN : sd St := fun x5_0 b0_0 b0_1 b0_2 => ⟨41, bX [(4, .box 1 0), (5, .box 2 0)], Go.V.look [(0, .cells [aU b0_0, aI b0_1, aQ b0_2]), (1, .cells [.nil]), (2, .cells [.own 3]), (3, .flat 2 (.int .i64) x5_0)]⟩
def Cl : List Bool := [t', t', f', t', f', t', t', t', t', t', f', f', f']
def NX (k : Nat) (p : List Bool) (r : List (St → AR)) : Nat → St → AR := cC (IF k) (Bl k) Try.f190 p r
theorem M0 (k) (rec : St → AR) (v) : bJ (IF k) (Bl k) Try.f190 Cl [] rec (U4 xN v) = U4 (aY.s0 k (W4 rec xN)) v := by kernel_rfl
theorem Mi (k) (n) : W4 (NX k Cl [] n) xN = aY.l0 k n :=
 u4 (lq (IF k) (Bl k) (fun rec => U4 (aY.s0 k (C4 rec))) (fun n => U4 (aY.l0 k n)) (M0 k) n)
theorem Qu (k) : bf Try.prog 190 (Bl k) := mo Try.func190 (oc (K7 k) (oc (uH k) (oc (Ga k) (oc (yT k) on)))) fun x => (show cc (IF k) (Bl k) Try.f190 x = aY.g k (W4 (NX k Cl [] k) xN) x.1 x.2 by kernel_rfl).trans (by rw [Mi]; rfl)
end Go.Proofs.Ytcbhhbkghbnljaa.Vf
