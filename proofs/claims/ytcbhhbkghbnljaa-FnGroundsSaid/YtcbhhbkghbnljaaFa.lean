/- What the functions of program, reference and laws give, as plain functions, and that they meet them (part 1). Conditions: none. Written by a program of my own (vp.py). -/
import Derived.Test.YtcbhhbkghbnljaaVc
import Derived.Test.YtcbhhbkghbnljaaProg
import Derived.BigQuiet
import Derived.Deep.DeepCutAuto
import Derived.Deep.LoopGhost
import Derived.Deep.OwnRows
import Derived.Deep.RegionLaw
import Derived.Laws.CopyOwn
import Derived.Laws.MakeOwn
import Derived.Tactics
import Derived.WalkKit
set_option linter.unusedVariables false
set_option maxRecDepth 100000
namespace Go.Proofs.Ytcbhhbkghbnljaa.Vf
open Go Go.V Go.RowKit Go.Proofs
def tbl : List (Nat × TI) := [(1, ⟨.fn, 1, 8, [.nilFunc]⟩), (2, ⟨.int .i64, 1, 8, [.int .i64 0]⟩), (3, ⟨.int .i64, 1, 8, [.int .i64 0]⟩), (4, ⟨.bool, 1, 1, [.bool false]⟩), (5, ⟨.int .u8, 1, 1, [.int .u8 0]⟩), (6, ⟨.int .u8, 1, 1, [.int .u8 0]⟩), (7, ⟨.struct true [(0, 2), (1, 3), (2, 4), (3, 6)], 4, 24, [.int .i64 0, .int .i64 0, .bool false, .int .u8 0]⟩), (8, ⟨.struct true [(0, 2), (1, 3), (2, 4), (3, 6)], 4, 24, [.int .i64 0, .int .i64 0, .bool false, .int .u8 0]⟩), (9, ⟨.str, 1, 16, [.string ByteArray.empty]⟩), (10, ⟨.str, 1, 16, [.string ByteArray.empty]⟩), (11, ⟨.str, 1, 16, [.string ByteArray.empty]⟩), (12, ⟨.int .u64, 1, 8, [.int .u64 0]⟩), (13, ⟨.struct false [(0, 9), (1, 12)], 2, 24, [.string ByteArray.empty, .int .u64 0]⟩), (14, ⟨.struct false [(0, 9), (1, 12)], 2, 24, [.string ByteArray.empty, .int .u64 0]⟩), (15, ⟨.ptr 212, 1, 8, [.pointer none]⟩), (16, ⟨.ptr 215, 1, 8, [.pointer none]⟩), (17, ⟨.ptr 224, 1, 8, [.pointer none]⟩), (18, ⟨.struct false [(0, 17)], 1, 8, [.pointer none]⟩), (19, ⟨.struct false [(0, 17)], 1, 8, [.pointer none]⟩), (21, ⟨.int .i32, 1, 4, [.int .i32 0]⟩), (22, ⟨.struct true [(0, 2), (1, 2)], 2, 16, [.int .i64 0, .int .i64 0]⟩), (23, ⟨.struct true [(0, 2), (1, 2)], 2, 16, [.int .i64 0, .int .i64 0]⟩), (25, ⟨.fn, 1, 8, [.nilFunc]⟩), (26, ⟨.struct true [(0, 2), (1, 2)], 2, 16, [.int .i64 0, .int .i64 0]⟩), (27, ⟨.fn, 1, 8, [.nilFunc]⟩), (28, ⟨.fn, 1, 8, [.nilFunc]⟩), (29, ⟨.slice 2, 1, 24, [.slice none 0 0]⟩), (30, ⟨.struct true [(0, 29)], 1, 24, [.slice none 0 0]⟩), (31, ⟨.struct true [(0, 29)], 1, 24, [.slice none 0 0]⟩), (32, ⟨.fn, 1, 8, [.nilFunc]⟩), (34, ⟨.fn, 1, 8, [.nilFunc]⟩), (35, ⟨.struct true [(0, 29)], 1, 24, [.slice none 0 0]⟩), (36, ⟨.fn, 1, 8, [.nilFunc]⟩), (37, ⟨.fn, 1, 8, [.nilFunc]⟩), (38, ⟨.fn, 1, 8, [.nilFunc]⟩), (39, ⟨.fn, 1, 8, [.nilFunc]⟩), (40, ⟨.fn, 1, 8, [.nilFunc]⟩), (42, ⟨.fn, 1, 8, [.nilFunc]⟩), (43, ⟨.fn, 1, 8, [.nilFunc]⟩), (44, ⟨.fn, 1, 8, [.nilFunc]⟩), (45, ⟨.fn, 1, 8, [.nilFunc]⟩), (46, ⟨.slice 5, 1, 24, [.slice none 0 0]⟩), (47, ⟨.fn, 1, 8, [.nilFunc]⟩), (49, ⟨.fn, 1, 8, [.nilFunc]⟩), (51, ⟨.fn, 1, 8, [.nilFunc]⟩), (52, ⟨.fn, 1, 8, [.nilFunc]⟩), (54, ⟨.fn, 1, 8, [.nilFunc]⟩), (55, ⟨.fn, 1, 8, [.nilFunc]⟩), (56, ⟨.fn, 1, 8, [.nilFunc]⟩), (58, ⟨.fn, 1, 8, [.nilFunc]⟩), (59, ⟨.fn, 1, 8, [.nilFunc]⟩), (60, ⟨.fn, 1, 8, [.nilFunc]⟩), (61, ⟨.fn, 1, 8, [.nilFunc]⟩), (63, ⟨.fn, 1, 8, [.nilFunc]⟩), (64, ⟨.fn, 1, 8, [.nilFunc]⟩), (65, ⟨.fn, 1, 8, [.nilFunc]⟩), (67, ⟨.fn, 1, 8, [.nilFunc]⟩), (68, ⟨.fn, 1, 8, [.nilFunc]⟩), (69, ⟨.fn, 1, 8, [.nilFunc]⟩), (70, ⟨.fn, 1, 8, [.nilFunc]⟩), (71, ⟨.fn, 1, 8, [.nilFunc]⟩), (72, ⟨.fn, 1, 8, [.nilFunc]⟩), (74, ⟨.fn, 1, 8, [.nilFunc]⟩), (76, ⟨.fn, 1, 8, [.nilFunc]⟩), (77, ⟨.fn, 1, 8, [.nilFunc]⟩), (78, ⟨.fn, 1, 8, [.nilFunc]⟩), (79, ⟨.fn, 1, 8, [.nilFunc]⟩), (80, ⟨.fn, 1, 8, [.nilFunc]⟩), (81, ⟨.fn, 1, 8, [.nilFunc]⟩), (83, ⟨.fn, 1, 8, [.nilFunc]⟩), (85, ⟨.fn, 1, 8, [.nilFunc]⟩), (86, ⟨.slice 29, 1, 24, [.slice none 0 0]⟩), (88, ⟨.fn, 1, 8, [.nilFunc]⟩), (89, ⟨.fn, 1, 8, [.nilFunc]⟩), (91, ⟨.fn, 1, 8, [.nilFunc]⟩), (92, ⟨.fn, 1, 8, [.nilFunc]⟩), (94, ⟨.fn, 1, 8, [.nilFunc]⟩), (95, ⟨.fn, 1, 8, [.nilFunc]⟩), (96, ⟨.fn, 1, 8, [.nilFunc]⟩), (97, ⟨.fn, 1, 8, [.nilFunc]⟩), (98, ⟨.fn, 1, 8, [.nilFunc]⟩), (99, ⟨.fn, 1, 8, [.nilFunc]⟩), (100, ⟨.fn, 1, 8, [.nilFunc]⟩), (101, ⟨.slice 4, 1, 24, [.slice none 0 0]⟩), (102, ⟨.fn, 1, 8, [.nilFunc]⟩), (103, ⟨.fn, 1, 8, [.nilFunc]⟩), (104, ⟨.fn, 1, 8, [.nilFunc]⟩), (105, ⟨.fn, 1, 8, [.nilFunc]⟩), (106, ⟨.fn, 1, 8, [.nilFunc]⟩), (107, ⟨.fn, 1, 8, [.nilFunc]⟩), (108, ⟨.fn, 1, 8, [.nilFunc]⟩), (109, ⟨.fn, 1, 8, [.nilFunc]⟩), (110, ⟨.fn, 1, 8, [.nilFunc]⟩), (111, ⟨.ptr 188, 1, 8, [.pointer none]⟩), (112, ⟨.fn, 1, 8, [.nilFunc]⟩), (113, ⟨.fn, 1, 8, [.nilFunc]⟩), (114, ⟨.fn, 1, 8, [.nilFunc]⟩), (115, ⟨.fn, 1, 8, [.nilFunc]⟩), (117, ⟨.fn, 1, 8, [.nilFunc]⟩), (118, ⟨.map 2 3, 1, 8, [.map none]⟩), (119, ⟨.fn, 1, 8, [.nilFunc]⟩), (121, ⟨.struct true [(0, 2), (1, 2)], 2, 16, [.int .i64 0, .int .i64 0]⟩), (122, ⟨.struct true [(0, 2), (1, 2)], 2, 16, [.int .i64 0, .int .i64 0]⟩), (124, ⟨.fn, 1, 8, [.nilFunc]⟩), (125, ⟨.fn, 1, 8, [.nilFunc]⟩), (126, ⟨.ptr 130, 1, 8, [.pointer none]⟩), (127, ⟨.fn, 1, 8, [.nilFunc]⟩), (128, ⟨.slice 145, 1, 24, [.slice none 0 0]⟩), (129, ⟨.struct true [(0, 35), (1, 128), (2, 101)], 3, 72, [.slice none 0 0, .slice none 0 0, .slice none 0 0]⟩), (130, ⟨.struct true [(0, 35), (1, 128), (2, 101)], 3, 72, [.slice none 0 0, .slice none 0 0, .slice none 0 0]⟩), (131, ⟨.fn, 1, 8, [.nilFunc]⟩), (132, ⟨.fn, 1, 8, [.nilFunc]⟩), (133, ⟨.fn, 1, 8, [.nilFunc]⟩), (134, ⟨.fn, 1, 8, [.nilFunc]⟩), (135, ⟨.ptr 193, 1, 8, [.pointer none]⟩), (136, ⟨.fn, 1, 8, [.nilFunc]⟩), (137, ⟨.fn, 1, 8, [.nilFunc]⟩), (138, ⟨.fn, 1, 8, [.nilFunc]⟩), (140, ⟨.fn, 1, 8, [.nilFunc]⟩), (141, ⟨.fn, 1, 8, [.nilFunc]⟩), (142, ⟨.fn, 1, 8, [.nilFunc]⟩), (143, ⟨.fn, 1, 8, [.nilFunc]⟩), (145, ⟨.map 2 2, 1, 8, [.map none]⟩), (146, ⟨.fn, 1, 8, [.nilFunc]⟩), (148, ⟨.fn, 1, 8, [.nilFunc]⟩), (149, ⟨.fn, 1, 8, [.nilFunc]⟩), (150, ⟨.fn, 1, 8, [.nilFunc]⟩), (151, ⟨.fn, 1, 8, [.nilFunc]⟩), (152, ⟨.fn, 1, 8, [.nilFunc]⟩), (153, ⟨.fn, 1, 8, [.nilFunc]⟩), (154, ⟨.fn, 1, 8, [.nilFunc]⟩), (155, ⟨.fn, 1, 8, [.nilFunc]⟩), (156, ⟨.fn, 1, 8, [.nilFunc]⟩), (157, ⟨.fn, 1, 8, [.nilFunc]⟩), (158, ⟨.fn, 1, 8, [.nilFunc]⟩), (159, ⟨.fn, 1, 8, [.nilFunc]⟩), (160, ⟨.fn, 1, 8, [.nilFunc]⟩), (161, ⟨.fn, 1, 8, [.nilFunc]⟩), (162, ⟨.int .u64, 1, 8, [.int .u64 0]⟩), (163, ⟨.fn, 1, 8, [.nilFunc]⟩), (164, ⟨.ptr 170, 1, 8, [.pointer none]⟩), (166, ⟨.fn, 1, 8, [.nilFunc]⟩), (167, ⟨.fn, 1, 8, [.nilFunc]⟩), (168, ⟨.fn, 1, 8, [.nilFunc]⟩), (169, ⟨.struct true [(0, 26), (2, 35), (3, 86), (4, 101)], 5, 88, [.int .i64 0, .int .i64 0, .slice none 0 0, .slice none 0 0, .slice none 0 0]⟩), (170, ⟨.struct true [(0, 26), (2, 35), (3, 86), (4, 101)], 5, 88, [.int .i64 0, .int .i64 0, .slice none 0 0, .slice none 0 0, .slice none 0 0]⟩), (171, ⟨.fn, 1, 8, [.nilFunc]⟩), (172, ⟨.fn, 1, 8, [.nilFunc]⟩), (173, ⟨.fn, 1, 8, [.nilFunc]⟩), (174, ⟨.fn, 1, 8, [.nilFunc]⟩), (175, ⟨.fn, 1, 8, [.nilFunc]⟩), (176, ⟨.fn, 1, 8, [.nilFunc]⟩), (177, ⟨.fn, 1, 8, [.nilFunc]⟩), (178, ⟨.fn, 1, 8, [.nilFunc]⟩), (179, ⟨.fn, 1, 8, [.nilFunc]⟩), (180, ⟨.fn, 1, 8, [.nilFunc]⟩), (181, ⟨.slice 3, 1, 24, [.slice none 0 0]⟩), (182, ⟨.fn, 1, 8, [.nilFunc]⟩), (183, ⟨.int .u64, 1, 8, [.int .u64 0]⟩), (185, ⟨.fn, 1, 8, [.nilFunc]⟩), (186, ⟨.slice 189, 1, 24, [.slice none 0 0]⟩), (187, ⟨.struct true [(0, 186), (1, 101)], 2, 48, [.slice none 0 0, .slice none 0 0]⟩), (188, ⟨.struct true [(0, 186), (1, 101)], 2, 48, [.slice none 0 0, .slice none 0 0]⟩), (189, ⟨.slice 122, 1, 24, [.slice none 0 0]⟩), (190, ⟨.fn, 1, 8, [.nilFunc]⟩), (191, ⟨.fn, 1, 8, [.nilFunc]⟩), (192, ⟨.struct true [(0, 46), (1, 3), (2, 162)], 3, 40, [.slice none 0 0, .int .i64 0, .int .u64 0]⟩), (193, ⟨.struct true [(0, 46), (1, 3), (2, 162)], 3, 40, [.slice none 0 0, .int .i64 0, .int .u64 0]⟩), (194, ⟨.fn, 1, 8, [.nilFunc]⟩), (195, ⟨.fn, 1, 8, [.nilFunc]⟩), (196, ⟨.fn, 1, 8, [.nilFunc]⟩), (197, ⟨.fn, 1, 8, [.nilFunc]⟩), (198, ⟨.fn, 1, 8, [.nilFunc]⟩), (199, ⟨.fn, 1, 8, [.nilFunc]⟩), (200, ⟨.int .u32, 1, 4, [.int .u32 0]⟩), (202, ⟨.fn, 1, 8, [.nilFunc]⟩), (204, ⟨.fn, 1, 8, [.nilFunc]⟩), (205, ⟨.fn, 1, 8, [.nilFunc]⟩), (206, ⟨.fn, 1, 8, [.nilFunc]⟩), (207, ⟨.fn, 1, 8, [.nilFunc]⟩), (208, ⟨.fn, 1, 8, [.nilFunc]⟩), (209, ⟨.fn, 1, 8, [.nilFunc]⟩), (210, ⟨.fn, 1, 8, [.nilFunc]⟩), (211, ⟨.struct false [(0, 17), (1, 17), (2, 17), (3, 9)], 4, 40, [.pointer none, .pointer none, .pointer none, .string ByteArray.empty]⟩), (212, ⟨.struct false [(0, 17), (1, 17), (2, 17), (3, 9)], 4, 40, [.pointer none, .pointer none, .pointer none, .string ByteArray.empty]⟩), (214, ⟨.struct false [(0, 213)], 0, 0, []⟩), (215, ⟨.struct false [(0, 213)], 0, 0, []⟩), (216, ⟨.fn, 1, 8, [.nilFunc]⟩), (217, ⟨.int .u8, 1, 1, [.int .u8 0]⟩), (218, ⟨.int .u8, 1, 1, [.int .u8 0]⟩), (219, ⟨.fn, 1, 8, [.nilFunc]⟩), (220, ⟨.ptr 5, 1, 8, [.pointer none]⟩), (221, ⟨.int .i32, 1, 4, [.int .i32 0]⟩), (222, ⟨.int .i32, 1, 4, [.int .i32 0]⟩), (223, ⟨.struct false [(0, 12), (1, 12), (2, 200), (3, 217), (4, 5), (5, 5), (6, 218), (7, 219), (8, 220), (9, 221), (10, 222)], 11, 48, [.int .u64 0, .int .u64 0, .int .u32 0, .int .u8 0, .int .u8 0, .int .u8 0, .int .u8 0, .nilFunc, .pointer none, .int .i32 0, .int .i32 0]⟩), (224, ⟨.struct false [(0, 12), (1, 12), (2, 200), (3, 217), (4, 5), (5, 5), (6, 218), (7, 219), (8, 220), (9, 221), (10, 222)], 11, 48, [.int .u64 0, .int .u64 0, .int .u32 0, .int .u8 0, .int .u8 0, .int .u8 0, .int .u8 0, .nilFunc, .pointer none, .int .i32 0, .int .i32 0]⟩)]
def tb : TypeId → Option TI := Go.V.look tbl
theorem tbEq : tbl.map (fun p => entryOf Try.prog p.1) = tbl.map (fun p => some p.2) := by kernel_rfl
theorem tbOk : TbOK Try.prog tb := tb_of tbEq
theorem mixOk : Try.prog.follows .mixedOrders = true := by kernel_rfl

/-! laws_big: function 28 -/
noncomputable def laws_big.f (l0 : List Int) : Option (Bool) := some (decide (4096 < (l0.length : Int)))
noncomputable def S28 (k : Nat) : Does := ⟨[(false, [.dat (.list (.int .u8))])], [(false, [.dat .bool])], fun x => laws_big.f x⟩
noncomputable def E28 (k : Nat) : En := ⟨tb, orcOf [], lvOf [], k, 0, lvOf [], []⟩
theorem e28 (k : Nat) (x : dens (flatC (S28 k).ps)) : funK (E28 k) (S28 k) Try.f28 x = (S28 k).fn x := by
  kernel_rfl
theorem M28 (k : Nat) : Meets Try.prog 28 (S28 k) := meets_of Try.func28 (by kernel_rfl) tbOk orc_nil mixOk (fun x y h => (e28 k x).trans h) rfl

/-! spec_l01From: function 135 -/
noncomputable def spec_l01From.s0 (k : Nat) (r0 : (List Int) → (List Int) → Int → Int → Int → Option (((List Int) × Int × Int))) (x0 : List Int) (x3_0 : List Int) (x3_1 : Int) (x3_2 : Int) (x4 : Int) : Option (((List Int) × Int × Int)) := if x4 < (x0.length : Int) then (if x4 < 4096 then (if 0 ≤ x4 then (if x4 < (x0.length : Int) then (r0 x0 x3_0 x3_1 (IntKind.wrap .u64 ((IntKind.wrap .u64 ((IntKind.wrap .u64 (x3_2 * 1099511628211)) + (IntKind.wrap .u64 ((rd x0 x4))))) + 241)) (wrap64 (x4 + 1))) else (none)) else (none)) else (some (x3_0, x3_1, x3_2))) else (some (x3_0, x3_1, x3_2))
noncomputable def spec_l01From.l0 (k : Nat) : Nat → (List Int) → (List Int) → Int → Int → Int → Option (((List Int) × Int × Int))
  | 0, _, _, _, _, _ => none
  | n + 1, x0, x1, x2, x3, x4 => spec_l01From.s0 k (spec_l01From.l0 k n) x0 x1 x2 x3 x4
noncomputable def spec_l01From.g (k : Nat) (r0 : (List Int) → (List Int) → Int → Int → Int → Option (((List Int) × Int × Int))) (l0 : List Int) : Option (((List Int) × Int × Int)) := r0 l0 l0 0 (IntKind.wrap .u64 (14041 + (IntKind.wrap .u64 ((l0.length : Int))))) 0
noncomputable def spec_l01From.f (k : Nat) (l0 : List Int) : Option (((List Int) × Int × Int)) := spec_l01From.g k (spec_l01From.l0 k k) l0
noncomputable def S135 (k : Nat) : Does := ⟨[(false, [.dat (.list (.int .u8))])], [(false, [.cel (.struct (.pair (.list (.int .u8)) (.pair (.int .i64) (.int .u64))))])], fun x => spec_l01From.f k x⟩
noncomputable def E135 (k : Nat) : En := ⟨tb, orcOf [], lvOf [(0, [(0, []), (3, []), (4, [])])], k, 0, lvOf [], []⟩
noncomputable def n135_0 (x0 : List Int) (x3_0 : List Int) (x3_1 : Int) (x3_2 : Int) (x4 : Int) : St := ⟨38, lookA [(0, .dat (.list (.int .u8)) x0), (3, .box 0 0), (4, .dat (.int .i64) x4)], Go.V.look [(0, .cells [.dat (.list (.int .u8)) x3_0, .dat (.int .i64) x3_1, .dat (.int .u64) x3_2])]⟩
def p135_0 : List Bool := [true, true, false, true, false]
theorem r135_0 (k : Nat) (rec : St → Option (((List Int) × Int × Int))) (v : (List Int) × (List Int) × Int × Int × Int) : roundF (E135 k) (S135 k) Try.f135 p135_0 [] rec (n135_0 v.1 v.2.1 v.2.2.1 v.2.2.2.1 v.2.2.2.2) = spec_l01From.s0 k (fun a0 a1 a2 a3 a4 => rec (n135_0 a0 a1 a2 a3 a4)) v.1 v.2.1 v.2.2.1 v.2.2.2.1 v.2.2.2.2 := by
  kernel_rfl
theorem q135_0 (k : Nat) (n : Nat) : ∀ v : (List Int) × (List Int) × Int × Int × Int, loopF (E135 k) (S135 k) Try.f135 p135_0 [] n (n135_0 v.1 v.2.1 v.2.2.1 v.2.2.2.1 v.2.2.2.2) = spec_l01From.l0 k n v.1 v.2.1 v.2.2.1 v.2.2.2.1 v.2.2.2.2 :=
  loopF_eq (E135 k) (S135 k) Try.f135 p135_0 [] (fun v : (List Int) × (List Int) × Int × Int × Int => n135_0 v.1 v.2.1 v.2.2.1 v.2.2.2.1 v.2.2.2.2) (fun rec v => spec_l01From.s0 k (fun a0 a1 a2 a3 a4 => rec (a0, a1, a2, a3, a4)) v.1 v.2.1 v.2.2.1 v.2.2.2.1 v.2.2.2.2) (fun n v => spec_l01From.l0 k n v.1 v.2.1 v.2.2.1 v.2.2.2.1 v.2.2.2.2) (fun _ => rfl) (fun _ _ => rfl) (fun rec v => r135_0 k rec v) n
theorem e135 (k : Nat) (x : dens (flatC (S135 k).ps)) : funK (E135 k) (S135 k) Try.f135 x = (S135 k).fn x := by
  have h : funK (E135 k) (S135 k) Try.f135 x = spec_l01From.g k (fun a0 a1 a2 a3 a4 => loopF (E135 k) (S135 k) Try.f135 p135_0 [] k (n135_0 a0 a1 a2 a3 a4)) x := by kernel_rfl
  rw [h]
  rw [show (fun a0 a1 a2 a3 a4 => loopF (E135 k) (S135 k) Try.f135 p135_0 [] k (n135_0 a0 a1 a2 a3 a4)) = spec_l01From.l0 k k from funext fun a0 => funext fun a1 => funext fun a2 => funext fun a3 => funext fun a4 => q135_0 k k (a0, a1, a2, a3, a4)]
  rfl
theorem M135 (k : Nat) : Meets Try.prog 135 (S135 k) := meets_of Try.func135 (by kernel_rfl) tbOk orc_nil mixOk (fun x y h => (e135 k x).trans h) rfl

/-! spec_l01Next: function 147 -/
noncomputable def spec_l01Next.f (a0 : (List Int) × Int × Int) (a1 : Int) : Option (Int × ((List Int) × Int × Int)) := if a1 < 1 then (some (0, a0.1, a0.2.1, a0.2.2)) else (if a0.2.1 < (a0.1.length : Int) then (if 0 ≤ a0.2.1 then (if a0.2.1 < (a0.1.length : Int) then (if a1 = 0 then (none) else (some ((Int.tmod (wrap64 ((wrap64 ((andV .u64 (shrV .u64 (IntKind.wrap .u64 ((IntKind.wrap .u64 (a0.2.2 * 6364136223846793005)) + 1442695040888963407)) 33) 16777215))) + (wrap64 ((rd a0.1 a0.2.1))))) a1), a0.1, (wrap64 (a0.2.1 + 1)), (IntKind.wrap .u64 ((IntKind.wrap .u64 (a0.2.2 * 6364136223846793005)) + 1442695040888963407))))) else (none)) else (none)) else (if a1 = 0 then (none) else (some ((Int.tmod (wrap64 ((andV .u64 (shrV .u64 (IntKind.wrap .u64 ((IntKind.wrap .u64 (a0.2.2 * 6364136223846793005)) + 1442695040888963407)) 33) 16777215))) a1), a0.1, a0.2.1, (IntKind.wrap .u64 ((IntKind.wrap .u64 (a0.2.2 * 6364136223846793005)) + 1442695040888963407))))))
noncomputable def S147 (k : Nat) : Does := ⟨[(false, [.cel (.struct (.pair (.list (.int .u8)) (.pair (.int .i64) (.int .u64))))]), (false, [.dat (.int .i64)])], [(false, [.dat (.int .i64)])], fun x => spec_l01Next.f x.1 x.2⟩
noncomputable def E147 (k : Nat) : En := ⟨tb, orcOf [], lvOf [], k, 1, lvOf [], []⟩
theorem e147 (k : Nat) (x : dens (flatC (S147 k).ps)) : funK (E147 k) (S147 k) Try.f147 x = (S147 k).fn x := by
  kernel_rfl
theorem M147 (k : Nat) : Meets Try.prog 147 (S147 k) := meets_of Try.func147 (by kernel_rfl) tbOk orc_nil mixOk (fun x y h => (e147 k x).trans h) rfl

/-! spec_l01Pick: function 136 -/
noncomputable def spec_l01Pick.f (a0 : (List Int) × Int × Int) (l1 : List Int) : Option (Int × ((List Int) × Int × Int)) := (spec_l01Next.f (a0.1, a0.2.1, a0.2.2) (l1.length : Int)).bind fun t1 => if 0 ≤ t1.1 then (if t1.1 < (l1.length : Int) then (some ((rd l1 t1.1), t1.2.1, t1.2.2.1, t1.2.2.2)) else (none)) else (none)
noncomputable def S136 (k : Nat) : Does := ⟨[(false, [.cel (.struct (.pair (.list (.int .u8)) (.pair (.int .i64) (.int .u64))))]), (false, [.dat (.list (.int .i64))])], [(false, [.dat (.int .i64)])], fun x => spec_l01Pick.f x.1 x.2⟩
noncomputable def E136 (k : Nat) : En := ⟨tb, orcOf [(147, S147 k)], lvOf [], k, 1, lvOf [], []⟩
theorem e136 (k : Nat) (x : dens (flatC (S136 k).ps)) : funK (E136 k) (S136 k) Try.f136 x = (S136 k).fn x := by
  kernel_rfl
theorem M136 (k : Nat) : Meets Try.prog 136 (S136 k) := meets_of Try.func136 (by kernel_rfl) tbOk (orc_cons (M147 k) orc_nil) mixOk (fun x y h => (e136 k x).trans h) rfl

/-! spec_l01Near: function 137 -/
noncomputable def spec_l01Near.f (a0 : (List Int) × Int × Int) (a1 : Int) : Option (Int × ((List Int) × Int × Int)) := (spec_l01Next.f (a0.1, a0.2.1, a0.2.2) 14).bind fun t1 => if t1.1 = 0 then ((spec_l01Pick.f (t1.2.1, t1.2.2.1, t1.2.2.2) [(-1), (wrap64 (a1 + 1)), 1099511627776, (-4611686018427387904)]).bind fun t2 => some (t2.1, t2.2.1, t2.2.2.1, t2.2.2.2)) else ((spec_l01Next.f (t1.2.1, t1.2.2.1, t1.2.2.2) (wrap64 (a1 + 1))).bind fun t3 => some (t3.1, t3.2.1, t3.2.2.1, t3.2.2.2))
noncomputable def S137 (k : Nat) : Does := ⟨[(false, [.cel (.struct (.pair (.list (.int .u8)) (.pair (.int .i64) (.int .u64))))]), (false, [.dat (.int .i64)])], [(false, [.dat (.int .i64)])], fun x => spec_l01Near.f x.1 x.2⟩
noncomputable def E137 (k : Nat) : En := ⟨tb, orcOf [(147, S147 k), (136, S136 k)], lvOf [], k, 1, lvOf [], []⟩
theorem e137 (k : Nat) (x : dens (flatC (S137 k).ps)) : funK (E137 k) (S137 k) Try.f137 x = (S137 k).fn x := by
  kernel_rfl
theorem M137 (k : Nat) : Meets Try.prog 137 (S137 k) := meets_of Try.func137 (by kernel_rfl) tbOk (orc_cons (M147 k) (orc_cons (M136 k) orc_nil)) mixOk (fun x y h => (e137 k x).trans h) rfl

/-! spec_DrawLineGround: function 57 -/
noncomputable def spec_DrawLineGround.f (k : Nat) (l0 : List Int) : Option (Int) := (spec_l01From.f k l0).bind fun t1 => (spec_l01Near.f (t1.1, t1.2.1, t1.2.2) 5).bind fun t2 => some (wrap64 (1 + t2.1))
noncomputable def S57 (k : Nat) : Does := ⟨[(false, [.dat (.list (.int .u8))])], [(false, [.dat (.int .i64)])], fun x => spec_DrawLineGround.f k x⟩
noncomputable def E57 (k : Nat) : En := ⟨tb, orcOf [(135, S135 k), (137, S137 k)], lvOf [], k, 0, lvOf [], []⟩
theorem e57 (k : Nat) (x : dens (flatC (S57 k).ps)) : funK (E57 k) (S57 k) Try.f57 x = (S57 k).fn x := by
  kernel_rfl
theorem M57 (k : Nat) : Meets Try.prog 57 (S57 k) := meets_of Try.func57 (by kernel_rfl) tbOk (orc_cons (M135 k) (orc_cons (M137 k) orc_nil)) mixOk (fun x y h => (e57 k x).trans h) rfl

/-! impl_within: function 108 -/
noncomputable def impl_within.f (a0 : Int) (a1 : Int) (a2 : Int) : Option (Bool) := if a1 ≤ a0 then (some (decide (a0 ≤ a2))) else (some false)
noncomputable def S108 (k : Nat) : Does := ⟨[(false, [.dat (.int .i64)]), (false, [.dat (.int .i64)]), (false, [.dat (.int .i64)])], [(false, [.dat .bool])], fun x => impl_within.f x.1 x.2.1 x.2.2⟩
noncomputable def E108 (k : Nat) : En := ⟨tb, orcOf [], lvOf [], k, 0, lvOf [], []⟩
theorem e108 (k : Nat) (x : dens (flatC (S108 k).ps)) : funK (E108 k) (S108 k) Try.f108 x = (S108 k).fn x := by
  kernel_rfl
theorem M108 (k : Nat) : Meets Try.prog 108 (S108 k) := meets_of Try.func108 (by kernel_rfl) tbOk orc_nil mixOk (fun x y h => (e108 k x).trans h) rfl

/-! impl_isPlaces: function 162 -/
noncomputable def impl_isPlaces.f (a0 : Int) : Option (Bool) := (impl_within.f a0 1 6).bind fun t1 => some t1
noncomputable def S162 (k : Nat) : Does := ⟨[(false, [.dat (.int .i64)])], [(false, [.dat .bool])], fun x => impl_isPlaces.f x⟩
noncomputable def E162 (k : Nat) : En := ⟨tb, orcOf [(108, S108 k)], lvOf [], k, 0, lvOf [], []⟩
theorem e162 (k : Nat) (x : dens (flatC (S162 k).ps)) : funK (E162 k) (S162 k) Try.f162 x = (S162 k).fn x := by
  kernel_rfl
theorem M162 (k : Nat) : Meets Try.prog 162 (S162 k) := meets_of Try.func162 (by kernel_rfl) tbOk (orc_cons (M108 k) orc_nil) mixOk (fun x y h => (e162 k x).trans h) rfl

/-! impl_road: function 165 -/
noncomputable def impl_road.f (a0 : Int) (a1 : Int) : Option (Int) := if (wrap64 ((wrap64 (Int.tdiv (wrap64 ((maxV a0 a1) * (wrap64 ((maxV a0 a1) - 1)))) 2)) + (minV a0 a1))) < 0 then (none) else (some (shlV .i64 1 (wrap64 ((wrap64 (Int.tdiv (wrap64 ((maxV a0 a1) * (wrap64 ((maxV a0 a1) - 1)))) 2)) + (minV a0 a1)))))
noncomputable def S165 (k : Nat) : Does := ⟨[(false, [.dat (.int .i64)]), (false, [.dat (.int .i64)])], [(false, [.dat (.int .i64)])], fun x => impl_road.f x.1 x.2⟩
noncomputable def E165 (k : Nat) : En := ⟨tb, orcOf [], lvOf [], k, 0, lvOf [], []⟩
theorem e165 (k : Nat) (x : dens (flatC (S165 k).ps)) : funK (E165 k) (S165 k) Try.f165 x = (S165 k).fn x := by
  kernel_rfl
theorem M165 (k : Nat) : Meets Try.prog 165 (S165 k) := meets_of Try.func165 (by kernel_rfl) tbOk orc_nil mixOk (fun x y h => (e165 k x).trans h) rfl

/-! impl_line: function 163 -/
noncomputable def impl_line.s0 (k : Nat) (r0 : Int → Int → Int → Int → Int → Int → Option (Int × Int)) (x0 : Int) (x2_0 : Int) (x2_1 : Int) (x3_0 : Int) (x3_1 : Int) (x4 : Int) : Option (Int × Int) := if x4 < x0 then ((impl_road.f (wrap64 (x4 - 1)) x4).bind fun t1 => r0 x0 x2_0 x2_1 x3_0 (orV .i64 x3_1 t1) (wrap64 (x4 + 1))) else (some (x3_0, x3_1))
noncomputable def impl_line.l0 (k : Nat) : Nat → Int → Int → Int → Int → Int → Int → Option (Int × Int)
  | 0, _, _, _, _, _, _ => none
  | n + 1, x0, x1, x2, x3, x4, x5 => impl_line.s0 k (impl_line.l0 k n) x0 x1 x2 x3 x4 x5
noncomputable def impl_line.g (k : Nat) (r0 : Int → Int → Int → Int → Int → Int → Option (Int × Int)) (a0 : Int) : Option (Int × Int) := r0 a0 0 0 a0 0 1
noncomputable def impl_line.f (k : Nat) (a0 : Int) : Option (Int × Int) := impl_line.g k (impl_line.l0 k k) a0
noncomputable def S163 (k : Nat) : Does := ⟨[(false, [.dat (.int .i64)])], [(true, [.dat (.int .i64), .dat (.int .i64)])], fun x => impl_line.f k x⟩
noncomputable def E163 (k : Nat) : En := ⟨tb, orcOf [(165, S165 k)], lvOf [(0, [(0, []), (2, []), (3, []), (4, [])])], k, 0, lvOf [], []⟩
noncomputable def n163_0 (x0 : Int) (x2_0 : Int) (x2_1 : Int) (x3_0 : Int) (x3_1 : Int) (x4 : Int) : St := ⟨21, lookA [(0, .dat (.int .i64) x0), (2, .box 0 0), (3, .box 1 0), (4, .dat (.int .i64) x4)], Go.V.look [(0, .cells [.dat (.int .i64) x2_0, .dat (.int .i64) x2_1]), (1, .cells [.dat (.int .i64) x3_0, .dat (.int .i64) x3_1])]⟩
def p163_0 : List Bool := [true, true, false, true, false]
theorem r163_0 (k : Nat) (rec : St → Option (Int × Int)) (v : Int × Int × Int × Int × Int × Int) : roundF (E163 k) (S163 k) Try.f163 p163_0 [] rec (n163_0 v.1 v.2.1 v.2.2.1 v.2.2.2.1 v.2.2.2.2.1 v.2.2.2.2.2) = impl_line.s0 k (fun a0 a1 a2 a3 a4 a5 => rec (n163_0 a0 a1 a2 a3 a4 a5)) v.1 v.2.1 v.2.2.1 v.2.2.2.1 v.2.2.2.2.1 v.2.2.2.2.2 := by
  kernel_rfl
theorem q163_0 (k : Nat) (n : Nat) : ∀ v : Int × Int × Int × Int × Int × Int, loopF (E163 k) (S163 k) Try.f163 p163_0 [] n (n163_0 v.1 v.2.1 v.2.2.1 v.2.2.2.1 v.2.2.2.2.1 v.2.2.2.2.2) = impl_line.l0 k n v.1 v.2.1 v.2.2.1 v.2.2.2.1 v.2.2.2.2.1 v.2.2.2.2.2 :=
  loopF_eq (E163 k) (S163 k) Try.f163 p163_0 [] (fun v : Int × Int × Int × Int × Int × Int => n163_0 v.1 v.2.1 v.2.2.1 v.2.2.2.1 v.2.2.2.2.1 v.2.2.2.2.2) (fun rec v => impl_line.s0 k (fun a0 a1 a2 a3 a4 a5 => rec (a0, a1, a2, a3, a4, a5)) v.1 v.2.1 v.2.2.1 v.2.2.2.1 v.2.2.2.2.1 v.2.2.2.2.2) (fun n v => impl_line.l0 k n v.1 v.2.1 v.2.2.1 v.2.2.2.1 v.2.2.2.2.1 v.2.2.2.2.2) (fun _ => rfl) (fun _ _ => rfl) (fun rec v => r163_0 k rec v) n
theorem e163 (k : Nat) (x : dens (flatC (S163 k).ps)) : funK (E163 k) (S163 k) Try.f163 x = (S163 k).fn x := by
  have h : funK (E163 k) (S163 k) Try.f163 x = impl_line.g k (fun a0 a1 a2 a3 a4 a5 => loopF (E163 k) (S163 k) Try.f163 p163_0 [] k (n163_0 a0 a1 a2 a3 a4 a5)) x := by kernel_rfl
  rw [h]
  rw [show (fun a0 a1 a2 a3 a4 a5 => loopF (E163 k) (S163 k) Try.f163 p163_0 [] k (n163_0 a0 a1 a2 a3 a4 a5)) = impl_line.l0 k k from funext fun a0 => funext fun a1 => funext fun a2 => funext fun a3 => funext fun a4 => funext fun a5 => q163_0 k k (a0, a1, a2, a3, a4, a5)]
  rfl
theorem M163 (k : Nat) : Meets Try.prog 163 (S163 k) := meets_of Try.func163 (by kernel_rfl) tbOk (orc_cons (M165 k) orc_nil) mixOk (fun x y h => (e163 k x).trans h) rfl

/-! impl_LineGround: function 58 -/
noncomputable def impl_LineGround.f (k : Nat) (a0 : Int) : Option (Int × Int × Int) := (impl_isPlaces.f a0).bind fun t1 => if t1 = true then ((impl_line.f k a0).bind fun t2 => some (t2.1, t2.2, 0)) else (some (0, 0, 2))
noncomputable def S58 (k : Nat) : Does := ⟨[(false, [.dat (.int .i64)])], [(true, [.dat (.int .i64), .dat (.int .i64)]), (false, [.dat (.int .i64)])], fun x => impl_LineGround.f k x⟩
noncomputable def E58 (k : Nat) : En := ⟨tb, orcOf [(162, S162 k), (163, S163 k)], lvOf [], k, 0, lvOf [], []⟩
theorem e58 (k : Nat) (x : dens (flatC (S58 k).ps)) : funK (E58 k) (S58 k) Try.f58 x = (S58 k).fn x := by
  kernel_rfl
theorem M58 (k : Nat) : Meets Try.prog 58 (S58 k) := meets_of Try.func58 (by kernel_rfl) tbOk (orc_cons (M162 k) (orc_cons (M163 k) orc_nil)) mixOk (fun x y h => (e58 k x).trans h) rfl

/-! spec_l01In: function 102 -/
noncomputable def spec_l01In.f (a0 : Int) (a1 : Int) (a2 : Int) : Option (Bool) := if a1 ≤ a0 then (some (decide (a0 ≤ a2))) else (some false)
noncomputable def S102 (k : Nat) : Does := ⟨[(false, [.dat (.int .i64)]), (false, [.dat (.int .i64)]), (false, [.dat (.int .i64)])], [(false, [.dat .bool])], fun x => spec_l01In.f x.1 x.2.1 x.2.2⟩
noncomputable def E102 (k : Nat) : En := ⟨tb, orcOf [], lvOf [], k, 0, lvOf [], []⟩
theorem e102 (k : Nat) (x : dens (flatC (S102 k).ps)) : funK (E102 k) (S102 k) Try.f102 x = (S102 k).fn x := by
  kernel_rfl
theorem M102 (k : Nat) : Meets Try.prog 102 (S102 k) := meets_of Try.func102 (by kernel_rfl) tbOk orc_nil mixOk (fun x y h => (e102 k x).trans h) rfl

/-! spec_l09Road: function 166 -/
noncomputable def spec_l09Road.f (a0 : Int) (a1 : Int) : Option (Int) := if (IntKind.wrap .u64 ((wrap64 ((wrap64 (Int.tdiv (wrap64 ((maxV a0 a1) * (wrap64 ((maxV a0 a1) - 1)))) 2)) + (minV a0 a1))))) < 0 then (none) else (some (shlV .i64 1 (IntKind.wrap .u64 ((wrap64 ((wrap64 (Int.tdiv (wrap64 ((maxV a0 a1) * (wrap64 ((maxV a0 a1) - 1)))) 2)) + (minV a0 a1)))))))
noncomputable def S166 (k : Nat) : Does := ⟨[(false, [.dat (.int .i64)]), (false, [.dat (.int .i64)])], [(false, [.dat (.int .i64)])], fun x => spec_l09Road.f x.1 x.2⟩
noncomputable def E166 (k : Nat) : En := ⟨tb, orcOf [], lvOf [], k, 0, lvOf [], []⟩
theorem e166 (k : Nat) (x : dens (flatC (S166 k).ps)) : funK (E166 k) (S166 k) Try.f166 x = (S166 k).fn x := by
  kernel_rfl
theorem M166 (k : Nat) : Meets Try.prog 166 (S166 k) := meets_of Try.func166 (by kernel_rfl) tbOk orc_nil mixOk (fun x y h => (e166 k x).trans h) rfl

/-! spec_l09Line: function 164 -/
noncomputable def spec_l09Line.s0 (k : Nat) (r0 : Int → Int → Int → Int → Int → Int → Option (Int × Int)) (x0 : Int) (x2_0 : Int) (x2_1 : Int) (x3_0 : Int) (x3_1 : Int) (x4 : Int) : Option (Int × Int) := if x4 < x0 then ((spec_l09Road.f (wrap64 (x4 - 1)) x4).bind fun t1 => r0 x0 x2_0 x2_1 x3_0 (orV .i64 x3_1 t1) (wrap64 (x4 + 1))) else (some (x3_0, x3_1))
noncomputable def spec_l09Line.l0 (k : Nat) : Nat → Int → Int → Int → Int → Int → Int → Option (Int × Int)
  | 0, _, _, _, _, _, _ => none
  | n + 1, x0, x1, x2, x3, x4, x5 => spec_l09Line.s0 k (spec_l09Line.l0 k n) x0 x1 x2 x3 x4 x5
noncomputable def spec_l09Line.g (k : Nat) (r0 : Int → Int → Int → Int → Int → Int → Option (Int × Int)) (a0 : Int) : Option (Int × Int) := r0 a0 0 0 a0 0 1
noncomputable def spec_l09Line.f (k : Nat) (a0 : Int) : Option (Int × Int) := spec_l09Line.g k (spec_l09Line.l0 k k) a0
noncomputable def S164 (k : Nat) : Does := ⟨[(false, [.dat (.int .i64)])], [(true, [.dat (.int .i64), .dat (.int .i64)])], fun x => spec_l09Line.f k x⟩
noncomputable def E164 (k : Nat) : En := ⟨tb, orcOf [(166, S166 k)], lvOf [(0, [(0, []), (2, []), (3, []), (4, [])])], k, 0, lvOf [], []⟩
noncomputable def n164_0 (x0 : Int) (x2_0 : Int) (x2_1 : Int) (x3_0 : Int) (x3_1 : Int) (x4 : Int) : St := ⟨21, lookA [(0, .dat (.int .i64) x0), (2, .box 0 0), (3, .box 1 0), (4, .dat (.int .i64) x4)], Go.V.look [(0, .cells [.dat (.int .i64) x2_0, .dat (.int .i64) x2_1]), (1, .cells [.dat (.int .i64) x3_0, .dat (.int .i64) x3_1])]⟩
def p164_0 : List Bool := [true, true, false, true, false]
theorem r164_0 (k : Nat) (rec : St → Option (Int × Int)) (v : Int × Int × Int × Int × Int × Int) : roundF (E164 k) (S164 k) Try.f164 p164_0 [] rec (n164_0 v.1 v.2.1 v.2.2.1 v.2.2.2.1 v.2.2.2.2.1 v.2.2.2.2.2) = spec_l09Line.s0 k (fun a0 a1 a2 a3 a4 a5 => rec (n164_0 a0 a1 a2 a3 a4 a5)) v.1 v.2.1 v.2.2.1 v.2.2.2.1 v.2.2.2.2.1 v.2.2.2.2.2 := by
  kernel_rfl
theorem q164_0 (k : Nat) (n : Nat) : ∀ v : Int × Int × Int × Int × Int × Int, loopF (E164 k) (S164 k) Try.f164 p164_0 [] n (n164_0 v.1 v.2.1 v.2.2.1 v.2.2.2.1 v.2.2.2.2.1 v.2.2.2.2.2) = spec_l09Line.l0 k n v.1 v.2.1 v.2.2.1 v.2.2.2.1 v.2.2.2.2.1 v.2.2.2.2.2 :=
  loopF_eq (E164 k) (S164 k) Try.f164 p164_0 [] (fun v : Int × Int × Int × Int × Int × Int => n164_0 v.1 v.2.1 v.2.2.1 v.2.2.2.1 v.2.2.2.2.1 v.2.2.2.2.2) (fun rec v => spec_l09Line.s0 k (fun a0 a1 a2 a3 a4 a5 => rec (a0, a1, a2, a3, a4, a5)) v.1 v.2.1 v.2.2.1 v.2.2.2.1 v.2.2.2.2.1 v.2.2.2.2.2) (fun n v => spec_l09Line.l0 k n v.1 v.2.1 v.2.2.1 v.2.2.2.1 v.2.2.2.2.1 v.2.2.2.2.2) (fun _ => rfl) (fun _ _ => rfl) (fun rec v => r164_0 k rec v) n
theorem e164 (k : Nat) (x : dens (flatC (S164 k).ps)) : funK (E164 k) (S164 k) Try.f164 x = (S164 k).fn x := by
  have h : funK (E164 k) (S164 k) Try.f164 x = spec_l09Line.g k (fun a0 a1 a2 a3 a4 a5 => loopF (E164 k) (S164 k) Try.f164 p164_0 [] k (n164_0 a0 a1 a2 a3 a4 a5)) x := by kernel_rfl
  rw [h]
  rw [show (fun a0 a1 a2 a3 a4 a5 => loopF (E164 k) (S164 k) Try.f164 p164_0 [] k (n164_0 a0 a1 a2 a3 a4 a5)) = spec_l09Line.l0 k k from funext fun a0 => funext fun a1 => funext fun a2 => funext fun a3 => funext fun a4 => funext fun a5 => q164_0 k k (a0, a1, a2, a3, a4, a5)]
  rfl
theorem M164 (k : Nat) : Meets Try.prog 164 (S164 k) := meets_of Try.func164 (by kernel_rfl) tbOk (orc_cons (M166 k) orc_nil) mixOk (fun x y h => (e164 k x).trans h) rfl

/-! spec_LineGround: function 59 -/
noncomputable def spec_LineGround.f (k : Nat) (a0 : Int) : Option (Int × Int × Int) := (spec_l01In.f a0 1 6).bind fun t1 => if t1 = true then ((spec_l09Line.f k a0).bind fun t2 => some (t2.1, t2.2, 0)) else (some (0, 0, 2))
noncomputable def S59 (k : Nat) : Does := ⟨[(false, [.dat (.int .i64)])], [(true, [.dat (.int .i64), .dat (.int .i64)]), (false, [.dat (.int .i64)])], fun x => spec_LineGround.f k x⟩
noncomputable def E59 (k : Nat) : En := ⟨tb, orcOf [(102, S102 k), (164, S164 k)], lvOf [], k, 0, lvOf [], []⟩
theorem e59 (k : Nat) (x : dens (flatC (S59 k).ps)) : funK (E59 k) (S59 k) Try.f59 x = (S59 k).fn x := by
  kernel_rfl
theorem M59 (k : Nat) : Meets Try.prog 59 (S59 k) := meets_of Try.func59 (by kernel_rfl) tbOk (orc_cons (M102 k) (orc_cons (M164 k) orc_nil)) mixOk (fun x y h => (e59 k x).trans h) rfl

/-! impl_StarGround: function 60 -/
noncomputable def impl_StarGround.s0 (k : Nat) (r0 : Int → Int → Int → Int → Int → Int → Option (Int × Int × Int)) (x0 : Int) (x2_0 : Int) (x2_1 : Int) (x4_0 : Int) (x4_1 : Int) (x5 : Int) : Option (Int × Int × Int) := if x5 < x0 then ((impl_road.f 0 x5).bind fun t2 => r0 x0 x2_0 x2_1 x4_0 (orV .i64 x4_1 t2) (wrap64 (x5 + 1))) else (some (x4_0, x4_1, 0))
noncomputable def impl_StarGround.l0 (k : Nat) : Nat → Int → Int → Int → Int → Int → Int → Option (Int × Int × Int)
  | 0, _, _, _, _, _, _ => none
  | n + 1, x0, x1, x2, x3, x4, x5 => impl_StarGround.s0 k (impl_StarGround.l0 k n) x0 x1 x2 x3 x4 x5
noncomputable def impl_StarGround.g (k : Nat) (r0 : Int → Int → Int → Int → Int → Int → Option (Int × Int × Int)) (a0 : Int) : Option (Int × Int × Int) := (impl_isPlaces.f a0).bind fun t1 => if t1 = true then (r0 a0 0 0 a0 0 1) else (some (0, 0, 2))
noncomputable def impl_StarGround.f (k : Nat) (a0 : Int) : Option (Int × Int × Int) := impl_StarGround.g k (impl_StarGround.l0 k k) a0
noncomputable def S60 (k : Nat) : Does := ⟨[(false, [.dat (.int .i64)])], [(true, [.dat (.int .i64), .dat (.int .i64)]), (false, [.dat (.int .i64)])], fun x => impl_StarGround.f k x⟩
noncomputable def E60 (k : Nat) : En := ⟨tb, orcOf [(162, S162 k), (165, S165 k)], lvOf [(0, [(0, []), (2, []), (4, []), (5, [])])], k, 0, lvOf [], []⟩
noncomputable def n60_0 (x0 : Int) (x2_0 : Int) (x2_1 : Int) (x4_0 : Int) (x4_1 : Int) (x5 : Int) : St := ⟨24, lookA [(0, .dat (.int .i64) x0), (2, .box 0 0), (4, .box 1 0), (5, .dat (.int .i64) x5)], Go.V.look [(0, .cells [.dat (.int .i64) x2_0, .dat (.int .i64) x2_1]), (1, .cells [.dat (.int .i64) x4_0, .dat (.int .i64) x4_1])]⟩
def p60_0 : List Bool := [true, true, true, false, true, false]
theorem r60_0 (k : Nat) (rec : St → Option (Int × Int × Int)) (v : Int × Int × Int × Int × Int × Int) : roundF (E60 k) (S60 k) Try.f60 p60_0 [] rec (n60_0 v.1 v.2.1 v.2.2.1 v.2.2.2.1 v.2.2.2.2.1 v.2.2.2.2.2) = impl_StarGround.s0 k (fun a0 a1 a2 a3 a4 a5 => rec (n60_0 a0 a1 a2 a3 a4 a5)) v.1 v.2.1 v.2.2.1 v.2.2.2.1 v.2.2.2.2.1 v.2.2.2.2.2 := by
  kernel_rfl
theorem q60_0 (k : Nat) (n : Nat) : ∀ v : Int × Int × Int × Int × Int × Int, loopF (E60 k) (S60 k) Try.f60 p60_0 [] n (n60_0 v.1 v.2.1 v.2.2.1 v.2.2.2.1 v.2.2.2.2.1 v.2.2.2.2.2) = impl_StarGround.l0 k n v.1 v.2.1 v.2.2.1 v.2.2.2.1 v.2.2.2.2.1 v.2.2.2.2.2 :=
  loopF_eq (E60 k) (S60 k) Try.f60 p60_0 [] (fun v : Int × Int × Int × Int × Int × Int => n60_0 v.1 v.2.1 v.2.2.1 v.2.2.2.1 v.2.2.2.2.1 v.2.2.2.2.2) (fun rec v => impl_StarGround.s0 k (fun a0 a1 a2 a3 a4 a5 => rec (a0, a1, a2, a3, a4, a5)) v.1 v.2.1 v.2.2.1 v.2.2.2.1 v.2.2.2.2.1 v.2.2.2.2.2) (fun n v => impl_StarGround.l0 k n v.1 v.2.1 v.2.2.1 v.2.2.2.1 v.2.2.2.2.1 v.2.2.2.2.2) (fun _ => rfl) (fun _ _ => rfl) (fun rec v => r60_0 k rec v) n
theorem e60 (k : Nat) (x : dens (flatC (S60 k).ps)) : funK (E60 k) (S60 k) Try.f60 x = (S60 k).fn x := by
  have h : funK (E60 k) (S60 k) Try.f60 x = impl_StarGround.g k (fun a0 a1 a2 a3 a4 a5 => loopF (E60 k) (S60 k) Try.f60 p60_0 [] k (n60_0 a0 a1 a2 a3 a4 a5)) x := by kernel_rfl
  rw [h]
  rw [show (fun a0 a1 a2 a3 a4 a5 => loopF (E60 k) (S60 k) Try.f60 p60_0 [] k (n60_0 a0 a1 a2 a3 a4 a5)) = impl_StarGround.l0 k k from funext fun a0 => funext fun a1 => funext fun a2 => funext fun a3 => funext fun a4 => funext fun a5 => q60_0 k k (a0, a1, a2, a3, a4, a5)]
  rfl
theorem M60 (k : Nat) : Meets Try.prog 60 (S60 k) := meets_of Try.func60 (by kernel_rfl) tbOk (orc_cons (M162 k) (orc_cons (M165 k) orc_nil)) mixOk (fun x y h => (e60 k x).trans h) rfl

/-! spec_StarGround: function 61 -/
noncomputable def spec_StarGround.s0 (k : Nat) (r0 : Int → Int → Int → Int → Int → Int → Option (Int × Int × Int)) (x0 : Int) (x2_0 : Int) (x2_1 : Int) (x4_0 : Int) (x4_1 : Int) (x5 : Int) : Option (Int × Int × Int) := if x5 < x0 then ((spec_l09Road.f 0 x5).bind fun t2 => r0 x0 x2_0 x2_1 x4_0 (orV .i64 x4_1 t2) (wrap64 (x5 + 1))) else (some (x4_0, x4_1, 0))
noncomputable def spec_StarGround.l0 (k : Nat) : Nat → Int → Int → Int → Int → Int → Int → Option (Int × Int × Int)
  | 0, _, _, _, _, _, _ => none
  | n + 1, x0, x1, x2, x3, x4, x5 => spec_StarGround.s0 k (spec_StarGround.l0 k n) x0 x1 x2 x3 x4 x5
noncomputable def spec_StarGround.g (k : Nat) (r0 : Int → Int → Int → Int → Int → Int → Option (Int × Int × Int)) (a0 : Int) : Option (Int × Int × Int) := (spec_l01In.f a0 1 6).bind fun t1 => if t1 = true then (r0 a0 0 0 a0 0 1) else (some (0, 0, 2))
noncomputable def spec_StarGround.f (k : Nat) (a0 : Int) : Option (Int × Int × Int) := spec_StarGround.g k (spec_StarGround.l0 k k) a0
noncomputable def S61 (k : Nat) : Does := ⟨[(false, [.dat (.int .i64)])], [(true, [.dat (.int .i64), .dat (.int .i64)]), (false, [.dat (.int .i64)])], fun x => spec_StarGround.f k x⟩
noncomputable def E61 (k : Nat) : En := ⟨tb, orcOf [(102, S102 k), (166, S166 k)], lvOf [(0, [(0, []), (2, []), (4, []), (5, [])])], k, 0, lvOf [], []⟩
noncomputable def n61_0 (x0 : Int) (x2_0 : Int) (x2_1 : Int) (x4_0 : Int) (x4_1 : Int) (x5 : Int) : St := ⟨24, lookA [(0, .dat (.int .i64) x0), (2, .box 0 0), (4, .box 1 0), (5, .dat (.int .i64) x5)], Go.V.look [(0, .cells [.dat (.int .i64) x2_0, .dat (.int .i64) x2_1]), (1, .cells [.dat (.int .i64) x4_0, .dat (.int .i64) x4_1])]⟩
def p61_0 : List Bool := [true, true, true, false, true, false]
theorem r61_0 (k : Nat) (rec : St → Option (Int × Int × Int)) (v : Int × Int × Int × Int × Int × Int) : roundF (E61 k) (S61 k) Try.f61 p61_0 [] rec (n61_0 v.1 v.2.1 v.2.2.1 v.2.2.2.1 v.2.2.2.2.1 v.2.2.2.2.2) = spec_StarGround.s0 k (fun a0 a1 a2 a3 a4 a5 => rec (n61_0 a0 a1 a2 a3 a4 a5)) v.1 v.2.1 v.2.2.1 v.2.2.2.1 v.2.2.2.2.1 v.2.2.2.2.2 := by
  kernel_rfl
theorem q61_0 (k : Nat) (n : Nat) : ∀ v : Int × Int × Int × Int × Int × Int, loopF (E61 k) (S61 k) Try.f61 p61_0 [] n (n61_0 v.1 v.2.1 v.2.2.1 v.2.2.2.1 v.2.2.2.2.1 v.2.2.2.2.2) = spec_StarGround.l0 k n v.1 v.2.1 v.2.2.1 v.2.2.2.1 v.2.2.2.2.1 v.2.2.2.2.2 :=
  loopF_eq (E61 k) (S61 k) Try.f61 p61_0 [] (fun v : Int × Int × Int × Int × Int × Int => n61_0 v.1 v.2.1 v.2.2.1 v.2.2.2.1 v.2.2.2.2.1 v.2.2.2.2.2) (fun rec v => spec_StarGround.s0 k (fun a0 a1 a2 a3 a4 a5 => rec (a0, a1, a2, a3, a4, a5)) v.1 v.2.1 v.2.2.1 v.2.2.2.1 v.2.2.2.2.1 v.2.2.2.2.2) (fun n v => spec_StarGround.l0 k n v.1 v.2.1 v.2.2.1 v.2.2.2.1 v.2.2.2.2.1 v.2.2.2.2.2) (fun _ => rfl) (fun _ _ => rfl) (fun rec v => r61_0 k rec v) n
theorem e61 (k : Nat) (x : dens (flatC (S61 k).ps)) : funK (E61 k) (S61 k) Try.f61 x = (S61 k).fn x := by
  have h : funK (E61 k) (S61 k) Try.f61 x = spec_StarGround.g k (fun a0 a1 a2 a3 a4 a5 => loopF (E61 k) (S61 k) Try.f61 p61_0 [] k (n61_0 a0 a1 a2 a3 a4 a5)) x := by kernel_rfl
  rw [h]
  rw [show (fun a0 a1 a2 a3 a4 a5 => loopF (E61 k) (S61 k) Try.f61 p61_0 [] k (n61_0 a0 a1 a2 a3 a4 a5)) = spec_StarGround.l0 k k from funext fun a0 => funext fun a1 => funext fun a2 => funext fun a3 => funext fun a4 => funext fun a5 => q61_0 k k (a0, a1, a2, a3, a4, a5)]
  rfl
theorem M61 (k : Nat) : Meets Try.prog 61 (S61 k) := meets_of Try.func61 (by kernel_rfl) tbOk (orc_cons (M102 k) (orc_cons (M166 k) orc_nil)) mixOk (fun x y h => (e61 k x).trans h) rfl

/-! impl_RingGround: function 62 -/
noncomputable def impl_RingGround.f (k : Nat) (a0 : Int) : Option (Int × Int × Int) := (impl_within.f a0 3 6).bind fun t1 => if t1 = true then ((impl_line.f k a0).bind fun t2 => (impl_road.f 0 (wrap64 (a0 - 1))).bind fun t3 => some (t2.1, (orV .i64 t2.2 t3), 0)) else (some (0, 0, 2))
noncomputable def S62 (k : Nat) : Does := ⟨[(false, [.dat (.int .i64)])], [(true, [.dat (.int .i64), .dat (.int .i64)]), (false, [.dat (.int .i64)])], fun x => impl_RingGround.f k x⟩
noncomputable def E62 (k : Nat) : En := ⟨tb, orcOf [(108, S108 k), (163, S163 k), (165, S165 k)], lvOf [], k, 0, lvOf [], []⟩
theorem e62 (k : Nat) (x : dens (flatC (S62 k).ps)) : funK (E62 k) (S62 k) Try.f62 x = (S62 k).fn x := by
  kernel_rfl
theorem M62 (k : Nat) : Meets Try.prog 62 (S62 k) := meets_of Try.func62 (by kernel_rfl) tbOk (orc_cons (M108 k) (orc_cons (M163 k) (orc_cons (M165 k) orc_nil))) mixOk (fun x y h => (e62 k x).trans h) rfl

/-! spec_RingGround: function 63 -/
noncomputable def spec_RingGround.f (k : Nat) (a0 : Int) : Option (Int × Int × Int) := (spec_l01In.f a0 3 6).bind fun t1 => if t1 = true then ((spec_l09Line.f k a0).bind fun t2 => (spec_l09Road.f 0 (wrap64 (a0 - 1))).bind fun t3 => some (t2.1, (orV .i64 t2.2 t3), 0)) else (some (0, 0, 2))
noncomputable def S63 (k : Nat) : Does := ⟨[(false, [.dat (.int .i64)])], [(true, [.dat (.int .i64), .dat (.int .i64)]), (false, [.dat (.int .i64)])], fun x => spec_RingGround.f k x⟩
noncomputable def E63 (k : Nat) : En := ⟨tb, orcOf [(102, S102 k), (164, S164 k), (166, S166 k)], lvOf [], k, 0, lvOf [], []⟩
theorem e63 (k : Nat) (x : dens (flatC (S63 k).ps)) : funK (E63 k) (S63 k) Try.f63 x = (S63 k).fn x := by
  kernel_rfl
theorem M63 (k : Nat) : Meets Try.prog 63 (S63 k) := meets_of Try.func63 (by kernel_rfl) tbOk (orc_cons (M102 k) (orc_cons (M164 k) (orc_cons (M166 k) orc_nil))) mixOk (fun x y h => (e63 k x).trans h) rfl

/-! impl_IsGround: function 68 -/
noncomputable def impl_IsGround.f (a0_0 : Int) (a0_1 : Int) : Option (Bool) := (impl_within.f a0_0 1 6).bind fun t1 => if t1 = true then (if (wrap64 (Int.tdiv (wrap64 (a0_0 * (wrap64 (a0_0 - 1)))) 2)) < 0 then (none) else ((impl_within.f a0_1 0 (wrap64 ((shlV .i64 1 (wrap64 (Int.tdiv (wrap64 (a0_0 * (wrap64 (a0_0 - 1)))) 2))) - 1))).bind fun t2 => some t2)) else (some false)
noncomputable def S68 (k : Nat) : Does := ⟨[(true, [.dat (.int .i64), .dat (.int .i64)])], [(false, [.dat .bool])], fun x => impl_IsGround.f x.1 x.2⟩
noncomputable def E68 (k : Nat) : En := ⟨tb, orcOf [(108, S108 k)], lvOf [], k, 0, lvOf [], []⟩
theorem e68 (k : Nat) (x : dens (flatC (S68 k).ps)) : funK (E68 k) (S68 k) Try.f68 x = (S68 k).fn x := by
  kernel_rfl
theorem M68 (k : Nat) : Meets Try.prog 68 (S68 k) := meets_of Try.func68 (by kernel_rfl) tbOk (orc_cons (M108 k) orc_nil) mixOk (fun x y h => (e68 k x).trans h) rfl

/-! impl_groundCode: function 107 -/
noncomputable def impl_groundCode.f (a0_0 : Int) (a0_1 : Int) (a1 : Bool) : Option (Int) := (impl_IsGround.f a0_0 a0_1).bind fun t1 => if (!decide (t1 = true)) = true then (some 1) else (if (!decide (a1 = true)) = true then (some 2) else (some 0))
noncomputable def S107 (k : Nat) : Does := ⟨[(true, [.dat (.int .i64), .dat (.int .i64)]), (false, [.dat .bool])], [(false, [.dat (.int .i64)])], fun x => impl_groundCode.f x.1 x.2.1 x.2.2⟩
noncomputable def E107 (k : Nat) : En := ⟨tb, orcOf [(68, S68 k)], lvOf [], k, 0, lvOf [], []⟩
theorem e107 (k : Nat) (x : dens (flatC (S107 k).ps)) : funK (E107 k) (S107 k) Try.f107 x = (S107 k).fn x := by
  kernel_rfl
theorem M107 (k : Nat) : Meets Try.prog 107 (S107 k) := meets_of Try.func107 (by kernel_rfl) tbOk (orc_cons (M68 k) orc_nil) mixOk (fun x y h => (e107 k x).trans h) rfl

/-! bits_Mul64: function 231 -/
noncomputable def bits_Mul64.f (a0 : Int) (a1 : Int) : Option (Int × Int) := some ((IntKind.wrap .u64 ((IntKind.wrap .u64 ((IntKind.wrap .u64 ((shrV .u64 a0 32) * (shrV .u64 a1 32))) + (shrV .u64 (IntKind.wrap .u64 ((IntKind.wrap .u64 ((shrV .u64 a0 32) * (andV .u64 a1 4294967295))) + (shrV .u64 (IntKind.wrap .u64 ((andV .u64 a0 4294967295) * (andV .u64 a1 4294967295))) 32))) 32))) + (shrV .u64 (IntKind.wrap .u64 ((andV .u64 (IntKind.wrap .u64 ((IntKind.wrap .u64 ((shrV .u64 a0 32) * (andV .u64 a1 4294967295))) + (shrV .u64 (IntKind.wrap .u64 ((andV .u64 a0 4294967295) * (andV .u64 a1 4294967295))) 32))) 4294967295) + (IntKind.wrap .u64 ((andV .u64 a0 4294967295) * (shrV .u64 a1 32))))) 32))), (IntKind.wrap .u64 (a0 * a1)))
noncomputable def S231 (k : Nat) : Does := ⟨[(false, [.dat (.int .u64)]), (false, [.dat (.int .u64)])], [(false, [.dat (.int .u64)]), (false, [.dat (.int .u64)])], fun x => bits_Mul64.f x.1 x.2⟩
noncomputable def E231 (k : Nat) : En := ⟨tb, orcOf [], lvOf [], k, 0, lvOf [], []⟩
theorem e231 (k : Nat) (x : dens (flatC (S231 k).ps)) : funK (E231 k) (S231 k) Try.f231 x = (S231 k).fn x := by
  kernel_rfl
theorem M231 (k : Nat) : Meets Try.prog 231 (S231 k) := meets_of Try.func231 (by kernel_rfl) tbOk orc_nil mixOk (fun x y h => (e231 k x).trans h) rfl

/-! bits_Mul: function 209 -/
noncomputable def bits_Mul.f (a0 : Int) (a1 : Int) : Option (Int × Int) := (bits_Mul64.f a0 a1).bind fun t1 => some (t1.1, t1.2)
noncomputable def S209 (k : Nat) : Does := ⟨[(false, [.dat (.int .u64)]), (false, [.dat (.int .u64)])], [(false, [.dat (.int .u64)]), (false, [.dat (.int .u64)])], fun x => bits_Mul.f x.1 x.2⟩
noncomputable def E209 (k : Nat) : En := ⟨tb, orcOf [(231, S231 k)], lvOf [], k, 0, lvOf [], []⟩
theorem e209 (k : Nat) (x : dens (flatC (S209 k).ps)) : funK (E209 k) (S209 k) Try.f209 x = (S209 k).fn x := by
  kernel_rfl
theorem M209 (k : Nat) : Meets Try.prog 209 (S209 k) := meets_of Try.func209 (by kernel_rfl) tbOk (orc_cons (M231 k) orc_nil) mixOk (fun x y h => (e209 k x).trans h) rfl

/-! slices_Repeat_int64_int64: function 109 -/
structure Aside0 (p : Prop) : Prop where mk :: (out : p)
theorem rep_mul {n : Nat} (hn : n < 4294967296) : bits_Mul.f 1 (n : Int) = some (0, (n : Int)) := by
  have w : ∀ x : Int, 0 ≤ x → x < 18446744073709551616 → IntKind.u64.wrap x = x := fun x h0 h1 => IntWalk.u64_in x ⟨h0, by omega⟩
  have m0 : ∀ b : Nat, IntKind.u64.bits = 64 := fun _ => rfl
  have a1 : andV .u64 1 4294967295 = 1 := by rw [andV_eq]; decide
  have a2 : andV .u64 (n : Int) 4294967295 = n := by
    rw [andV_eq, wrapV_eq]
    have e : ((BitVec.ofInt IntKind.u64.bits (n : Int) &&& BitVec.ofInt IntKind.u64.bits 4294967295).toNat) = n := by
      show ((BitVec.ofInt 64 (n : Int) &&& BitVec.ofInt 64 4294967295).toNat) = n
      rw [BitVec.toNat_and]
      have e1 : (BitVec.ofInt 64 (n : Int)).toNat = n := by simp; omega
      have e2 : (BitVec.ofInt 64 4294967295).toNat = 2 ^ 32 - 1 := by decide
      rw [e1, e2, Nat.and_two_pow_sub_one_eq_mod, Nat.mod_eq_of_lt (by omega)]
    rw [e]; exact w _ (by omega) (by omega)
  have s1 : shrV .u64 1 32 = 0 := by rw [shrV_eq]; decide
  have s2 : shrV .u64 (n : Int) 32 = 0 := by
    rw [shrV_eq]
    show (n : Int).fdiv 4294967296 = 0
    rw [Int.fdiv_eq_ediv_of_nonneg _ (by omega)]; omega
  have s3 : shrV .u64 0 32 = 0 := by rw [shrV_eq]; decide
  have a0 : andV .u64 0 4294967295 = 0 := by rw [andV_eq]; decide
  unfold bits_Mul.f bits_Mul64.f
  simp only [s1, s2, a1, a2, Int.zero_mul, Int.one_mul, Int.mul_zero, Option.bind_some, w 0 (by omega) (by omega), w n (by omega) (by omega), s3, Int.add_zero, a0]
theorem rep_mulc {n : Nat} (hn : n < 4294967296) (w : World) : Calls Try.prog 209 #[.int .u64 1, .int .u64 (n : Int)] w fun e w' => e = .returned (.tuple #[.int .u64 0, .int .u64 (n : Int)]) ∧ Below w.heap.size w w' := by
  refine ((M209 0).calls w (fun _ => False) [.int .u64 1, .int .u64 (n : Int)] [.int .u64 1, .int .u64 (n : Int)] (show Int × Int from (1, (n : Int))) (show Int × Int from (0, (n : Int))) ?_ (fun _ h => h.elim) ?_ ?_ ?_).mono ?_
  · exact ⟨_, _, _, rfl, rfl, rfl, rfl, _, _, _, rfl, rfl, rfl, rfl, rfl, rfl⟩
  · exact ⟨_, _, rfl, rfl, _, rfl, rfl⟩
  · exact List.nodup_nil
  · exact rep_mul hn
  · rintro e w' ⟨v, vs, rc, rfl, hg, hc, hf, hp, -, -⟩
    obtain ⟨v1, vs1, cs1, -, rfl, -, rfl, v2, vs2, cs2, -, rfl, -, rfl, rfl, rfl⟩ := hc
    obtain ⟨u1, us, e1, h1, u2, e2, h2⟩ := hp
    have e1 : [v1, v2] = u1 :: us := e1
    obtain ⟨rfl, rfl⟩ := List.cons.inj e1
    obtain ⟨rfl, -⟩ := List.cons.inj e2
    have h1 : [v1] = [Value.int .u64 0] := h1
    have h2 : [v2] = [Value.int .u64 (n : Int)] := h2
    cases h1; cases h2
    have hg : v = _ := hg
    subst hg
    exact ⟨rfl, hf.os, hf.tape, hf.output, hf.size, fun k hk => hf.block k hk fun h => by cases (show k ∈ ([] : List Nat) from h)⟩

def repSt (v : Int) (n c : Nat) : List Value := List.replicate c (.int .i64 v) ++ List.replicate (n - c) (.int .i64 0)
def repCs (v : Int) (d : Nat) : List Value := List.replicate d (.int .i64 v)
theorem repSt_len (v : Int) (n c : Nat) (h : c ≤ n) : (repSt v n c).length = n := by simp [repSt]; omega
theorem repSt_zero (v : Int) (n : Nat) : (madeCells #[Value.int .i64 0] n) = (repSt v n 0).toArray := by
  apply Array.ext'
  apply List.ext_getElem
  · simp [repSt, madeCells]
  · intro i h1 h2
    simp [repSt, madeCells, Nat.mod_one]
theorem repSt_splice (v : Int) (n c d : Nat) (h : c + d ≤ n) : splice (repSt v n c) c (repCs v d) = repSt v n (c + d) := by
  unfold splice repSt repCs
  rw [List.take_append_of_le_length (by simp), List.take_of_length_le (by simp), List.length_replicate, List.drop_append, List.drop_eq_nil_of_le (by simp), List.nil_append, List.drop_replicate, List.length_replicate, ← List.append_assoc, List.replicate_append_replicate]
  congr 2
  omega
theorem repCell (v : Int) (n c : Nat) (w : World) (g : Nat) (hg : w.heap[g]? = some (.cells (repSt v n c).toArray 2 (0, 0))) (d : Nat) (hd : d ≤ c) (ad : Addr) (ha : ad = ⟨g, 0, none⟩) : ∀ j u, (repCs v d)[j]? = some u → w.cell? (ad.add j) = some u := by
  intro j u hu
  subst ha
  have hj : j < d := by
    rcases Nat.lt_or_ge j d with h | h
    · exact h
    · simp [repCs, List.getElem?_eq_none (show (List.replicate d (Value.int IntKind.i64 v)).length ≤ j by simpa using h)] at hu
  simp [repCs, hj] at hu
  subst hu
  have e : (repSt v n c)[j]? = some (.int .i64 v) := by
    simp only [repSt]
    rw [List.getElem?_append_left (by simp; omega), List.getElem?_replicate, if_pos (by omega)]
  have ea : (⟨g, 0, none⟩ : Addr).add j = ⟨g, j, none⟩ := by unfold Addr.add; split <;> simp_all
  rw [ea]
  simp [World.cell?, hg, e]

set_option maxHeartbeats 2000000 in
set_option maxRecDepth 100000 in
theorem rep_calls (A0 : Option Addr) (ad0 : Addr) (hA : A0 = some ad0) (c0 : Nat) (v : Int) (n : Nat) (w : World) (hr0 : w.cell? ad0 = some (.int .i64 v)) (hn : n ≤ 1048576) :
    Calls Try.prog 109 #[.slice A0 1 c0, .int .i64 n] w fun e w' => ∃ g, e = .returned (.slice (some ⟨g, 0, none⟩) n n) ∧ w.heap.size ≤ g ∧ w'.heap[g]? = some (.cells (repSt v n n).toArray 2 (0, 0)) ∧ Below w.heap.size w w' := by
  have HM := Aside0.mk (rep_mulc (n := n) (by omega))
  have hinfo : (Try.prog.info? 2).map (fun i => (i.zero, i.size, i.bytes)) = some (some (.int .i64 0), 1, 8) := by kernel_rfl
  have hu : Try.prog.underlying 29 = some (.slice 2) := by kernel_rfl
  have hmk : ∀ W : World, (Instr.makeSlice 29 (.int .i64 (n : Int)) (.int .i64 (n : Int))).run Try.prog W = .ok (.slice (some ⟨W.heap.size, 0, none⟩) n n) (W.alloc (.cells (madeCells #[.int .i64 0] n) 2)) :=
    run_make_row' 29 2 (.int .i64 0) 8 hu hinfo rfl .i64 .i64 n (by omega) (by omega)
  have c1 : decide (9223372036854775807 < (n : Int)) = false := decide_eq_false (by omega)
  have c2 : decide ((n : Int) < 0) = false := decide_eq_false (by omega)
  have HA0 : Aside0 (∀ W : World, Below w.heap.size w W → 0 < (repCs v (Nat.min 1 n)).length → ∃ ad, A0 = some ad ∧ ∀ j u, (repCs v (Nat.min 1 n))[j]? = some u → W.cell? (ad.add j) = some u) := ⟨fun W hW hp => by
    refine ⟨ad0, hA, fun j u hu => ?_⟩
    have hj : j < Nat.min 1 n := by
      rcases Nat.lt_or_ge j (Nat.min 1 n) with h | h
      · exact h
      · rw [repCs, List.getElem?_eq_none (by simpa using h)] at hu; cases hu
    have hm : Nat.min 1 n ≤ 1 := Nat.min_le_left 1 n
    have hj0 : j = 0 := by omega
    subst hj0
    rw [repCs, List.getElem?_replicate, if_pos hj] at hu
    obtain rfl := Option.some.inj hu
    have ea : ad0.add 0 = ad0 := by cases ad0; unfold Addr.add; split <;> simp_all
    rw [ea, hW.cell (World.block_lt_of_cell? w _ hr0)]
    exact hr0⟩
  have HL : Aside0 ((repCs v (Nat.min 1 n)).length = Nat.min 1 n) := ⟨by simp [repCs]⟩
  have HF : Aside0 (0 + (repCs v (Nat.min 1 n)).length ≤ (repSt v n 0).length) := ⟨by rw [repSt_len v n 0 (by omega), HL.out]; have : Nat.min 1 n ≤ n := Nat.min_le_right 1 n; omega⟩
  have HO : Aside0 (∀ d, ∀ u ∈ repCs v d, u.oneCell' = true) := ⟨fun d u hu => by rw [(List.mem_replicate.mp hu).2]; rfl⟩
  have hsz : (Try.prog.info? 2).map (·.size) = some 1 := by kernel_rfl
  have HU := Aside0.mk hu
  clear hr0 hA hinfo hu
  go_enter Try.func109, Try.ntmps109
  go_wp2_with fail
  refine (HM.out _).mono ?_
  rintro e wb ⟨rfl, hwb⟩
  have HB0 := Aside0.mk hwb
  clear hwb
  have HG : Aside0 ((wb.alloc (.cells (madeCells #[Value.int .i64 0] n) 2)).heap[wb.heap.size]? = some (.cells (repSt v n 0).toArray 2 (0, 0))) := ⟨by rw [repSt_zero v n]; exact heap_alloc_new wb _⟩
  go_wp2_with ((refine wpList_copy_splice rfl (.tmp 31) (.tmp 32) 29 29 rfl 2 HU.out hsz _ _ n n 1 c0 rfl rfl wb.heap.size 0 (repSt v n 0) 2 HG.out (repCs v (Nat.min 1 n)) HL.out (fun hp => ⟨rfl, HA0.out _ (HB0.out.alloc HB0.out.size _) hp⟩) HF.out (HO.out _) w.heap.size w (HB0.out.alloc HB0.out.size _) HB0.out.size ?_; intro w1 hg1 hb1))
  replace hg1 : Hid (w1.heap[wb.heap.size]? = some (.cells (repSt v n (Nat.min 1 n)).toArray 2 (0, 0))) := by
    have h := hg1
    rw [repSt_splice v n 0 (Nat.min 1 n) (by have : Nat.min 1 n ≤ n := Nat.min_le_right 1 n; omega), Nat.zero_add] at h
    exact h
  have hmin : Nat.min 1 n ≤ n := Nat.min_le_right 1 n
  have hmin1 : n = 0 ∨ 1 ≤ Nat.min 1 n := by
    rcases Nat.eq_zero_or_pos n with h | h
    · exact .inl h
    · exact .inr (Nat.le_min.mpr ⟨Nat.le_refl _, h⟩)
  go_loopg [8] n (fun gg s8 wr => ∃ c : Nat, c ≤ n ∧ Aside0 (n = 0 ∨ 1 ≤ c) ∧ n - c ≤ gg ∧ s8 = .int .i64 c ∧ Aside0 (wr.heap[wb.heap.size]? = some (.cells (repSt v n c).toArray 2 (0, 0))) ∧ Aside0 (Below w.heap.size w wr))
  case atStart => exact ⟨Nat.min 1 n, hmin, ⟨hmin1⟩, by omega, by rw [HL.out], ⟨hg1⟩, ⟨hb1⟩⟩
  case round =>
    clear HG HA0 hmk
    obtain ⟨c, hc, H1, hgg, rfl, HG, HB⟩ := hrel
    by_cases hlt : c < n
    · have hltz : (c : Int) < (n : Int) := by omega
      have hne : ¬ n = c := by omega
      have HL2 : Aside0 ((repCs v (Nat.min c (n - c))).length = Nat.min c (n - c)) := ⟨by simp [repCs]⟩
      have hm1 : Nat.min c (n - c) ≤ c := Nat.min_le_left _ _
      have hm2 : Nat.min c (n - c) ≤ n - c := Nat.min_le_right _ _
      have HF2 : Aside0 (c + (repCs v (Nat.min c (n - c))).length ≤ (repSt v n c).length) := ⟨by rw [repSt_len v n c hc, HL2.out]; omega⟩
      have HC2 : Aside0 (∀ W : World, W.heap = wr.heap → ∀ j u, (repCs v (Nat.min c (n - c)))[j]? = some u → W.cell? ((⟨wb.heap.size, 0, none⟩ : Addr).add j) = some u) := ⟨fun W hW => repCell v n c W wb.heap.size (by rw [hW]; exact HG.out) _ hm1 _ rfl⟩
      go_wp2
      go_region_law ((refine step_copy_splice rfl (.tmp 41) (.tmp 44) 29 29 rfl 2 HU.out hsz (some ⟨wb.heap.size, c, none⟩) (some ⟨wb.heap.size, 0, none⟩) (n - c) (n - c) c n (by simp [Act.eval, Act.put]) (by simp [Act.eval, Act.put]) wb.heap.size c (repSt v n c) 2 (by exact HG.out) (repCs v (Nat.min c (n - c))) HL2.out (fun _ => ⟨rfl, _, rfl, HC2.out _ rfl⟩) HF2.out (HO.out _) w.heap.size w (by first | exact HB.out | exact HB.out.drew) HB0.out.size ?_; intro w4 hg4 hb4))
      have hg5 : w4.heap[wb.heap.size]? = some (.cells (repSt v n (c + Nat.min c (n - c))).toArray 2 (0, 0)) := by
        have h := hg4
        rw [repSt_splice v n c (Nat.min c (n - c)) (by omega)] at h
        exact h
      have HG5 := Aside0.mk hg5
      have HB5 := Aside0.mk hb4
      clear hg5 hg4 hb4
      have hpos : 1 ≤ Nat.min c (n - c) := Nat.le_min.mpr ⟨by have := H1.out; omega, by omega⟩
      have HW := Aside0.mk (show IntKind.i64.wrap ((c : Int) + ((repCs v (Nat.min c (n - c))).length : Int)) = ((c + Nat.min c (n - c) : Nat) : Int) by rw [HL2.out, IntWalk.i64_in _ (by omega)]; omega)
      go_wp2
      go_roundg (n - (c + Nat.min c (n - c)))
      case measure => omega
      case rel => exact ⟨c + Nat.min c (n - c), by omega, ⟨.inr (by have := H1.out; omega)⟩, Nat.le_refl _, by rw [← HW.out], HG5, HB5⟩
    · have c3 : decide ((c : Int) < (n : Int)) = false := decide_eq_false (by omega)
      have c4 : decide (c < n) = false := decide_eq_false hlt
      have hcn : c = n := by omega
      have HN : Aside0 (repSt v n c = repSt v n n) := ⟨by rw [hcn]⟩
      clear hcn
      go_wp2
      go_ret
      exact ⟨wb.heap.size, rfl, HB0.out.size, by rw [← HN.out]; exact HG.out, HB.out⟩

noncomputable def slices_Repeat_int64_int64.f (l0 : List Int) (a1 : Int) : Option (List Int) :=
  match l0 with
  | [v] => if 0 ≤ a1 ∧ a1 ≤ 1048576 then some (List.replicate a1.toNat v) else none
  | _ => none
noncomputable def S109 (k : Nat) : Does := ⟨[(false, [.dat (.list (.int .i64))]), (false, [.dat (.int .i64)])], [(false, [.own 2 (.int .i64)])], fun x => slices_Repeat_int64_int64.f x.1 x.2⟩
theorem rep_elems (w : World) (N : Nat → Prop) (v : Int) : ∀ n, Elems w N (.int .i64) (List.replicate n v) (List.replicate n (Value.int .i64 v))
  | 0 => rfl
  | n + 1 => ⟨[Value.int .i64 v], List.replicate n (Value.int .i64 v), rfl, rfl, rep_elems w N v n⟩
theorem rep_inv {l0 : List Int} {a1 : Int} {y : List Int} (h : slices_Repeat_int64_int64.f l0 a1 = some y) : ∃ (v : Int) (n : Nat), l0 = [v] ∧ a1 = (n : Int) ∧ n ≤ 1048576 ∧ y = List.replicate n v := by
  unfold slices_Repeat_int64_int64.f at h
  split at h
  · split at h
    · rename_i hb
      cases h
      obtain ⟨n, rfl⟩ := Int.eq_ofNat_of_zero_le hb.1
      exact ⟨_, n, rfl, rfl, by omega, rfl⟩
    · cases h
  · cases h
theorem M109 (k : Nat) : Meets Try.prog 109 (S109 k) := by
  refine ⟨fun args w => by
    have hf := Try.func109
    have h1 : (Try.f109.name == "runtime.NumGoroutine") = false := by kernel_rfl
    have h1 : Try.f109.name ≠ "runtime.NumGoroutine" := by simpa using h1
    obtain ⟨c, hc⟩ := Option.isSome_iff_exists.1 (show Try.f109.body.isSome = true by kernel_rfl)
    simp [callFunc, hf, h1, hc, mark], ?_⟩
  intro w X args cells x y hc hX hp hn hy
  obtain ⟨v1, vs1, cs1, -, rfl, -, rfl, v2, vs2, cs2, -, rfl, -, rfl, rfl, rfl⟩ := hc
  obtain ⟨u1, us, e1, h1, u2, e2, h2⟩ := hp
  obtain ⟨rfl, rfl⟩ := List.cons.inj e1
  obtain ⟨rfl, -⟩ := List.cons.inj e2
  obtain ⟨l0, a1⟩ := x
  obtain ⟨v, n, e5, e6, hb, rfl⟩ := rep_inv hy
  have e5 : l0 = [v] := e5
  have e6 : a1 = (n : Int) := e6
  subst e5; subst e6
  obtain ⟨A, cap, e3, hcap, -, hel⟩ := h1
  have e4 : [v2] = [Value.int .i64 (n : Int)] := h2
  cases e3; cases e4
  obtain ⟨ad, hA, c, hlc, hat, hrc⟩ := hel 0 (Nat.zero_lt_one)
  have hrc : c = [Value.int .i64 v] := hrc
  subst hrc
  have hcell := (hat 0 (by simp)).2
  have ea : (ad.add (0 * (Ty.int IntKind.i64).size)).add 0 = ad := by
    rw [Nat.zero_mul]
    have e : ad.add 0 = ad := by cases ad; unfold Addr.add; split <;> simp_all
    rw [e, e]
  rw [ea] at hcell
  refine (rep_calls A ad hA cap v n w hcell hb).mono ?_
  rintro e w' ⟨g, rfl, hg, hrow, hB⟩
  refine ⟨_, [.slice (some ⟨g, 0, none⟩) n n], [.slice (some ⟨g, 0, none⟩) n n], rfl, rfl, ⟨_, _, _, rfl, rfl, rfl, rfl, rfl, rfl⟩, ⟨hB.os, hB.tape, hB.output, hB.size, fun r hr _ => hB.block r hr⟩, ?_, ?_, ?_⟩
  · refine ⟨_, rfl, List.replicate n (Value.int .i64 v), ?_, ?_⟩
    · show w'.ownsRow 0 2 1 _ (List.replicate n v).length _
      rw [List.length_replicate]
      refine ⟨by simp, .inr ⟨g, n, _, rfl, Nat.zero_le _, hrow, Nat.le_refl _, Nat.le_trans hb (by decide), ?_, ?_⟩⟩
      · simp [repSt]
      · simp [repSt]
    · exact rep_elems _ _ v n
  · show ([g] : List Nat).Nodup
    simp
  · intro r hr
    have hr : r ∈ [g] := hr
    rw [List.mem_singleton.1 hr]; exact hg

/-! impl_Ground_joins: function 218 -/
noncomputable def impl_Ground_joins.f (a0_0 : Int) (a0_1 : Int) (a1 : Int) (a2 : Int) : Option (Bool) := if a1 = a2 then (some false) else ((impl_road.f a1 a2).bind fun t1 => some (!decide ((andV .i64 a0_1 t1) = 0)))
noncomputable def S218 (k : Nat) : Does := ⟨[(true, [.dat (.int .i64), .dat (.int .i64)]), (false, [.dat (.int .i64)]), (false, [.dat (.int .i64)])], [(false, [.dat .bool])], fun x => impl_Ground_joins.f x.1 x.2.1 x.2.2.1 x.2.2.2⟩
noncomputable def E218 (k : Nat) : En := ⟨tb, orcOf [(165, S165 k)], lvOf [], k, 0, lvOf [], []⟩
theorem e218 (k : Nat) (x : dens (flatC (S218 k).ps)) : funK (E218 k) (S218 k) Try.f218 x = (S218 k).fn x := by
  kernel_rfl
theorem M218 (k : Nat) : Meets Try.prog 218 (S218 k) := meets_of Try.func218 (by kernel_rfl) tbOk (orc_cons (M165 k) orc_nil) mixOk (fun x y h => (e218 k x).trans h) rfl

/-! impl_Ground_distances: function 168 -/
noncomputable def impl_Ground_distances.s1 (k : Nat) (r0 : Int → Int → (List Int) → (List Int) → Option ((List Int))) (r1 : Int → Int → (List Int) → (List Int) → Int → Int → Option ((List Int))) (x2_0 : Int) (x2_1 : Int) (x5 : List Int) (x6 : List Int) (x23 : Int) (x24 : Int) : Option ((List Int)) := if x24 < x23 then (if 0 ≤ x24 then (if x24 < (x5.length : Int) then (if (rd x5 x24) < 0 then (if 0 < (x6.length : Int) then ((impl_Ground_joins.f x2_0 x2_1 (rd x6 0) x24).bind fun t2 => if t2 = true then (if 0 < (x6.length : Int) then (if 0 ≤ (rd x6 0) then (if (rd x6 0) < (x5.length : Int) then (if 0 ≤ x24 then (if x24 < (x5.length : Int) then (if x6.length + 1 ≤ 1099511627776 then (r1 x2_0 x2_1 (x5.set x24.toNat (wrap64 ((rd x5 (rd x6 0)) + 1))) (x6 ++ [x24]) x23 (wrap64 (x24 + 1))) else (none)) else (none)) else (none)) else (none)) else (none)) else (none)) else (r1 x2_0 x2_1 x5 x6 x23 (wrap64 (x24 + 1)))) else (none)) else (r1 x2_0 x2_1 x5 x6 x23 (wrap64 (x24 + 1)))) else (none)) else (none)) else (if 1 ≤ (x6.length : Int) then (if (x6.length : Int) ≤ (x6.length : Int) then (r0 x2_0 x2_1 x5 (x6.drop (1 : Int).toNat)) else (none)) else (none))
noncomputable def impl_Ground_distances.l1 (k : Nat) (r0 : Int → Int → (List Int) → (List Int) → Option ((List Int))) : Nat → Int → Int → (List Int) → (List Int) → Int → Int → Option ((List Int))
  | 0, _, _, _, _, _, _ => none
  | n + 1, x0, x1, x2, x3, x4, x5 => impl_Ground_distances.s1 k r0 (impl_Ground_distances.l1 k r0 n) x0 x1 x2 x3 x4 x5
noncomputable def impl_Ground_distances.s0 (k : Nat) (r0 : Int → Int → (List Int) → (List Int) → Option ((List Int))) (r1 : Int → Int → (List Int) → (List Int) → Int → Int → Option ((List Int))) (x2_0 : Int) (x2_1 : Int) (x5 : List Int) (x6 : List Int) : Option ((List Int)) := if 0 < (x6.length : Int) then (r1 x2_0 x2_1 x5 x6 x2_0 0) else (some x5)
noncomputable def impl_Ground_distances.l0 (k : Nat) : Nat → Int → Int → (List Int) → (List Int) → Option ((List Int))
  | 0, _, _, _, _ => none
  | n + 1, x0, x1, x2, x3 => impl_Ground_distances.s0 k (impl_Ground_distances.l0 k n) (impl_Ground_distances.l1 k (impl_Ground_distances.l0 k n) k) x0 x1 x2 x3
noncomputable def impl_Ground_distances.g (k : Nat) (r0 : Int → Int → (List Int) → (List Int) → Option ((List Int))) (a0_0 : Int) (a0_1 : Int) (a1 : Int) : Option ((List Int)) := (slices_Repeat_int64_int64.f [(-1)] a0_0).bind fun t1 => if 0 ≤ a1 then (if a1 < (t1.length : Int) then (r0 a0_0 a0_1 (t1.set a1.toNat 0) [a1]) else (none)) else (none)
noncomputable def impl_Ground_distances.f (k : Nat) (a0_0 : Int) (a0_1 : Int) (a1 : Int) : Option ((List Int)) := impl_Ground_distances.g k (impl_Ground_distances.l0 k k) a0_0 a0_1 a1
noncomputable def S168 (k : Nat) : Does := ⟨[(true, [.dat (.int .i64), .dat (.int .i64)]), (false, [.dat (.int .i64)])], [(false, [.own 2 (.int .i64)])], fun x => impl_Ground_distances.f k x.1 x.2.1 x.2.2⟩
noncomputable def E168 (k : Nat) : En := ⟨tb, orcOf [(109, S109 k), (218, S218 k)], lvOf [(0, [(2, []), (5, []), (6, [.que])]), (2, [(2, []), (5, []), (6, []), (23, []), (24, [])])], k, 0, lvOf [], []⟩
noncomputable def n168_0 (x2_0 : Int) (x2_1 : Int) (x5 : List Int) (x6 : List Int) : St := ⟨56, lookA [(2, .box 0 0), (5, .own 1), (6, .own 2)], Go.V.look [(0, .cells [.dat (.int .i64) x2_0, .dat (.int .i64) x2_1]), (1, .flat 2 (.int .i64) x5), (2, .que 2 (.int .i64) x6)]⟩
def p168_0 : List Bool := [true, true, true, false, true, false]
noncomputable def n168_1 (x2_0 : Int) (x2_1 : Int) (x5 : List Int) (x6 : List Int) (x23 : Int) (x24 : Int) : St := ⟨56, lookA [(2, .box 0 0), (5, .own 1), (6, .own 2), (23, .dat (.int .i64) x23), (24, .dat (.int .i64) x24)], Go.V.look [(0, .cells [.dat (.int .i64) x2_0, .dat (.int .i64) x2_1]), (1, .flat 2 (.int .i64) x5), (2, .que 2 (.int .i64) x6)]⟩
def p168_1 : List Bool := [true, true, true, false, true, false, false, true, false, false, true, false]
theorem r168_1 (k : Nat) (R0 : St → Option ((List Int))) (rec : St → Option ((List Int))) (v : Int × Int × (List Int) × (List Int) × Int × Int) : roundF (E168 k) (S168 k) Try.f168 p168_1 [R0] rec (n168_1 v.1 v.2.1 v.2.2.1 v.2.2.2.1 v.2.2.2.2.1 v.2.2.2.2.2) = impl_Ground_distances.s1 k (fun a0 a1 a2 a3 => R0 (n168_0 a0 a1 a2 a3)) (fun a0 a1 a2 a3 a4 a5 => rec (n168_1 a0 a1 a2 a3 a4 a5)) v.1 v.2.1 v.2.2.1 v.2.2.2.1 v.2.2.2.2.1 v.2.2.2.2.2 := by
  kernel_rfl
theorem q168_1 (k : Nat) (R0 : St → Option ((List Int))) (n : Nat) : ∀ v : Int × Int × (List Int) × (List Int) × Int × Int, loopF (E168 k) (S168 k) Try.f168 p168_1 [R0] n (n168_1 v.1 v.2.1 v.2.2.1 v.2.2.2.1 v.2.2.2.2.1 v.2.2.2.2.2) = impl_Ground_distances.l1 k (fun a0 a1 a2 a3 => R0 (n168_0 a0 a1 a2 a3)) n v.1 v.2.1 v.2.2.1 v.2.2.2.1 v.2.2.2.2.1 v.2.2.2.2.2 :=
  loopF_eq (E168 k) (S168 k) Try.f168 p168_1 [R0] (fun v : Int × Int × (List Int) × (List Int) × Int × Int => n168_1 v.1 v.2.1 v.2.2.1 v.2.2.2.1 v.2.2.2.2.1 v.2.2.2.2.2) (fun rec v => impl_Ground_distances.s1 k (fun a0 a1 a2 a3 => R0 (n168_0 a0 a1 a2 a3)) (fun a0 a1 a2 a3 a4 a5 => rec (a0, a1, a2, a3, a4, a5)) v.1 v.2.1 v.2.2.1 v.2.2.2.1 v.2.2.2.2.1 v.2.2.2.2.2) (fun n v => impl_Ground_distances.l1 k (fun a0 a1 a2 a3 => R0 (n168_0 a0 a1 a2 a3)) n v.1 v.2.1 v.2.2.1 v.2.2.2.1 v.2.2.2.2.1 v.2.2.2.2.2) (fun _ => rfl) (fun _ _ => rfl) (fun rec v => r168_1 k R0 rec v) n
theorem r168_0 (k : Nat) (rec : St → Option ((List Int))) (G1 : Int → Int → (List Int) → (List Int) → Int → Int → Option ((List Int))) (h1 : ∀ a0 a1 a2 a3 a4 a5, loopF (E168 k) (S168 k) Try.f168 p168_1 [rec] k (n168_1 a0 a1 a2 a3 a4 a5) = G1 a0 a1 a2 a3 a4 a5) (v : Int × Int × (List Int) × (List Int)) : roundF (E168 k) (S168 k) Try.f168 p168_0 [] rec (n168_0 v.1 v.2.1 v.2.2.1 v.2.2.2) = impl_Ground_distances.s0 k (fun a0 a1 a2 a3 => rec (n168_0 a0 a1 a2 a3)) G1 v.1 v.2.1 v.2.2.1 v.2.2.2 := by
  obtain rfl : (fun a0 a1 a2 a3 a4 a5 => loopF (E168 k) (S168 k) Try.f168 p168_1 [rec] k (n168_1 a0 a1 a2 a3 a4 a5)) = G1 := funext fun a0 => funext fun a1 => funext fun a2 => funext fun a3 => funext fun a4 => funext fun a5 => h1 a0 a1 a2 a3 a4 a5
  kernel_rfl
theorem q168_0 (k : Nat) (n : Nat) : ∀ v : Int × Int × (List Int) × (List Int), loopF (E168 k) (S168 k) Try.f168 p168_0 [] n (n168_0 v.1 v.2.1 v.2.2.1 v.2.2.2) = impl_Ground_distances.l0 k n v.1 v.2.1 v.2.2.1 v.2.2.2 :=
  loopF_eq (E168 k) (S168 k) Try.f168 p168_0 [] (fun v : Int × Int × (List Int) × (List Int) => n168_0 v.1 v.2.1 v.2.2.1 v.2.2.2) (fun rec v => impl_Ground_distances.s0 k (fun a0 a1 a2 a3 => rec (a0, a1, a2, a3)) (impl_Ground_distances.l1 k (fun a0 a1 a2 a3 => rec (a0, a1, a2, a3)) k) v.1 v.2.1 v.2.2.1 v.2.2.2) (fun n v => impl_Ground_distances.l0 k n v.1 v.2.1 v.2.2.1 v.2.2.2) (fun _ => rfl) (fun _ _ => rfl) (fun rec v => r168_0 k rec _ (fun a0 a1 a2 a3 a4 a5 => q168_1 k rec k (a0, a1, a2, a3, a4, a5)) v) n
theorem e168 (k : Nat) (x : dens (flatC (S168 k).ps)) : funK (E168 k) (S168 k) Try.f168 x = (S168 k).fn x := by
  have h : funK (E168 k) (S168 k) Try.f168 x = impl_Ground_distances.g k (fun a0 a1 a2 a3 => loopF (E168 k) (S168 k) Try.f168 p168_0 [] k (n168_0 a0 a1 a2 a3)) x.1 x.2.1 x.2.2 := by kernel_rfl
  rw [h]
  rw [show (fun a0 a1 a2 a3 => loopF (E168 k) (S168 k) Try.f168 p168_0 [] k (n168_0 a0 a1 a2 a3)) = impl_Ground_distances.l0 k k from funext fun a0 => funext fun a1 => funext fun a2 => funext fun a3 => q168_0 k k (a0, a1, a2, a3)]
  rfl
theorem M168 (k : Nat) : Meets Try.prog 168 (S168 k) := meets_of Try.func168 (by kernel_rfl) tbOk (orc_cons (M109 k) (orc_cons (M218 k) orc_nil)) mixOk (fun x y h => (e168 k x).trans h) rfl

/-! slices_Index_int64_int64: function 153 -/
noncomputable def slices_Index_int64_int64.s0 (k : Nat) (r0 : (List Int) → Int → Int → Int → Option (Int)) (x0 : List Int) (x1 : Int) (x7 : Int) (x8 : Int) : Option (Int) := if x8 < x7 then (if 0 ≤ x8 then (if x8 < (x0.length : Int) then (if x1 = (rd x0 x8) then (some x8) else (r0 x0 x1 x7 (wrap64 (x8 + 1)))) else (none)) else (none)) else (some (-1))
noncomputable def slices_Index_int64_int64.l0 (k : Nat) : Nat → (List Int) → Int → Int → Int → Option (Int)
  | 0, _, _, _, _ => none
  | n + 1, x0, x1, x2, x3 => slices_Index_int64_int64.s0 k (slices_Index_int64_int64.l0 k n) x0 x1 x2 x3
noncomputable def slices_Index_int64_int64.g (k : Nat) (r0 : (List Int) → Int → Int → Int → Option (Int)) (l0 : List Int) (a1 : Int) : Option (Int) := r0 l0 a1 (l0.length : Int) 0
noncomputable def slices_Index_int64_int64.f (k : Nat) (l0 : List Int) (a1 : Int) : Option (Int) := slices_Index_int64_int64.g k (slices_Index_int64_int64.l0 k k) l0 a1
noncomputable def S153 (k : Nat) : Does := ⟨[(false, [.dat (.list (.int .i64))]), (false, [.dat (.int .i64)])], [(false, [.dat (.int .i64)])], fun x => slices_Index_int64_int64.f k x.1 x.2⟩
noncomputable def E153 (k : Nat) : En := ⟨tb, orcOf [], lvOf [(0, [(0, []), (1, []), (7, []), (8, [])])], k, 0, lvOf [], []⟩
noncomputable def n153_0 (x0 : List Int) (x1 : Int) (x7 : Int) (x8 : Int) : St := ⟨19, lookA [(0, .dat (.list (.int .i64)) x0), (1, .dat (.int .i64) x1), (7, .dat (.int .i64) x7), (8, .dat (.int .i64) x8)], Go.V.look []⟩
def p153_0 : List Bool := [true, false, true, false]
theorem r153_0 (k : Nat) (rec : St → Option (Int)) (v : (List Int) × Int × Int × Int) : roundF (E153 k) (S153 k) Try.f153 p153_0 [] rec (n153_0 v.1 v.2.1 v.2.2.1 v.2.2.2) = slices_Index_int64_int64.s0 k (fun a0 a1 a2 a3 => rec (n153_0 a0 a1 a2 a3)) v.1 v.2.1 v.2.2.1 v.2.2.2 := by
  kernel_rfl
theorem q153_0 (k : Nat) (n : Nat) : ∀ v : (List Int) × Int × Int × Int, loopF (E153 k) (S153 k) Try.f153 p153_0 [] n (n153_0 v.1 v.2.1 v.2.2.1 v.2.2.2) = slices_Index_int64_int64.l0 k n v.1 v.2.1 v.2.2.1 v.2.2.2 :=
  loopF_eq (E153 k) (S153 k) Try.f153 p153_0 [] (fun v : (List Int) × Int × Int × Int => n153_0 v.1 v.2.1 v.2.2.1 v.2.2.2) (fun rec v => slices_Index_int64_int64.s0 k (fun a0 a1 a2 a3 => rec (a0, a1, a2, a3)) v.1 v.2.1 v.2.2.1 v.2.2.2) (fun n v => slices_Index_int64_int64.l0 k n v.1 v.2.1 v.2.2.1 v.2.2.2) (fun _ => rfl) (fun _ _ => rfl) (fun rec v => r153_0 k rec v) n
theorem e153 (k : Nat) (x : dens (flatC (S153 k).ps)) : funK (E153 k) (S153 k) Try.f153 x = (S153 k).fn x := by
  have h : funK (E153 k) (S153 k) Try.f153 x = slices_Index_int64_int64.g k (fun a0 a1 a2 a3 => loopF (E153 k) (S153 k) Try.f153 p153_0 [] k (n153_0 a0 a1 a2 a3)) x.1 x.2 := by kernel_rfl
  rw [h]
  rw [show (fun a0 a1 a2 a3 => loopF (E153 k) (S153 k) Try.f153 p153_0 [] k (n153_0 a0 a1 a2 a3)) = slices_Index_int64_int64.l0 k k from funext fun a0 => funext fun a1 => funext fun a2 => funext fun a3 => q153_0 k k (a0, a1, a2, a3)]
  rfl
theorem M153 (k : Nat) : Meets Try.prog 153 (S153 k) := meets_of Try.func153 (by kernel_rfl) tbOk orc_nil mixOk (fun x y h => (e153 k x).trans h) rfl

/-! slices_Contains_int64_int64: function 167 -/
noncomputable def slices_Contains_int64_int64.f (k : Nat) (l0 : List Int) (a1 : Int) : Option (Bool) := (slices_Index_int64_int64.f k l0 a1).bind fun t1 => some (decide (0 ≤ t1))
noncomputable def S167 (k : Nat) : Does := ⟨[(false, [.dat (.list (.int .i64))]), (false, [.dat (.int .i64)])], [(false, [.dat .bool])], fun x => slices_Contains_int64_int64.f k x.1 x.2⟩
noncomputable def E167 (k : Nat) : En := ⟨tb, orcOf [(153, S153 k)], lvOf [], k, 0, lvOf [], []⟩
theorem e167 (k : Nat) (x : dens (flatC (S167 k).ps)) : funK (E167 k) (S167 k) Try.f167 x = (S167 k).fn x := by
  kernel_rfl
theorem M167 (k : Nat) : Meets Try.prog 167 (S167 k) := meets_of Try.func167 (by kernel_rfl) tbOk (orc_cons (M153 k) orc_nil) mixOk (fun x y h => (e167 k x).trans h) rfl

/-! impl_Ground_tour: function 169 -/
noncomputable def Sr169 (rf : Int → Int → Int → Int → Int → Option (Int)) : Does := ⟨[(true, [.dat (.int .i64), .dat (.int .i64)]), (false, [.dat (.int .i64)]), (false, [.dat (.int .i64)]), (false, [.dat (.int .i64)])], [(false, [.dat (.int .i64)])], fun x => rf x.1 x.2.1 x.2.2.1 x.2.2.2.1 x.2.2.2.2⟩
noncomputable def impl_Ground_tour.s0 (k : Nat) (rf : Int → Int → Int → Int → Int → Option (Int)) (r0 : Int → Int → Int → Int → Int → (List Int) → Int → Int → Option (Int)) (x2 : Int) (x3 : Int) (x4_0 : Int) (x4_1 : Int) (x9 : Int) (x23 : List Int) (x24 : Int) (x25 : Int) : Option (Int) := if x25 < x24 then (if 0 ≤ x25 then (if x25 < (x23.length : Int) then (if x25 < 0 then (none) else (if (andV .i64 (shrV .i64 x2 x25) 1) = 0 then (r0 x2 x3 x4_0 x4_1 x9 x23 x24 (wrap64 (x25 + 1))) else (if x25 < 0 then (none) else ((rf x4_0 x4_1 x25 (andNotV .i64 x2 (shlV .i64 1 x25)) x3).bind fun t3 => if x9 < 0 then (r0 x2 x3 x4_0 x4_1 (wrap64 ((rd x23 x25) + t3)) x23 x24 (wrap64 (x25 + 1))) else (if (wrap64 ((rd x23 x25) + t3)) < x9 then (r0 x2 x3 x4_0 x4_1 (wrap64 ((rd x23 x25) + t3)) x23 x24 (wrap64 (x25 + 1))) else (r0 x2 x3 x4_0 x4_1 x9 x23 x24 (wrap64 (x25 + 1)))))))) else (none)) else (none)) else (some x9)
noncomputable def impl_Ground_tour.l0 (k : Nat) (rf : Int → Int → Int → Int → Int → Option (Int)) : Nat → Int → Int → Int → Int → Int → (List Int) → Int → Int → Option (Int)
  | 0, _, _, _, _, _, _, _, _ => none
  | n + 1, x0, x1, x2, x3, x4, x5, x6, x7 => impl_Ground_tour.s0 k rf (impl_Ground_tour.l0 k rf n) x0 x1 x2 x3 x4 x5 x6 x7
noncomputable def impl_Ground_tour.g (k : Nat) (rf : Int → Int → Int → Int → Int → Option (Int)) (r0 : Int → Int → Int → Int → Int → (List Int) → Int → Int → Option (Int)) (a0_0 : Int) (a0_1 : Int) (a1 : Int) (a2 : Int) (a3 : Int) : Option (Int) := if a2 = 0 then ((impl_Ground_distances.f k a0_0 a0_1 a1).bind fun t1 => if 0 ≤ a3 then (if a3 < (t1.length : Int) then (some (rd t1 a3)) else (none)) else (none)) else ((impl_Ground_distances.f k a0_0 a0_1 a1).bind fun t2 => r0 a2 a3 a0_0 a0_1 (-1) t2 (t2.length : Int) 0)
noncomputable def impl_Ground_tour.b (k : Nat) (rf : Int → Int → Int → Int → Int → Option (Int)) (a0_0 : Int) (a0_1 : Int) (a1 : Int) (a2 : Int) (a3 : Int) : Option (Int) := impl_Ground_tour.g k rf (impl_Ground_tour.l0 k rf k) a0_0 a0_1 a1 a2 a3
noncomputable def Sb169 (k : Nat) (rf : Int → Int → Int → Int → Int → Option (Int)) : Does := ⟨[(true, [.dat (.int .i64), .dat (.int .i64)]), (false, [.dat (.int .i64)]), (false, [.dat (.int .i64)]), (false, [.dat (.int .i64)])], [(false, [.dat (.int .i64)])], fun x => impl_Ground_tour.b k rf x.1 x.2.1 x.2.2.1 x.2.2.2.1 x.2.2.2.2⟩
noncomputable def E169 (k : Nat) (rf : Int → Int → Int → Int → Int → Option (Int)) : En := ⟨tb, orcOf [(168, S168 k), (169, Sr169 rf)], lvOf [(0, [(2, []), (3, []), (4, []), (9, []), (23, []), (24, []), (25, [])])], k, 0, lvOf [], []⟩
noncomputable def n169_0 (x2 : Int) (x3 : Int) (x4_0 : Int) (x4_1 : Int) (x9 : Int) (x23 : List Int) (x24 : Int) (x25 : Int) : St := ⟨55, lookA [(2, .dat (.int .i64) x2), (3, .dat (.int .i64) x3), (4, .box 0 0), (9, .dat (.int .i64) x9), (23, .own 1), (24, .dat (.int .i64) x24), (25, .dat (.int .i64) x25)], Go.V.look [(0, .cells [.dat (.int .i64) x4_0, .dat (.int .i64) x4_1]), (1, .flat 2 (.int .i64) x23)]⟩
def p169_0 : List Bool := [true, true, true, false, true, false]
theorem r169_0 (k : Nat) (rf : Int → Int → Int → Int → Int → Option (Int)) (rec : St → Option (Int)) (v : Int × Int × Int × Int × Int × (List Int) × Int × Int) : roundF (E169 k rf) (Sb169 k rf) Try.f169 p169_0 [] rec (n169_0 v.1 v.2.1 v.2.2.1 v.2.2.2.1 v.2.2.2.2.1 v.2.2.2.2.2.1 v.2.2.2.2.2.2.1 v.2.2.2.2.2.2.2) = impl_Ground_tour.s0 k rf (fun a0 a1 a2 a3 a4 a5 a6 a7 => rec (n169_0 a0 a1 a2 a3 a4 a5 a6 a7)) v.1 v.2.1 v.2.2.1 v.2.2.2.1 v.2.2.2.2.1 v.2.2.2.2.2.1 v.2.2.2.2.2.2.1 v.2.2.2.2.2.2.2 := by
  kernel_rfl
theorem q169_0 (k : Nat) (rf : Int → Int → Int → Int → Int → Option (Int)) (n : Nat) : ∀ v : Int × Int × Int × Int × Int × (List Int) × Int × Int, loopF (E169 k rf) (Sb169 k rf) Try.f169 p169_0 [] n (n169_0 v.1 v.2.1 v.2.2.1 v.2.2.2.1 v.2.2.2.2.1 v.2.2.2.2.2.1 v.2.2.2.2.2.2.1 v.2.2.2.2.2.2.2) = impl_Ground_tour.l0 k rf n v.1 v.2.1 v.2.2.1 v.2.2.2.1 v.2.2.2.2.1 v.2.2.2.2.2.1 v.2.2.2.2.2.2.1 v.2.2.2.2.2.2.2 :=
  loopF_eq (E169 k rf) (Sb169 k rf) Try.f169 p169_0 [] (fun v : Int × Int × Int × Int × Int × (List Int) × Int × Int => n169_0 v.1 v.2.1 v.2.2.1 v.2.2.2.1 v.2.2.2.2.1 v.2.2.2.2.2.1 v.2.2.2.2.2.2.1 v.2.2.2.2.2.2.2) (fun rec v => impl_Ground_tour.s0 k rf (fun a0 a1 a2 a3 a4 a5 a6 a7 => rec (a0, a1, a2, a3, a4, a5, a6, a7)) v.1 v.2.1 v.2.2.1 v.2.2.2.1 v.2.2.2.2.1 v.2.2.2.2.2.1 v.2.2.2.2.2.2.1 v.2.2.2.2.2.2.2) (fun n v => impl_Ground_tour.l0 k rf n v.1 v.2.1 v.2.2.1 v.2.2.2.1 v.2.2.2.2.1 v.2.2.2.2.2.1 v.2.2.2.2.2.2.1 v.2.2.2.2.2.2.2) (fun _ => rfl) (fun _ _ => rfl) (fun rec v => r169_0 k rf rec v) n
theorem e169 (k : Nat) (rf : Int → Int → Int → Int → Int → Option (Int)) (x : dens (flatC (Sb169 k rf).ps)) : funK (E169 k rf) (Sb169 k rf) Try.f169 x = (Sb169 k rf).fn x := by
  have h : funK (E169 k rf) (Sb169 k rf) Try.f169 x = impl_Ground_tour.g k rf (fun a0 a1 a2 a3 a4 a5 a6 a7 => loopF (E169 k rf) (Sb169 k rf) Try.f169 p169_0 [] k (n169_0 a0 a1 a2 a3 a4 a5 a6 a7)) x.1 x.2.1 x.2.2.1 x.2.2.2.1 x.2.2.2.2 := by kernel_rfl
  rw [h]
  rw [show (fun a0 a1 a2 a3 a4 a5 a6 a7 => loopF (E169 k rf) (Sb169 k rf) Try.f169 p169_0 [] k (n169_0 a0 a1 a2 a3 a4 a5 a6 a7)) = impl_Ground_tour.l0 k rf k from funext fun a0 => funext fun a1 => funext fun a2 => funext fun a3 => funext fun a4 => funext fun a5 => funext fun a6 => funext fun a7 => q169_0 k rf k (a0, a1, a2, a3, a4, a5, a6, a7)]
  rfl
noncomputable def impl_Ground_tour.r (k : Nat) : Nat → Int → Int → Int → Int → Int → Option (Int)
  | 0, _, _, _, _, _ => none
  | n + 1, x0, x1, x2, x3, x4 => impl_Ground_tour.b k (impl_Ground_tour.r k n) x0 x1 x2 x3 x4
noncomputable def impl_Ground_tour.f (k : Nat) (a0_0 : Int) (a0_1 : Int) (a1 : Int) (a2 : Int) (a3 : Int) : Option (Int) := impl_Ground_tour.r k k a0_0 a0_1 a1 a2 a3
noncomputable def S169 (k : Nat) : Does := ⟨[(true, [.dat (.int .i64), .dat (.int .i64)]), (false, [.dat (.int .i64)]), (false, [.dat (.int .i64)]), (false, [.dat (.int .i64)])], [(false, [.dat (.int .i64)])], fun x => impl_Ground_tour.f k x.1 x.2.1 x.2.2.1 x.2.2.2.1 x.2.2.2.2⟩
theorem m169 (k : Nat) : ∀ n, Meets Try.prog 169 (Sr169 (impl_Ground_tour.r k n))
  | 0 => meets_none Try.func169 (by kernel_rfl) (by kernel_rfl) (fun _ => rfl)
  | n + 1 => show Meets Try.prog 169 (Sb169 k (impl_Ground_tour.r k n)) from meets_of Try.func169 (by kernel_rfl) tbOk (orc_cons (M168 k) (orc_cons (m169 k n) orc_nil)) mixOk (fun x y h => (e169 k (impl_Ground_tour.r k n) x).trans h) rfl
theorem M169 (k : Nat) : Meets Try.prog 169 (S169 k) := m169 k k

/-! impl_ShortestRound: function 64 -/
noncomputable def impl_ShortestRound.f (k : Nat) (a0_0 : Int) (a0_1 : Int) : Option (Int × Int) := (impl_groundCode.f a0_0 a0_1 true).bind fun t1 => if t1 = 0 then ((impl_Ground_distances.f k a0_0 a0_1 0).bind fun t2 => (slices_Contains_int64_int64.f k t2 (-1)).bind fun t3 => if t3 = true then (some (0, 4)) else (if a0_0 < 0 then (none) else ((impl_Ground_tour.f k a0_0 a0_1 0 (wrap64 ((shlV .i64 1 a0_0) - 2)) 0).bind fun t4 => some (t4, 0)))) else (some (0, t1))
noncomputable def S64 (k : Nat) : Does := ⟨[(true, [.dat (.int .i64), .dat (.int .i64)])], [(false, [.dat (.int .i64)]), (false, [.dat (.int .i64)])], fun x => impl_ShortestRound.f k x.1 x.2⟩
noncomputable def E64 (k : Nat) : En := ⟨tb, orcOf [(107, S107 k), (168, S168 k), (167, S167 k), (169, S169 k)], lvOf [], k, 0, lvOf [], []⟩
theorem e64 (k : Nat) (x : dens (flatC (S64 k).ps)) : funK (E64 k) (S64 k) Try.f64 x = (S64 k).fn x := by
  kernel_rfl
theorem M64 (k : Nat) : Meets Try.prog 64 (S64 k) := meets_of Try.func64 (by kernel_rfl) tbOk (orc_cons (M107 k) (orc_cons (M168 k) (orc_cons (M167 k) (orc_cons (M169 k) orc_nil)))) mixOk (fun x y h => (e64 k x).trans h) rfl

/-! spec_l09DrawOf: function 176 -/
noncomputable def spec_l09DrawOf.s1 (k : Nat) (r1 : (List Int) → Int → Int → Int → Int → Int → Int → Int → Int → Option (Int × Int × ((List Int) × Int × Int))) (x0_0 : List Int) (x0_1 : Int) (x0_2 : Int) (x1 : Int) (x4_0 : Int) (x4_1 : Int) (x6_0 : Int) (x6_1 : Int) (x8 : Int) : Option (Int × Int × ((List Int) × Int × Int)) := if 0 < x8 then (if 1 < x1 then ((spec_l01Next.f (x0_0, x0_1, x0_2) x1).bind fun t8 => (spec_l01Next.f (t8.2.1, t8.2.2.1, t8.2.2.2) (wrap64 (x1 - 1))).bind fun t9 => if x1 = 0 then (none) else ((spec_l09Road.f t8.1 (Int.tmod (wrap64 ((wrap64 (t8.1 + 1)) + t9.1)) x1)).bind fun t10 => r1 t9.2.1 t9.2.2.1 t9.2.2.2 x1 x4_0 x4_1 x6_0 (xorV .i64 x6_1 t10) (wrap64 (x8 - 1)))) else (some (x6_0, x6_1, x0_0, x0_1, x0_2))) else (some (x6_0, x6_1, x0_0, x0_1, x0_2))
noncomputable def spec_l09DrawOf.l1 (k : Nat) : Nat → (List Int) → Int → Int → Int → Int → Int → Int → Int → Int → Option (Int × Int × ((List Int) × Int × Int))
  | 0, _, _, _, _, _, _, _, _, _ => none
  | n + 1, x0, x1, x2, x3, x4, x5, x6, x7, x8 => spec_l09DrawOf.s1 k (spec_l09DrawOf.l1 k n) x0 x1 x2 x3 x4 x5 x6 x7 x8
noncomputable def spec_l09DrawOf.s0 (k : Nat) (r0 : (List Int) → Int → Int → Int → Int → Int → Int → Int → Int → Option (Int × Int × ((List Int) × Int × Int))) (r1 : (List Int) → Int → Int → Int → Int → Int → Int → Int → Int → Option (Int × Int × ((List Int) × Int × Int))) (x0_0 : List Int) (x0_1 : Int) (x0_2 : Int) (x1 : Int) (x4_0 : Int) (x4_1 : Int) (x6_0 : Int) (x6_1 : Int) (x7 : Int) : Option (Int × Int × ((List Int) × Int × Int)) := if x7 < x1 then ((spec_l01Next.f (x0_0, x0_1, x0_2) x7).bind fun t5 => (spec_l09Road.f t5.1 x7).bind fun t6 => r0 t5.2.1 t5.2.2.1 t5.2.2.2 x1 x4_0 x4_1 x6_0 (orV .i64 x6_1 t6) (wrap64 (x7 + 1))) else ((spec_l01Next.f (x0_0, x0_1, x0_2) 4).bind fun t7 => r1 t7.2.1 t7.2.2.1 t7.2.2.2 x1 x4_0 x4_1 x6_0 x6_1 t7.1)
noncomputable def spec_l09DrawOf.l0 (k : Nat) : Nat → (List Int) → Int → Int → Int → Int → Int → Int → Int → Int → Option (Int × Int × ((List Int) × Int × Int))
  | 0, _, _, _, _, _, _, _, _, _ => none
  | n + 1, x0, x1, x2, x3, x4, x5, x6, x7, x8 => spec_l09DrawOf.s0 k (spec_l09DrawOf.l0 k n) (spec_l09DrawOf.l1 k k) x0 x1 x2 x3 x4 x5 x6 x7 x8
noncomputable def spec_l09DrawOf.g (k : Nat) (r0 : (List Int) → Int → Int → Int → Int → Int → Int → Int → Int → Option (Int × Int × ((List Int) × Int × Int))) (a0 : (List Int) × Int × Int) (a1 : Int) : Option (Int × Int × ((List Int) × Int × Int)) := (spec_l01Next.f (a0.1, a0.2.1, a0.2.2) 4).bind fun t1 => if (decide (t1.1 = 0)) = true then ((spec_l09Line.f k a1).bind fun t2 => some (t2.1, t2.2, t1.2.1, t1.2.2.1, t1.2.2.2)) else (if (decide (t1.1 = 1)) = true then ((spec_l09Line.f k a1).bind fun t3 => if 2 < a1 then ((spec_l09Road.f 0 (wrap64 (a1 - 1))).bind fun t4 => some (t3.1, (orV .i64 t3.2 t4), t1.2.1, t1.2.2.1, t1.2.2.2)) else (some (t3.1, t3.2, t1.2.1, t1.2.2.1, t1.2.2.2))) else (r0 t1.2.1 t1.2.2.1 t1.2.2.2 a1 0 0 a1 0 1))
noncomputable def spec_l09DrawOf.f (k : Nat) (a0 : (List Int) × Int × Int) (a1 : Int) : Option (Int × Int × ((List Int) × Int × Int)) := spec_l09DrawOf.g k (spec_l09DrawOf.l0 k k) a0 a1
noncomputable def S176 (k : Nat) : Does := ⟨[(false, [.cel (.struct (.pair (.list (.int .u8)) (.pair (.int .i64) (.int .u64))))]), (false, [.dat (.int .i64)])], [(true, [.dat (.int .i64), .dat (.int .i64)])], fun x => spec_l09DrawOf.f k x.1 x.2⟩
noncomputable def E176 (k : Nat) : En := ⟨tb, orcOf [(147, S147 k), (164, S164 k), (166, S166 k)], lvOf [(1, [(0, []), (1, []), (4, []), (6, []), (7, [])]), (3, [(0, []), (1, []), (4, []), (6, []), (8, [])])], k, 1, lvOf [], [1074593792]⟩
noncomputable def n176_0 (x0_0 : List Int) (x0_1 : Int) (x0_2 : Int) (x1 : Int) (x4_0 : Int) (x4_1 : Int) (x6_0 : Int) (x6_1 : Int) (x7 : Int) : St := ⟨77, lookA [(0, .box 0 0), (1, .dat (.int .i64) x1), (4, .box 1 0), (6, .box 2 0), (7, .dat (.int .i64) x7)], Go.V.look [(0, .cells [.dat (.list (.int .u8)) x0_0, .dat (.int .i64) x0_1, .dat (.int .u64) x0_2]), (1, .cells [.dat (.int .i64) x4_0, .dat (.int .i64) x4_1]), (2, .cells [.dat (.int .i64) x6_0, .dat (.int .i64) x6_1])]⟩
def p176_0 : List Bool := [true, true, true, false, true, false]
noncomputable def n176_1 (x0_0 : List Int) (x0_1 : Int) (x0_2 : Int) (x1 : Int) (x4_0 : Int) (x4_1 : Int) (x6_0 : Int) (x6_1 : Int) (x8 : Int) : St := ⟨77, lookA [(0, .box 0 0), (1, .dat (.int .i64) x1), (4, .box 1 0), (6, .box 2 0), (8, .dat (.int .i64) x8)], Go.V.look [(0, .cells [.dat (.list (.int .u8)) x0_0, .dat (.int .i64) x0_1, .dat (.int .u64) x0_2]), (1, .cells [.dat (.int .i64) x4_0, .dat (.int .i64) x4_1]), (2, .cells [.dat (.int .i64) x6_0, .dat (.int .i64) x6_1])]⟩
def p176_1 : List Bool := [true, true, true, true, false, true, false]
theorem r176_1 (k : Nat) (rec : St → Option (Int × Int × ((List Int) × Int × Int))) (v : (List Int) × Int × Int × Int × Int × Int × Int × Int × Int) : roundF (E176 k) (S176 k) Try.f176 p176_1 [] rec (n176_1 v.1 v.2.1 v.2.2.1 v.2.2.2.1 v.2.2.2.2.1 v.2.2.2.2.2.1 v.2.2.2.2.2.2.1 v.2.2.2.2.2.2.2.1 v.2.2.2.2.2.2.2.2) = spec_l09DrawOf.s1 k (fun a0 a1 a2 a3 a4 a5 a6 a7 a8 => rec (n176_1 a0 a1 a2 a3 a4 a5 a6 a7 a8)) v.1 v.2.1 v.2.2.1 v.2.2.2.1 v.2.2.2.2.1 v.2.2.2.2.2.1 v.2.2.2.2.2.2.1 v.2.2.2.2.2.2.2.1 v.2.2.2.2.2.2.2.2 := by
  kernel_rfl
theorem q176_1 (k : Nat) (n : Nat) : ∀ v : (List Int) × Int × Int × Int × Int × Int × Int × Int × Int, loopF (E176 k) (S176 k) Try.f176 p176_1 [] n (n176_1 v.1 v.2.1 v.2.2.1 v.2.2.2.1 v.2.2.2.2.1 v.2.2.2.2.2.1 v.2.2.2.2.2.2.1 v.2.2.2.2.2.2.2.1 v.2.2.2.2.2.2.2.2) = spec_l09DrawOf.l1 k n v.1 v.2.1 v.2.2.1 v.2.2.2.1 v.2.2.2.2.1 v.2.2.2.2.2.1 v.2.2.2.2.2.2.1 v.2.2.2.2.2.2.2.1 v.2.2.2.2.2.2.2.2 :=
  loopF_eq (E176 k) (S176 k) Try.f176 p176_1 [] (fun v : (List Int) × Int × Int × Int × Int × Int × Int × Int × Int => n176_1 v.1 v.2.1 v.2.2.1 v.2.2.2.1 v.2.2.2.2.1 v.2.2.2.2.2.1 v.2.2.2.2.2.2.1 v.2.2.2.2.2.2.2.1 v.2.2.2.2.2.2.2.2) (fun rec v => spec_l09DrawOf.s1 k (fun a0 a1 a2 a3 a4 a5 a6 a7 a8 => rec (a0, a1, a2, a3, a4, a5, a6, a7, a8)) v.1 v.2.1 v.2.2.1 v.2.2.2.1 v.2.2.2.2.1 v.2.2.2.2.2.1 v.2.2.2.2.2.2.1 v.2.2.2.2.2.2.2.1 v.2.2.2.2.2.2.2.2) (fun n v => spec_l09DrawOf.l1 k n v.1 v.2.1 v.2.2.1 v.2.2.2.1 v.2.2.2.2.1 v.2.2.2.2.2.1 v.2.2.2.2.2.2.1 v.2.2.2.2.2.2.2.1 v.2.2.2.2.2.2.2.2) (fun _ => rfl) (fun _ _ => rfl) (fun rec v => r176_1 k rec v) n
theorem r176_0 (k : Nat) (rec : St → Option (Int × Int × ((List Int) × Int × Int))) (G1 : (List Int) → Int → Int → Int → Int → Int → Int → Int → Int → Option (Int × Int × ((List Int) × Int × Int))) (h1 : ∀ a0 a1 a2 a3 a4 a5 a6 a7 a8, loopF (E176 k) (S176 k) Try.f176 p176_1 [] k (n176_1 a0 a1 a2 a3 a4 a5 a6 a7 a8) = G1 a0 a1 a2 a3 a4 a5 a6 a7 a8) (v : (List Int) × Int × Int × Int × Int × Int × Int × Int × Int) : roundF (E176 k) (S176 k) Try.f176 p176_0 [] rec (n176_0 v.1 v.2.1 v.2.2.1 v.2.2.2.1 v.2.2.2.2.1 v.2.2.2.2.2.1 v.2.2.2.2.2.2.1 v.2.2.2.2.2.2.2.1 v.2.2.2.2.2.2.2.2) = spec_l09DrawOf.s0 k (fun a0 a1 a2 a3 a4 a5 a6 a7 a8 => rec (n176_0 a0 a1 a2 a3 a4 a5 a6 a7 a8)) G1 v.1 v.2.1 v.2.2.1 v.2.2.2.1 v.2.2.2.2.1 v.2.2.2.2.2.1 v.2.2.2.2.2.2.1 v.2.2.2.2.2.2.2.1 v.2.2.2.2.2.2.2.2 := by
  obtain rfl : (fun a0 a1 a2 a3 a4 a5 a6 a7 a8 => loopF (E176 k) (S176 k) Try.f176 p176_1 [] k (n176_1 a0 a1 a2 a3 a4 a5 a6 a7 a8)) = G1 := funext fun a0 => funext fun a1 => funext fun a2 => funext fun a3 => funext fun a4 => funext fun a5 => funext fun a6 => funext fun a7 => funext fun a8 => h1 a0 a1 a2 a3 a4 a5 a6 a7 a8
  kernel_rfl
theorem q176_0 (k : Nat) (n : Nat) : ∀ v : (List Int) × Int × Int × Int × Int × Int × Int × Int × Int, loopF (E176 k) (S176 k) Try.f176 p176_0 [] n (n176_0 v.1 v.2.1 v.2.2.1 v.2.2.2.1 v.2.2.2.2.1 v.2.2.2.2.2.1 v.2.2.2.2.2.2.1 v.2.2.2.2.2.2.2.1 v.2.2.2.2.2.2.2.2) = spec_l09DrawOf.l0 k n v.1 v.2.1 v.2.2.1 v.2.2.2.1 v.2.2.2.2.1 v.2.2.2.2.2.1 v.2.2.2.2.2.2.1 v.2.2.2.2.2.2.2.1 v.2.2.2.2.2.2.2.2 :=
  loopF_eq (E176 k) (S176 k) Try.f176 p176_0 [] (fun v : (List Int) × Int × Int × Int × Int × Int × Int × Int × Int => n176_0 v.1 v.2.1 v.2.2.1 v.2.2.2.1 v.2.2.2.2.1 v.2.2.2.2.2.1 v.2.2.2.2.2.2.1 v.2.2.2.2.2.2.2.1 v.2.2.2.2.2.2.2.2) (fun rec v => spec_l09DrawOf.s0 k (fun a0 a1 a2 a3 a4 a5 a6 a7 a8 => rec (a0, a1, a2, a3, a4, a5, a6, a7, a8)) (spec_l09DrawOf.l1 k k) v.1 v.2.1 v.2.2.1 v.2.2.2.1 v.2.2.2.2.1 v.2.2.2.2.2.1 v.2.2.2.2.2.2.1 v.2.2.2.2.2.2.2.1 v.2.2.2.2.2.2.2.2) (fun n v => spec_l09DrawOf.l0 k n v.1 v.2.1 v.2.2.1 v.2.2.2.1 v.2.2.2.2.1 v.2.2.2.2.2.1 v.2.2.2.2.2.2.1 v.2.2.2.2.2.2.2.1 v.2.2.2.2.2.2.2.2) (fun _ => rfl) (fun _ _ => rfl) (fun rec v => r176_0 k rec _ (fun a0 a1 a2 a3 a4 a5 a6 a7 a8 => q176_1 k k (a0, a1, a2, a3, a4, a5, a6, a7, a8)) v) n
theorem e176 (k : Nat) (x : dens (flatC (S176 k).ps)) : funK (E176 k) (S176 k) Try.f176 x = (S176 k).fn x := by
  have h : funK (E176 k) (S176 k) Try.f176 x = spec_l09DrawOf.g k (fun a0 a1 a2 a3 a4 a5 a6 a7 a8 => loopF (E176 k) (S176 k) Try.f176 p176_0 [] k (n176_0 a0 a1 a2 a3 a4 a5 a6 a7 a8)) x.1 x.2 := by kernel_rfl
  rw [h]
  rw [show (fun a0 a1 a2 a3 a4 a5 a6 a7 a8 => loopF (E176 k) (S176 k) Try.f176 p176_0 [] k (n176_0 a0 a1 a2 a3 a4 a5 a6 a7 a8)) = spec_l09DrawOf.l0 k k from funext fun a0 => funext fun a1 => funext fun a2 => funext fun a3 => funext fun a4 => funext fun a5 => funext fun a6 => funext fun a7 => funext fun a8 => q176_0 k k (a0, a1, a2, a3, a4, a5, a6, a7, a8)]
  rfl
theorem M176 (k : Nat) : Meets Try.prog 176 (S176 k) := meets_of Try.func176 (by kernel_rfl) tbOk (orc_cons (M147 k) (orc_cons (M164 k) (orc_cons (M166 k) orc_nil))) mixOk (fun x y h => (e176 k x).trans h) rfl

/-! spec_l09Draw: function 170 -/
noncomputable def spec_l09Draw.f (k : Nat) (a0 : (List Int) × Int × Int) : Option (Int × Int × ((List Int) × Int × Int)) := (spec_l01Next.f (a0.1, a0.2.1, a0.2.2) 6).bind fun t1 => (spec_l09DrawOf.f k (t1.2.1, t1.2.2.1, t1.2.2.2) (wrap64 (1 + t1.1))).bind fun t2 => some (t2.1, t2.2.1, t2.2.2.1, t2.2.2.2.1, t2.2.2.2.2)
noncomputable def S170 (k : Nat) : Does := ⟨[(false, [.cel (.struct (.pair (.list (.int .u8)) (.pair (.int .i64) (.int .u64))))])], [(true, [.dat (.int .i64), .dat (.int .i64)])], fun x => spec_l09Draw.f k x⟩
noncomputable def E170 (k : Nat) : En := ⟨tb, orcOf [(147, S147 k), (176, S176 k)], lvOf [], k, 1, lvOf [], []⟩
theorem e170 (k : Nat) (x : dens (flatC (S170 k).ps)) : funK (E170 k) (S170 k) Try.f170 x = (S170 k).fn x := by
  kernel_rfl
theorem M170 (k : Nat) : Meets Try.prog 170 (S170 k) := meets_of Try.func170 (by kernel_rfl) tbOk (orc_cons (M147 k) (orc_cons (M176 k) orc_nil)) mixOk (fun x y h => (e170 k x).trans h) rfl

/-! spec_l09Bad: function 171 -/
noncomputable def spec_l09Bad.f (a0 : (List Int) × Int × Int) (a1_0 : Int) (a1_1 : Int) : Option (Int × Int × ((List Int) × Int × Int)) := (spec_l01Next.f (a0.1, a0.2.1, a0.2.2) 40).bind fun t1 => if (decide (t1.1 = 0)) = true then ((spec_l01Pick.f (t1.2.1, t1.2.2.1, t1.2.2.2) [0, 7, (-1), 1099511627776]).bind fun t2 => some (t2.1, a1_1, t2.2.1, t2.2.2.1, t2.2.2.2)) else (if (decide (t1.1 = 1)) = true then ((spec_l01Pick.f (t1.2.1, t1.2.2.1, t1.2.2.2) [(-1), 32768, 4611686018427387904]).bind fun t3 => some (a1_0, t3.1, t3.2.1, t3.2.2.1, t3.2.2.2)) else (some (a1_0, a1_1, t1.2.1, t1.2.2.1, t1.2.2.2)))
noncomputable def S171 (k : Nat) : Does := ⟨[(false, [.cel (.struct (.pair (.list (.int .u8)) (.pair (.int .i64) (.int .u64))))]), (true, [.dat (.int .i64), .dat (.int .i64)])], [(true, [.dat (.int .i64), .dat (.int .i64)])], fun x => spec_l09Bad.f x.1 x.2.1 x.2.2⟩
noncomputable def E171 (k : Nat) : En := ⟨tb, orcOf [(147, S147 k), (136, S136 k)], lvOf [], k, 1, lvOf [], []⟩
theorem e171 (k : Nat) (x : dens (flatC (S171 k).ps)) : funK (E171 k) (S171 k) Try.f171 x = (S171 k).fn x := by
  kernel_rfl
theorem M171 (k : Nat) : Meets Try.prog 171 (S171 k) := meets_of Try.func171 (by kernel_rfl) tbOk (orc_cons (M147 k) (orc_cons (M136 k) orc_nil)) mixOk (fun x y h => (e171 k x).trans h) rfl

/-! spec_DrawDistancesFrom: function 65 -/
noncomputable def spec_DrawDistancesFrom.f (k : Nat) (l0 : List Int) : Option (Int × Int × Int) := (spec_l01From.f k l0).bind fun t1 => (spec_l09Draw.f k (t1.1, t1.2.1, t1.2.2)).bind fun t2 => (spec_l01Near.f (t2.2.2.1, t2.2.2.2.1, t2.2.2.2.2) (wrap64 (t2.1 - 1))).bind fun t3 => (spec_l09Bad.f (t3.2.1, t3.2.2.1, t3.2.2.2) t2.1 t2.2.1).bind fun t4 => some (t4.1, t4.2.1, t3.1)
noncomputable def S65 (k : Nat) : Does := ⟨[(false, [.dat (.list (.int .u8))])], [(true, [.dat (.int .i64), .dat (.int .i64)]), (false, [.dat (.int .i64)])], fun x => spec_DrawDistancesFrom.f k x⟩
noncomputable def E65 (k : Nat) : En := ⟨tb, orcOf [(135, S135 k), (170, S170 k), (137, S137 k), (171, S171 k)], lvOf [], k, 0, lvOf [], []⟩
theorem e65 (k : Nat) (x : dens (flatC (S65 k).ps)) : funK (E65 k) (S65 k) Try.f65 x = (S65 k).fn x := by
  kernel_rfl
theorem M65 (k : Nat) : Meets Try.prog 65 (S65 k) := meets_of Try.func65 (by kernel_rfl) tbOk (orc_cons (M135 k) (orc_cons (M170 k) (orc_cons (M137 k) (orc_cons (M171 k) orc_nil)))) mixOk (fun x y h => (e65 k x).trans h) rfl

/-! impl_Ground_isPlace: function 172 -/
noncomputable def impl_Ground_isPlace.f (a0_0 : Int) (a0_1 : Int) (a1 : Int) : Option (Bool) := (impl_within.f a1 0 (wrap64 (a0_0 - 1))).bind fun t1 => some t1
noncomputable def S172 (k : Nat) : Does := ⟨[(true, [.dat (.int .i64), .dat (.int .i64)]), (false, [.dat (.int .i64)])], [(false, [.dat .bool])], fun x => impl_Ground_isPlace.f x.1 x.2.1 x.2.2⟩
noncomputable def E172 (k : Nat) : En := ⟨tb, orcOf [(108, S108 k)], lvOf [], k, 0, lvOf [], []⟩
theorem e172 (k : Nat) (x : dens (flatC (S172 k).ps)) : funK (E172 k) (S172 k) Try.f172 x = (S172 k).fn x := by
  kernel_rfl
theorem M172 (k : Nat) : Meets Try.prog 172 (S172 k) := meets_of Try.func172 (by kernel_rfl) tbOk (orc_cons (M108 k) orc_nil) mixOk (fun x y h => (e172 k x).trans h) rfl

/-! impl_DistancesFrom: function 66 -/
noncomputable def impl_DistancesFrom.f (k : Nat) (a0_0 : Int) (a0_1 : Int) (a1 : Int) : Option ((List Int) × Int) := (impl_Ground_isPlace.f a0_0 a0_1 a1).bind fun t1 => (impl_groundCode.f a0_0 a0_1 t1).bind fun t2 => if t2 = 0 then ((impl_Ground_distances.f k a0_0 a0_1 a1).bind fun t3 => some (t3, 0)) else (some ([], t2))
noncomputable def S66 (k : Nat) : Does := ⟨[(true, [.dat (.int .i64), .dat (.int .i64)]), (false, [.dat (.int .i64)])], [(false, [.own 2 (.int .i64)]), (false, [.dat (.int .i64)])], fun x => impl_DistancesFrom.f k x.1 x.2.1 x.2.2⟩
noncomputable def E66 (k : Nat) : En := ⟨tb, orcOf [(172, S172 k), (107, S107 k), (168, S168 k)], lvOf [], k, 0, lvOf [], []⟩
theorem e66 (k : Nat) (x : dens (flatC (S66 k).ps)) : funK (E66 k) (S66 k) Try.f66 x = (S66 k).fn x := by
  kernel_rfl
theorem M66 (k : Nat) : Meets Try.prog 66 (S66 k) := meets_of Try.func66 (by kernel_rfl) tbOk (orc_cons (M172 k) (orc_cons (M107 k) (orc_cons (M168 k) orc_nil))) mixOk (fun x y h => (e66 k x).trans h) rfl

/-! spec_l09Is: function 101 -/
noncomputable def spec_l09Is.f (a0_0 : Int) (a0_1 : Int) : Option (Bool) := (spec_l01In.f a0_0 1 6).bind fun t1 => if t1 = true then (if (IntKind.wrap .u64 ((wrap64 (Int.tdiv (wrap64 (a0_0 * (wrap64 (a0_0 - 1)))) 2)))) < 0 then (none) else ((spec_l01In.f a0_1 0 (wrap64 ((shlV .i64 1 (IntKind.wrap .u64 ((wrap64 (Int.tdiv (wrap64 (a0_0 * (wrap64 (a0_0 - 1)))) 2))))) - 1))).bind fun t2 => some t2)) else (some false)
noncomputable def S101 (k : Nat) : Does := ⟨[(true, [.dat (.int .i64), .dat (.int .i64)])], [(false, [.dat .bool])], fun x => spec_l09Is.f x.1 x.2⟩
noncomputable def E101 (k : Nat) : En := ⟨tb, orcOf [(102, S102 k)], lvOf [], k, 0, lvOf [], []⟩
theorem e101 (k : Nat) (x : dens (flatC (S101 k).ps)) : funK (E101 k) (S101 k) Try.f101 x = (S101 k).fn x := by
  kernel_rfl
theorem M101 (k : Nat) : Meets Try.prog 101 (S101 k) := meets_of Try.func101 (by kernel_rfl) tbOk (orc_cons (M102 k) orc_nil) mixOk (fun x y h => (e101 k x).trans h) rfl

/-! spec_l09Places: function 173 -/
noncomputable def spec_l09Places.s0 (k : Nat) (r0 : (List Int) → Int → Int → Int → Option (Int)) (x1 : List Int) (x2_0 : Int) (x2_1 : Int) (x5 : Int) : Option (Int) := if x5 < (x1.length : Int) then (if 0 ≤ x5 then (if x5 < (x1.length : Int) then ((spec_l01In.f (rd x1 x5) 0 (wrap64 (x2_0 - 1))).bind fun t2 => if t2 = true then (r0 x1 x2_0 x2_1 (wrap64 (x5 + 1))) else (some 2)) else (none)) else (none)) else (some 0)
noncomputable def spec_l09Places.l0 (k : Nat) : Nat → (List Int) → Int → Int → Int → Option (Int)
  | 0, _, _, _, _ => none
  | n + 1, x0, x1, x2, x3 => spec_l09Places.s0 k (spec_l09Places.l0 k n) x0 x1 x2 x3
noncomputable def spec_l09Places.g (k : Nat) (r0 : (List Int) → Int → Int → Int → Option (Int)) (a0_0 : Int) (a0_1 : Int) (l1 : List Int) : Option (Int) := (spec_l09Is.f a0_0 a0_1).bind fun t1 => if t1 = true then (r0 l1 a0_0 a0_1 0) else (some 1)
noncomputable def spec_l09Places.f (k : Nat) (a0_0 : Int) (a0_1 : Int) (l1 : List Int) : Option (Int) := spec_l09Places.g k (spec_l09Places.l0 k k) a0_0 a0_1 l1
noncomputable def S173 (k : Nat) : Does := ⟨[(true, [.dat (.int .i64), .dat (.int .i64)]), (false, [.dat (.list (.int .i64))])], [(false, [.dat (.int .i64)])], fun x => spec_l09Places.f k x.1 x.2.1 x.2.2⟩
noncomputable def E173 (k : Nat) : En := ⟨tb, orcOf [(101, S101 k), (102, S102 k)], lvOf [(0, [(1, []), (2, []), (5, [])])], k, 0, lvOf [], []⟩
noncomputable def n173_0 (x1 : List Int) (x2_0 : Int) (x2_1 : Int) (x5 : Int) : St := ⟨24, lookA [(1, .dat (.list (.int .i64)) x1), (2, .box 0 0), (5, .dat (.int .i64) x5)], Go.V.look [(0, .cells [.dat (.int .i64) x2_0, .dat (.int .i64) x2_1])]⟩
def p173_0 : List Bool := [true, true, false, true, false]
theorem r173_0 (k : Nat) (rec : St → Option (Int)) (v : (List Int) × Int × Int × Int) : roundF (E173 k) (S173 k) Try.f173 p173_0 [] rec (n173_0 v.1 v.2.1 v.2.2.1 v.2.2.2) = spec_l09Places.s0 k (fun a0 a1 a2 a3 => rec (n173_0 a0 a1 a2 a3)) v.1 v.2.1 v.2.2.1 v.2.2.2 := by
  kernel_rfl
theorem q173_0 (k : Nat) (n : Nat) : ∀ v : (List Int) × Int × Int × Int, loopF (E173 k) (S173 k) Try.f173 p173_0 [] n (n173_0 v.1 v.2.1 v.2.2.1 v.2.2.2) = spec_l09Places.l0 k n v.1 v.2.1 v.2.2.1 v.2.2.2 :=
  loopF_eq (E173 k) (S173 k) Try.f173 p173_0 [] (fun v : (List Int) × Int × Int × Int => n173_0 v.1 v.2.1 v.2.2.1 v.2.2.2) (fun rec v => spec_l09Places.s0 k (fun a0 a1 a2 a3 => rec (a0, a1, a2, a3)) v.1 v.2.1 v.2.2.1 v.2.2.2) (fun n v => spec_l09Places.l0 k n v.1 v.2.1 v.2.2.1 v.2.2.2) (fun _ => rfl) (fun _ _ => rfl) (fun rec v => r173_0 k rec v) n
theorem e173 (k : Nat) (x : dens (flatC (S173 k).ps)) : funK (E173 k) (S173 k) Try.f173 x = (S173 k).fn x := by
  have h : funK (E173 k) (S173 k) Try.f173 x = spec_l09Places.g k (fun a0 a1 a2 a3 => loopF (E173 k) (S173 k) Try.f173 p173_0 [] k (n173_0 a0 a1 a2 a3)) x.1 x.2.1 x.2.2 := by kernel_rfl
  rw [h]
  rw [show (fun a0 a1 a2 a3 => loopF (E173 k) (S173 k) Try.f173 p173_0 [] k (n173_0 a0 a1 a2 a3)) = spec_l09Places.l0 k k from funext fun a0 => funext fun a1 => funext fun a2 => funext fun a3 => q173_0 k k (a0, a1, a2, a3)]
  rfl
theorem M173 (k : Nat) : Meets Try.prog 173 (S173 k) := meets_of Try.func173 (by kernel_rfl) tbOk (orc_cons (M101 k) (orc_cons (M102 k) orc_nil)) mixOk (fun x y h => (e173 k x).trans h) rfl

/-! spec_l09Near: function 177 -/
noncomputable def spec_l09Near.f (a0_0 : Int) (a0_1 : Int) (a1 : Int) (a2 : Int) : Option (Bool) := if a1 = a2 then (some true) else ((spec_l09Road.f a1 a2).bind fun t1 => some (!decide ((andV .i64 a0_1 t1) = 0)))
noncomputable def S177 (k : Nat) : Does := ⟨[(true, [.dat (.int .i64), .dat (.int .i64)]), (false, [.dat (.int .i64)]), (false, [.dat (.int .i64)])], [(false, [.dat .bool])], fun x => spec_l09Near.f x.1 x.2.1 x.2.2.1 x.2.2.2⟩
noncomputable def E177 (k : Nat) : En := ⟨tb, orcOf [(166, S166 k)], lvOf [], k, 0, lvOf [], []⟩
theorem e177 (k : Nat) (x : dens (flatC (S177 k).ps)) : funK (E177 k) (S177 k) Try.f177 x = (S177 k).fn x := by
  kernel_rfl
theorem M177 (k : Nat) : Meets Try.prog 177 (S177 k) := meets_of Try.func177 (by kernel_rfl) tbOk (orc_cons (M166 k) orc_nil) mixOk (fun x y h => (e177 k x).trans h) rfl

/-! spec_l09Distances: function 174 -/
noncomputable def spec_l09Distances.s2 (k : Nat) (r1 : Int → Int → (List Int) → (List Int) → Int → Option ((List Int))) (r2 : Int → Int → (List Int) → (List Int) → Int → Int → Option ((List Int))) (x2_0 : Int) (x2_1 : Int) (x5 : List Int) (x6 : List Int) (x8 : Int) (x9 : Int) : Option ((List Int)) := if x9 < x2_0 then (if 0 ≤ x9 then (if x9 < (x5.length : Int) then (if (rd x5 x9) < 0 then (if 0 ≤ x8 then (if x8 < (x6.length : Int) then ((spec_l09Near.f x2_0 x2_1 (rd x6 x8) x9).bind fun t1 => if t1 = true then (if 0 ≤ x8 then (if x8 < (x6.length : Int) then (if 0 ≤ (rd x6 x8) then (if (rd x6 x8) < (x5.length : Int) then (if 0 ≤ x9 then (if x9 < (x5.length : Int) then (if x6.length + 1 ≤ 1099511627776 then (r2 x2_0 x2_1 (x5.set x9.toNat (wrap64 ((rd x5 (rd x6 x8)) + 1))) (x6 ++ [x9]) x8 (wrap64 (x9 + 1))) else (none)) else (none)) else (none)) else (none)) else (none)) else (none)) else (none)) else (r2 x2_0 x2_1 x5 x6 x8 (wrap64 (x9 + 1)))) else (none)) else (none)) else (r2 x2_0 x2_1 x5 x6 x8 (wrap64 (x9 + 1)))) else (none)) else (none)) else (r1 x2_0 x2_1 x5 x6 (wrap64 (x8 + 1)))
noncomputable def spec_l09Distances.l2 (k : Nat) (r1 : Int → Int → (List Int) → (List Int) → Int → Option ((List Int))) : Nat → Int → Int → (List Int) → (List Int) → Int → Int → Option ((List Int))
  | 0, _, _, _, _, _, _ => none
  | n + 1, x0, x1, x2, x3, x4, x5 => spec_l09Distances.s2 k r1 (spec_l09Distances.l2 k r1 n) x0 x1 x2 x3 x4 x5
noncomputable def spec_l09Distances.s1 (k : Nat) (r1 : Int → Int → (List Int) → (List Int) → Int → Option ((List Int))) (r2 : Int → Int → (List Int) → (List Int) → Int → Int → Option ((List Int))) (x2_0 : Int) (x2_1 : Int) (x5 : List Int) (x6 : List Int) (x8 : Int) : Option ((List Int)) := if x8 < (x6.length : Int) then (r2 x2_0 x2_1 x5 x6 x8 0) else (some x5)
noncomputable def spec_l09Distances.l1 (k : Nat) : Nat → Int → Int → (List Int) → (List Int) → Int → Option ((List Int))
  | 0, _, _, _, _, _ => none
  | n + 1, x0, x1, x2, x3, x4 => spec_l09Distances.s1 k (spec_l09Distances.l1 k n) (spec_l09Distances.l2 k (spec_l09Distances.l1 k n) k) x0 x1 x2 x3 x4
noncomputable def spec_l09Distances.s0 (k : Nat) (r0 : Int → Int → Int → (List Int) → (List Int) → Int → Int → Option ((List Int))) (r1 : Int → Int → (List Int) → (List Int) → Int → Option ((List Int))) (x1 : Int) (x2_0 : Int) (x2_1 : Int) (x5 : List Int) (x6 : List Int) (x16 : Int) (x17 : Int) : Option ((List Int)) := if x17 < x16 then (if 0 ≤ x17 then (if x17 < (x5.length : Int) then (r0 x1 x2_0 x2_1 (x5.set x17.toNat (-1)) x6 x16 (wrap64 (x17 + 1))) else (none)) else (none)) else (if 0 ≤ x1 then (if x1 < (x5.length : Int) then (r1 x2_0 x2_1 (x5.set x1.toNat 0) x6 0) else (none)) else (none))
noncomputable def spec_l09Distances.l0 (k : Nat) : Nat → Int → Int → Int → (List Int) → (List Int) → Int → Int → Option ((List Int))
  | 0, _, _, _, _, _, _, _ => none
  | n + 1, x0, x1, x2, x3, x4, x5, x6 => spec_l09Distances.s0 k (spec_l09Distances.l0 k n) (spec_l09Distances.l1 k k) x0 x1 x2 x3 x4 x5 x6
noncomputable def spec_l09Distances.g (k : Nat) (r0 : Int → Int → Int → (List Int) → (List Int) → Int → Int → Option ((List Int))) (a0_0 : Int) (a0_1 : Int) (a1 : Int) : Option ((List Int)) := if 0 ≤ a0_0 then (if a0_0 ≤ a0_0 then (if a0_0.toNat ≤ 1099511627776 then (r0 a1 a0_0 a0_1 (List.replicate a0_0.toNat (0 : Int)) [a1] ((List.replicate a0_0.toNat (0 : Int)).length : Int) 0) else (none)) else (none)) else (none)
noncomputable def spec_l09Distances.f (k : Nat) (a0_0 : Int) (a0_1 : Int) (a1 : Int) : Option ((List Int)) := spec_l09Distances.g k (spec_l09Distances.l0 k k) a0_0 a0_1 a1
noncomputable def S174 (k : Nat) : Does := ⟨[(true, [.dat (.int .i64), .dat (.int .i64)]), (false, [.dat (.int .i64)])], [(false, [.own 2 (.int .i64)])], fun x => spec_l09Distances.f k x.1 x.2.1 x.2.2⟩
noncomputable def E174 (k : Nat) : En := ⟨tb, orcOf [(177, S177 k)], lvOf [(0, [(1, []), (2, []), (5, []), (6, []), (16, []), (17, [])]), (2, [(2, []), (5, []), (6, []), (8, [])]), (4, [(2, []), (5, []), (6, []), (8, []), (9, [])])], k, 0, lvOf [], []⟩
noncomputable def n174_0 (x1 : Int) (x2_0 : Int) (x2_1 : Int) (x5 : List Int) (x6 : List Int) (x16 : Int) (x17 : Int) : St := ⟨69, lookA [(1, .dat (.int .i64) x1), (2, .box 0 0), (5, .own 1), (6, .own 2), (16, .dat (.int .i64) x16), (17, .dat (.int .i64) x17)], Go.V.look [(0, .cells [.dat (.int .i64) x2_0, .dat (.int .i64) x2_1]), (1, .flat 2 (.int .i64) x5), (2, .flat 2 (.int .i64) x6)]⟩
def p174_0 : List Bool := [true, true, false, true, false]
noncomputable def n174_1 (x2_0 : Int) (x2_1 : Int) (x5 : List Int) (x6 : List Int) (x8 : Int) : St := ⟨69, lookA [(2, .box 0 0), (5, .own 1), (6, .own 2), (8, .dat (.int .i64) x8)], Go.V.look [(0, .cells [.dat (.int .i64) x2_0, .dat (.int .i64) x2_1]), (1, .flat 2 (.int .i64) x5), (2, .flat 2 (.int .i64) x6)]⟩
def p174_1 : List Bool := [true, true, true, true, false, true, false]
noncomputable def n174_2 (x2_0 : Int) (x2_1 : Int) (x5 : List Int) (x6 : List Int) (x8 : Int) (x9 : Int) : St := ⟨69, lookA [(2, .box 0 0), (5, .own 1), (6, .own 2), (8, .dat (.int .i64) x8), (9, .dat (.int .i64) x9)], Go.V.look [(0, .cells [.dat (.int .i64) x2_0, .dat (.int .i64) x2_1]), (1, .flat 2 (.int .i64) x5), (2, .flat 2 (.int .i64) x6)]⟩
def p174_2 : List Bool := [true, true, true, true, false, true, false, false, true, false, false, true, false]
theorem r174_2 (k : Nat) (R1 : St → Option ((List Int))) (rec : St → Option ((List Int))) (v : Int × Int × (List Int) × (List Int) × Int × Int) : roundF (E174 k) (S174 k) Try.f174 p174_2 [R1] rec (n174_2 v.1 v.2.1 v.2.2.1 v.2.2.2.1 v.2.2.2.2.1 v.2.2.2.2.2) = spec_l09Distances.s2 k (fun a0 a1 a2 a3 a4 => R1 (n174_1 a0 a1 a2 a3 a4)) (fun a0 a1 a2 a3 a4 a5 => rec (n174_2 a0 a1 a2 a3 a4 a5)) v.1 v.2.1 v.2.2.1 v.2.2.2.1 v.2.2.2.2.1 v.2.2.2.2.2 := by
  kernel_rfl
theorem q174_2 (k : Nat) (R1 : St → Option ((List Int))) (n : Nat) : ∀ v : Int × Int × (List Int) × (List Int) × Int × Int, loopF (E174 k) (S174 k) Try.f174 p174_2 [R1] n (n174_2 v.1 v.2.1 v.2.2.1 v.2.2.2.1 v.2.2.2.2.1 v.2.2.2.2.2) = spec_l09Distances.l2 k (fun a0 a1 a2 a3 a4 => R1 (n174_1 a0 a1 a2 a3 a4)) n v.1 v.2.1 v.2.2.1 v.2.2.2.1 v.2.2.2.2.1 v.2.2.2.2.2 :=
  loopF_eq (E174 k) (S174 k) Try.f174 p174_2 [R1] (fun v : Int × Int × (List Int) × (List Int) × Int × Int => n174_2 v.1 v.2.1 v.2.2.1 v.2.2.2.1 v.2.2.2.2.1 v.2.2.2.2.2) (fun rec v => spec_l09Distances.s2 k (fun a0 a1 a2 a3 a4 => R1 (n174_1 a0 a1 a2 a3 a4)) (fun a0 a1 a2 a3 a4 a5 => rec (a0, a1, a2, a3, a4, a5)) v.1 v.2.1 v.2.2.1 v.2.2.2.1 v.2.2.2.2.1 v.2.2.2.2.2) (fun n v => spec_l09Distances.l2 k (fun a0 a1 a2 a3 a4 => R1 (n174_1 a0 a1 a2 a3 a4)) n v.1 v.2.1 v.2.2.1 v.2.2.2.1 v.2.2.2.2.1 v.2.2.2.2.2) (fun _ => rfl) (fun _ _ => rfl) (fun rec v => r174_2 k R1 rec v) n
theorem r174_1 (k : Nat) (rec : St → Option ((List Int))) (G2 : Int → Int → (List Int) → (List Int) → Int → Int → Option ((List Int))) (h2 : ∀ a0 a1 a2 a3 a4 a5, loopF (E174 k) (S174 k) Try.f174 p174_2 [rec] k (n174_2 a0 a1 a2 a3 a4 a5) = G2 a0 a1 a2 a3 a4 a5) (v : Int × Int × (List Int) × (List Int) × Int) : roundF (E174 k) (S174 k) Try.f174 p174_1 [] rec (n174_1 v.1 v.2.1 v.2.2.1 v.2.2.2.1 v.2.2.2.2) = spec_l09Distances.s1 k (fun a0 a1 a2 a3 a4 => rec (n174_1 a0 a1 a2 a3 a4)) G2 v.1 v.2.1 v.2.2.1 v.2.2.2.1 v.2.2.2.2 := by
  obtain rfl : (fun a0 a1 a2 a3 a4 a5 => loopF (E174 k) (S174 k) Try.f174 p174_2 [rec] k (n174_2 a0 a1 a2 a3 a4 a5)) = G2 := funext fun a0 => funext fun a1 => funext fun a2 => funext fun a3 => funext fun a4 => funext fun a5 => h2 a0 a1 a2 a3 a4 a5
  kernel_rfl
theorem q174_1 (k : Nat) (n : Nat) : ∀ v : Int × Int × (List Int) × (List Int) × Int, loopF (E174 k) (S174 k) Try.f174 p174_1 [] n (n174_1 v.1 v.2.1 v.2.2.1 v.2.2.2.1 v.2.2.2.2) = spec_l09Distances.l1 k n v.1 v.2.1 v.2.2.1 v.2.2.2.1 v.2.2.2.2 :=
  loopF_eq (E174 k) (S174 k) Try.f174 p174_1 [] (fun v : Int × Int × (List Int) × (List Int) × Int => n174_1 v.1 v.2.1 v.2.2.1 v.2.2.2.1 v.2.2.2.2) (fun rec v => spec_l09Distances.s1 k (fun a0 a1 a2 a3 a4 => rec (a0, a1, a2, a3, a4)) (spec_l09Distances.l2 k (fun a0 a1 a2 a3 a4 => rec (a0, a1, a2, a3, a4)) k) v.1 v.2.1 v.2.2.1 v.2.2.2.1 v.2.2.2.2) (fun n v => spec_l09Distances.l1 k n v.1 v.2.1 v.2.2.1 v.2.2.2.1 v.2.2.2.2) (fun _ => rfl) (fun _ _ => rfl) (fun rec v => r174_1 k rec _ (fun a0 a1 a2 a3 a4 a5 => q174_2 k rec k (a0, a1, a2, a3, a4, a5)) v) n
theorem r174_0 (k : Nat) (rec : St → Option ((List Int))) (G1 : Int → Int → (List Int) → (List Int) → Int → Option ((List Int))) (h1 : ∀ a0 a1 a2 a3 a4, loopF (E174 k) (S174 k) Try.f174 p174_1 [] k (n174_1 a0 a1 a2 a3 a4) = G1 a0 a1 a2 a3 a4) (v : Int × Int × Int × (List Int) × (List Int) × Int × Int) : roundF (E174 k) (S174 k) Try.f174 p174_0 [] rec (n174_0 v.1 v.2.1 v.2.2.1 v.2.2.2.1 v.2.2.2.2.1 v.2.2.2.2.2.1 v.2.2.2.2.2.2) = spec_l09Distances.s0 k (fun a0 a1 a2 a3 a4 a5 a6 => rec (n174_0 a0 a1 a2 a3 a4 a5 a6)) G1 v.1 v.2.1 v.2.2.1 v.2.2.2.1 v.2.2.2.2.1 v.2.2.2.2.2.1 v.2.2.2.2.2.2 := by
  obtain rfl : (fun a0 a1 a2 a3 a4 => loopF (E174 k) (S174 k) Try.f174 p174_1 [] k (n174_1 a0 a1 a2 a3 a4)) = G1 := funext fun a0 => funext fun a1 => funext fun a2 => funext fun a3 => funext fun a4 => h1 a0 a1 a2 a3 a4
  kernel_rfl
theorem q174_0 (k : Nat) (n : Nat) : ∀ v : Int × Int × Int × (List Int) × (List Int) × Int × Int, loopF (E174 k) (S174 k) Try.f174 p174_0 [] n (n174_0 v.1 v.2.1 v.2.2.1 v.2.2.2.1 v.2.2.2.2.1 v.2.2.2.2.2.1 v.2.2.2.2.2.2) = spec_l09Distances.l0 k n v.1 v.2.1 v.2.2.1 v.2.2.2.1 v.2.2.2.2.1 v.2.2.2.2.2.1 v.2.2.2.2.2.2 :=
  loopF_eq (E174 k) (S174 k) Try.f174 p174_0 [] (fun v : Int × Int × Int × (List Int) × (List Int) × Int × Int => n174_0 v.1 v.2.1 v.2.2.1 v.2.2.2.1 v.2.2.2.2.1 v.2.2.2.2.2.1 v.2.2.2.2.2.2) (fun rec v => spec_l09Distances.s0 k (fun a0 a1 a2 a3 a4 a5 a6 => rec (a0, a1, a2, a3, a4, a5, a6)) (spec_l09Distances.l1 k k) v.1 v.2.1 v.2.2.1 v.2.2.2.1 v.2.2.2.2.1 v.2.2.2.2.2.1 v.2.2.2.2.2.2) (fun n v => spec_l09Distances.l0 k n v.1 v.2.1 v.2.2.1 v.2.2.2.1 v.2.2.2.2.1 v.2.2.2.2.2.1 v.2.2.2.2.2.2) (fun _ => rfl) (fun _ _ => rfl) (fun rec v => r174_0 k rec _ (fun a0 a1 a2 a3 a4 => q174_1 k k (a0, a1, a2, a3, a4)) v) n
theorem e174 (k : Nat) (x : dens (flatC (S174 k).ps)) : funK (E174 k) (S174 k) Try.f174 x = (S174 k).fn x := by
  have h : funK (E174 k) (S174 k) Try.f174 x = spec_l09Distances.g k (fun a0 a1 a2 a3 a4 a5 a6 => loopF (E174 k) (S174 k) Try.f174 p174_0 [] k (n174_0 a0 a1 a2 a3 a4 a5 a6)) x.1 x.2.1 x.2.2 := by kernel_rfl
  rw [h]
  rw [show (fun a0 a1 a2 a3 a4 a5 a6 => loopF (E174 k) (S174 k) Try.f174 p174_0 [] k (n174_0 a0 a1 a2 a3 a4 a5 a6)) = spec_l09Distances.l0 k k from funext fun a0 => funext fun a1 => funext fun a2 => funext fun a3 => funext fun a4 => funext fun a5 => funext fun a6 => q174_0 k k (a0, a1, a2, a3, a4, a5, a6)]
  rfl
theorem M174 (k : Nat) : Meets Try.prog 174 (S174 k) := meets_of Try.func174 (by kernel_rfl) tbOk (orc_cons (M177 k) orc_nil) mixOk (fun x y h => (e174 k x).trans h) rfl

/-! spec_DistancesFrom: function 67 -/
noncomputable def spec_DistancesFrom.f (k : Nat) (a0_0 : Int) (a0_1 : Int) (a1 : Int) : Option ((List Int) × Int) := (spec_l09Places.f k a0_0 a0_1 [a1]).bind fun t1 => if t1 = 0 then ((spec_l09Distances.f k a0_0 a0_1 a1).bind fun t2 => some (t2, 0)) else (some ([], t1))
noncomputable def S67 (k : Nat) : Does := ⟨[(true, [.dat (.int .i64), .dat (.int .i64)]), (false, [.dat (.int .i64)])], [(false, [.own 2 (.int .i64)]), (false, [.dat (.int .i64)])], fun x => spec_DistancesFrom.f k x.1 x.2.1 x.2.2⟩
noncomputable def E67 (k : Nat) : En := ⟨tb, orcOf [(173, S173 k), (174, S174 k)], lvOf [], k, 0, lvOf [], []⟩
theorem e67 (k : Nat) (x : dens (flatC (S67 k).ps)) : funK (E67 k) (S67 k) Try.f67 x = (S67 k).fn x := by
  kernel_rfl
theorem M67 (k : Nat) : Meets Try.prog 67 (S67 k) := meets_of Try.func67 (by kernel_rfl) tbOk (orc_cons (M173 k) (orc_cons (M174 k) orc_nil)) mixOk (fun x y h => (e67 k x).trans h) rfl

/-! laws_likeInts: function 32 -/
noncomputable def laws_likeInts.s0 (k : Nat) (r0 : (List Int) → (List Int) → Int → Option (Bool)) (x0 : List Int) (x1 : List Int) (x5 : Int) : Option (Bool) := if x5 < (x0.length : Int) then (if 0 ≤ x5 then (if x5 < (x0.length : Int) then (if 0 ≤ x5 then (if x5 < (x1.length : Int) then (if (rd x0 x5) = (rd x1 x5) then (r0 x0 x1 (wrap64 (x5 + 1))) else (some false)) else (none)) else (none)) else (none)) else (none)) else (some true)
noncomputable def laws_likeInts.l0 (k : Nat) : Nat → (List Int) → (List Int) → Int → Option (Bool)
  | 0, _, _, _ => none
  | n + 1, x0, x1, x2 => laws_likeInts.s0 k (laws_likeInts.l0 k n) x0 x1 x2
noncomputable def laws_likeInts.g (k : Nat) (r0 : (List Int) → (List Int) → Int → Option (Bool)) (l0 : List Int) (l1 : List Int) : Option (Bool) := if (l0.length : Int) = (l1.length : Int) then (r0 l0 l1 0) else (some false)
noncomputable def laws_likeInts.f (k : Nat) (l0 : List Int) (l1 : List Int) : Option (Bool) := laws_likeInts.g k (laws_likeInts.l0 k k) l0 l1
noncomputable def S32 (k : Nat) : Does := ⟨[(false, [.dat (.list (.int .i64))]), (false, [.dat (.list (.int .i64))])], [(false, [.dat .bool])], fun x => laws_likeInts.f k x.1 x.2⟩
noncomputable def E32 (k : Nat) : En := ⟨tb, orcOf [], lvOf [(0, [(0, []), (1, []), (5, [])])], k, 0, lvOf [], []⟩
noncomputable def n32_0 (x0 : List Int) (x1 : List Int) (x5 : Int) : St := ⟨26, lookA [(0, .dat (.list (.int .i64)) x0), (1, .dat (.list (.int .i64)) x1), (5, .dat (.int .i64) x5)], Go.V.look []⟩
def p32_0 : List Bool := [true, true, false, true, false]
theorem r32_0 (k : Nat) (rec : St → Option (Bool)) (v : (List Int) × (List Int) × Int) : roundF (E32 k) (S32 k) Try.f32 p32_0 [] rec (n32_0 v.1 v.2.1 v.2.2) = laws_likeInts.s0 k (fun a0 a1 a2 => rec (n32_0 a0 a1 a2)) v.1 v.2.1 v.2.2 := by
  kernel_rfl
theorem q32_0 (k : Nat) (n : Nat) : ∀ v : (List Int) × (List Int) × Int, loopF (E32 k) (S32 k) Try.f32 p32_0 [] n (n32_0 v.1 v.2.1 v.2.2) = laws_likeInts.l0 k n v.1 v.2.1 v.2.2 :=
  loopF_eq (E32 k) (S32 k) Try.f32 p32_0 [] (fun v : (List Int) × (List Int) × Int => n32_0 v.1 v.2.1 v.2.2) (fun rec v => laws_likeInts.s0 k (fun a0 a1 a2 => rec (a0, a1, a2)) v.1 v.2.1 v.2.2) (fun n v => laws_likeInts.l0 k n v.1 v.2.1 v.2.2) (fun _ => rfl) (fun _ _ => rfl) (fun rec v => r32_0 k rec v) n
theorem e32 (k : Nat) (x : dens (flatC (S32 k).ps)) : funK (E32 k) (S32 k) Try.f32 x = (S32 k).fn x := by
  have h : funK (E32 k) (S32 k) Try.f32 x = laws_likeInts.g k (fun a0 a1 a2 => loopF (E32 k) (S32 k) Try.f32 p32_0 [] k (n32_0 a0 a1 a2)) x.1 x.2 := by kernel_rfl
  rw [h]
  rw [show (fun a0 a1 a2 => loopF (E32 k) (S32 k) Try.f32 p32_0 [] k (n32_0 a0 a1 a2)) = laws_likeInts.l0 k k from funext fun a0 => funext fun a1 => funext fun a2 => q32_0 k k (a0, a1, a2)]
  rfl
theorem M32 (k : Nat) : Meets Try.prog 32 (S32 k) := meets_of Try.func32 (by kernel_rfl) tbOk orc_nil mixOk (fun x y h => (e32 k x).trans h) rfl

/-! spec_IsGround: function 69 -/
noncomputable def spec_IsGround.f (a0_0 : Int) (a0_1 : Int) : Option (Bool) := (spec_l09Is.f a0_0 a0_1).bind fun t1 => some t1
noncomputable def S69 (k : Nat) : Does := ⟨[(true, [.dat (.int .i64), .dat (.int .i64)])], [(false, [.dat .bool])], fun x => spec_IsGround.f x.1 x.2⟩
noncomputable def E69 (k : Nat) : En := ⟨tb, orcOf [(101, S101 k)], lvOf [], k, 0, lvOf [], []⟩
theorem e69 (k : Nat) (x : dens (flatC (S69 k).ps)) : funK (E69 k) (S69 k) Try.f69 x = (S69 k).fn x := by
  kernel_rfl
theorem M69 (k : Nat) : Meets Try.prog 69 (S69 k) := meets_of Try.func69 (by kernel_rfl) tbOk (orc_cons (M101 k) orc_nil) mixOk (fun x y h => (e69 k x).trans h) rfl

/-! impl_Ground_isNear: function 175 -/
noncomputable def impl_Ground_isNear.f (a0_0 : Int) (a0_1 : Int) (a1 : Int) (a2 : Int) : Option (Bool) := if a1 = a2 then (some true) else ((impl_Ground_joins.f a0_0 a0_1 a1 a2).bind fun t1 => some t1)
noncomputable def S175 (k : Nat) : Does := ⟨[(true, [.dat (.int .i64), .dat (.int .i64)]), (false, [.dat (.int .i64)]), (false, [.dat (.int .i64)])], [(false, [.dat .bool])], fun x => impl_Ground_isNear.f x.1 x.2.1 x.2.2.1 x.2.2.2⟩
noncomputable def E175 (k : Nat) : En := ⟨tb, orcOf [(218, S218 k)], lvOf [], k, 0, lvOf [], []⟩
theorem e175 (k : Nat) (x : dens (flatC (S175 k).ps)) : funK (E175 k) (S175 k) Try.f175 x = (S175 k).fn x := by
  kernel_rfl
theorem M175 (k : Nat) : Meets Try.prog 175 (S175 k) := meets_of Try.func175 (by kernel_rfl) tbOk (orc_cons (M218 k) orc_nil) mixOk (fun x y h => (e175 k x).trans h) rfl

/-! impl_AreNear: function 70 -/
noncomputable def impl_AreNear.f (a0_0 : Int) (a0_1 : Int) (a1 : Int) (a2 : Int) : Option (Bool × Int) := (impl_Ground_isPlace.f a0_0 a0_1 a1).bind fun t1 => if t1 = true then ((impl_Ground_isPlace.f a0_0 a0_1 a2).bind fun t2 => (impl_groundCode.f a0_0 a0_1 t2).bind fun t3 => if t3 = 0 then ((impl_Ground_isNear.f a0_0 a0_1 a1 a2).bind fun t4 => some (t4, 0)) else (some (false, t3))) else ((impl_groundCode.f a0_0 a0_1 false).bind fun t5 => if t5 = 0 then ((impl_Ground_isNear.f a0_0 a0_1 a1 a2).bind fun t6 => some (t6, 0)) else (some (false, t5)))
noncomputable def S70 (k : Nat) : Does := ⟨[(true, [.dat (.int .i64), .dat (.int .i64)]), (false, [.dat (.int .i64)]), (false, [.dat (.int .i64)])], [(false, [.dat .bool]), (false, [.dat (.int .i64)])], fun x => impl_AreNear.f x.1 x.2.1 x.2.2.1 x.2.2.2⟩
noncomputable def E70 (k : Nat) : En := ⟨tb, orcOf [(172, S172 k), (107, S107 k), (175, S175 k)], lvOf [], k, 0, lvOf [], []⟩
theorem e70 (k : Nat) (x : dens (flatC (S70 k).ps)) : funK (E70 k) (S70 k) Try.f70 x = (S70 k).fn x := by
  kernel_rfl
theorem M70 (k : Nat) : Meets Try.prog 70 (S70 k) := meets_of Try.func70 (by kernel_rfl) tbOk (orc_cons (M172 k) (orc_cons (M107 k) (orc_cons (M175 k) orc_nil))) mixOk (fun x y h => (e70 k x).trans h) rfl

/-! spec_DrawLeastEqualGap: function 71 -/
noncomputable def spec_DrawLeastEqualGap.f (k : Nat) (l0 : List Int) : Option (Int × Int × Int) := (spec_l01From.f k l0).bind fun t1 => (spec_l01Pick.f (t1.1, t1.2.1, t1.2.2) [3, 4, 5]).bind fun t2 => (spec_l01Next.f (t2.2.1, t2.2.2.1, t2.2.2.2) t2.1).bind fun t3 => (spec_l09DrawOf.f k (t3.2.1, t3.2.2.1, t3.2.2.2) (wrap64 (1 + t3.1))).bind fun t4 => (spec_l01Near.f (t4.2.2.1, t4.2.2.2.1, t4.2.2.2.2) 9).bind fun t5 => if 3 < t4.1 then ((spec_l01Near.f (t5.2.1, t5.2.2.1, t5.2.2.2) 5).bind fun t6 => (spec_l09Bad.f (t6.2.1, t6.2.2.1, t6.2.2.2) t4.1 t4.2.1).bind fun t7 => some (t7.1, t7.2.1, (wrap64 (1 + t6.1)))) else ((spec_l09Bad.f (t5.2.1, t5.2.2.1, t5.2.2.2) t4.1 t4.2.1).bind fun t8 => some (t8.1, t8.2.1, (wrap64 (1 + t5.1))))
noncomputable def S71 (k : Nat) : Does := ⟨[(false, [.dat (.list (.int .u8))])], [(true, [.dat (.int .i64), .dat (.int .i64)]), (false, [.dat (.int .i64)])], fun x => spec_DrawLeastEqualGap.f k x⟩
noncomputable def E71 (k : Nat) : En := ⟨tb, orcOf [(135, S135 k), (136, S136 k), (147, S147 k), (176, S176 k), (137, S137 k), (171, S171 k)], lvOf [], k, 0, lvOf [], []⟩
theorem e71 (k : Nat) (x : dens (flatC (S71 k).ps)) : funK (E71 k) (S71 k) Try.f71 x = (S71 k).fn x := by
  kernel_rfl
theorem M71 (k : Nat) : Meets Try.prog 71 (S71 k) := meets_of Try.func71 (by kernel_rfl) tbOk (orc_cons (M135 k) (orc_cons (M136 k) (orc_cons (M147 k) (orc_cons (M176 k) (orc_cons (M137 k) (orc_cons (M171 k) orc_nil)))))) mixOk (fun x y h => (e71 k x).trans h) rfl

/-! impl_length_int64: function 149 -/
noncomputable def impl_length_int64.f (l0 : List Int) : Option (Int) := some (l0.length : Int)
noncomputable def S149 (k : Nat) : Does := ⟨[(false, [.dat (.list (.int .i64))])], [(false, [.dat (.int .i64)])], fun x => impl_length_int64.f x⟩
noncomputable def E149 (k : Nat) : En := ⟨tb, orcOf [], lvOf [], k, 0, lvOf [], []⟩
theorem e149 (k : Nat) (x : dens (flatC (S149 k).ps)) : funK (E149 k) (S149 k) Try.f149 x = (S149 k).fn x := by
  kernel_rfl
theorem M149 (k : Nat) : Meets Try.prog 149 (S149 k) := meets_of Try.func149 (by kernel_rfl) tbOk orc_nil mixOk (fun x y h => (e149 k x).trans h) rfl

/-! impl_IsTasks_1: function 235 -/
noncomputable def impl_IsTasks_1.f (a0 : Int) : Option (Bool) := (impl_within.f a0 1 40).bind fun t1 => some t1
noncomputable def S235 (k : Nat) : Does := ⟨[(false, [.dat (.int .i64)])], [(false, [.dat .bool])], fun x => impl_IsTasks_1.f x⟩
noncomputable def E235 (k : Nat) : En := ⟨tb, orcOf [(108, S108 k)], lvOf [], k, 0, lvOf [], []⟩
theorem e235 (k : Nat) (x : dens (flatC (S235 k).ps)) : funK (E235 k) (S235 k) Try.f235 x = (S235 k).fn x := by
  kernel_rfl
theorem M235 (k : Nat) : Meets Try.prog 235 (S235 k) := meets_of Try.func235 (by kernel_rfl) tbOk (orc_cons (M108 k) orc_nil) mixOk (fun x y h => (e235 k x).trans h) rfl

/-! impl_areAll_int64_1_impl_IsTasks_1: function 217 -/
noncomputable def impl_areAll_int64_1_impl_IsTasks_1.f (a0 : Int) (a1 : Unit) : Option (Bool) := (impl_IsTasks_1.f a0).bind fun t1 => some (!decide (t1 = true))
noncomputable def S217_c235 (k : Nat) : Does := ⟨[(false, [.dat (.int .i64)]), (false, [.dat (.ptr (.clo 235 .unit))])], [(false, [.dat .bool])], fun x => impl_areAll_int64_1_impl_IsTasks_1.f x.1 x.2⟩
noncomputable def E217_c235 (k : Nat) : En := ⟨tb, orcOf [(235, S235 k)], lvOf [], k, 0, lvOf [], []⟩
theorem e217_c235 (k : Nat) (x : dens (flatC (S217_c235 k).ps)) : funK (E217_c235 k) (S217_c235 k) Try.f217 x = (S217_c235 k).fn x := by
  kernel_rfl
theorem M217_c235 (k : Nat) : Meets Try.prog 217 (S217_c235 k) := meets_of Try.func217 (by kernel_rfl) tbOk (orc_cons (M235 k) orc_nil) mixOk (fun x y h => (e217_c235 k x).trans h) rfl

/-! slices_IndexFunc_int64_int64_impl_areAll_int64_1_impl_IsTasks_1: function 236 -/
noncomputable def slices_IndexFunc_int64_int64_impl_areAll_int64_1_impl_IsTasks_1.s0 (k : Nat) (r0 : (List Int) → Unit → Int → Int → Option (Int)) (x0 : List Int) (x1 : Unit) (x7 : Int) (x8 : Int) : Option (Int) := if x8 < x7 then (if 0 ≤ x8 then (if x8 < (x0.length : Int) then ((impl_areAll_int64_1_impl_IsTasks_1.f (rd x0 x8) x1).bind fun t1 => if t1 = true then (some x8) else (r0 x0 x1 x7 (wrap64 (x8 + 1)))) else (none)) else (none)) else (some (-1))
noncomputable def slices_IndexFunc_int64_int64_impl_areAll_int64_1_impl_IsTasks_1.l0 (k : Nat) : Nat → (List Int) → Unit → Int → Int → Option (Int)
  | 0, _, _, _, _ => none
  | n + 1, x0, x1, x2, x3 => slices_IndexFunc_int64_int64_impl_areAll_int64_1_impl_IsTasks_1.s0 k (slices_IndexFunc_int64_int64_impl_areAll_int64_1_impl_IsTasks_1.l0 k n) x0 x1 x2 x3
noncomputable def slices_IndexFunc_int64_int64_impl_areAll_int64_1_impl_IsTasks_1.g (k : Nat) (r0 : (List Int) → Unit → Int → Int → Option (Int)) (l0 : List Int) (a1 : Unit) : Option (Int) := r0 l0 a1 (l0.length : Int) 0
noncomputable def slices_IndexFunc_int64_int64_impl_areAll_int64_1_impl_IsTasks_1.f (k : Nat) (l0 : List Int) (a1 : Unit) : Option (Int) := slices_IndexFunc_int64_int64_impl_areAll_int64_1_impl_IsTasks_1.g k (slices_IndexFunc_int64_int64_impl_areAll_int64_1_impl_IsTasks_1.l0 k k) l0 a1
noncomputable def S236_c217c235 (k : Nat) : Does := ⟨[(false, [.dat (.list (.int .i64))]), (false, [.dat (.clo 217 (.ptr (.clo 235 .unit)))])], [(false, [.dat (.int .i64)])], fun x => slices_IndexFunc_int64_int64_impl_areAll_int64_1_impl_IsTasks_1.f k x.1 x.2⟩
noncomputable def E236_c217c235 (k : Nat) : En := ⟨tb, orcOf [(217, S217_c235 k)], lvOf [(0, [(0, []), (1, []), (7, []), (8, [])])], k, 0, lvOf [], []⟩
noncomputable def n236_c217c235_0 (x0 : List Int) (x1 : Unit) (x7 : Int) (x8 : Int) : St := ⟨19, lookA [(0, .dat (.list (.int .i64)) x0), (1, .dat (.clo 217 (.ptr (.clo 235 .unit))) x1), (7, .dat (.int .i64) x7), (8, .dat (.int .i64) x8)], Go.V.look []⟩
def p236_c217c235_0 : List Bool := [true, false, true, false]
theorem r236_c217c235_0 (k : Nat) (rec : St → Option (Int)) (v : (List Int) × Unit × Int × Int) : roundF (E236_c217c235 k) (S236_c217c235 k) Try.f236 p236_c217c235_0 [] rec (n236_c217c235_0 v.1 v.2.1 v.2.2.1 v.2.2.2) = slices_IndexFunc_int64_int64_impl_areAll_int64_1_impl_IsTasks_1.s0 k (fun a0 a1 a2 a3 => rec (n236_c217c235_0 a0 a1 a2 a3)) v.1 v.2.1 v.2.2.1 v.2.2.2 := by
  kernel_rfl
theorem q236_c217c235_0 (k : Nat) (n : Nat) : ∀ v : (List Int) × Unit × Int × Int, loopF (E236_c217c235 k) (S236_c217c235 k) Try.f236 p236_c217c235_0 [] n (n236_c217c235_0 v.1 v.2.1 v.2.2.1 v.2.2.2) = slices_IndexFunc_int64_int64_impl_areAll_int64_1_impl_IsTasks_1.l0 k n v.1 v.2.1 v.2.2.1 v.2.2.2 :=
  loopF_eq (E236_c217c235 k) (S236_c217c235 k) Try.f236 p236_c217c235_0 [] (fun v : (List Int) × Unit × Int × Int => n236_c217c235_0 v.1 v.2.1 v.2.2.1 v.2.2.2) (fun rec v => slices_IndexFunc_int64_int64_impl_areAll_int64_1_impl_IsTasks_1.s0 k (fun a0 a1 a2 a3 => rec (a0, a1, a2, a3)) v.1 v.2.1 v.2.2.1 v.2.2.2) (fun n v => slices_IndexFunc_int64_int64_impl_areAll_int64_1_impl_IsTasks_1.l0 k n v.1 v.2.1 v.2.2.1 v.2.2.2) (fun _ => rfl) (fun _ _ => rfl) (fun rec v => r236_c217c235_0 k rec v) n
theorem e236_c217c235 (k : Nat) (x : dens (flatC (S236_c217c235 k).ps)) : funK (E236_c217c235 k) (S236_c217c235 k) Try.f236 x = (S236_c217c235 k).fn x := by
  have h : funK (E236_c217c235 k) (S236_c217c235 k) Try.f236 x = slices_IndexFunc_int64_int64_impl_areAll_int64_1_impl_IsTasks_1.g k (fun a0 a1 a2 a3 => loopF (E236_c217c235 k) (S236_c217c235 k) Try.f236 p236_c217c235_0 [] k (n236_c217c235_0 a0 a1 a2 a3)) x.1 x.2 := by kernel_rfl
  rw [h]
  rw [show (fun a0 a1 a2 a3 => loopF (E236_c217c235 k) (S236_c217c235 k) Try.f236 p236_c217c235_0 [] k (n236_c217c235_0 a0 a1 a2 a3)) = slices_IndexFunc_int64_int64_impl_areAll_int64_1_impl_IsTasks_1.l0 k k from funext fun a0 => funext fun a1 => funext fun a2 => funext fun a3 => q236_c217c235_0 k k (a0, a1, a2, a3)]
  rfl
theorem M236_c217c235 (k : Nat) : Meets Try.prog 236 (S236_c217c235 k) := meets_of Try.func236 (by kernel_rfl) tbOk (orc_cons (M217_c235 k) orc_nil) mixOk (fun x y h => (e236_c217c235 k x).trans h) rfl

/-! slices_ContainsFunc_int64_int64_impl_areAll_int64_1_impl_IsTasks_1: function 216 -/
noncomputable def slices_ContainsFunc_int64_int64_impl_areAll_int64_1_impl_IsTasks_1.f (k : Nat) (l0 : List Int) (a1 : Unit) : Option (Bool) := (slices_IndexFunc_int64_int64_impl_areAll_int64_1_impl_IsTasks_1.f k l0 a1).bind fun t1 => some (decide (0 ≤ t1))
noncomputable def S216_c217c235 (k : Nat) : Does := ⟨[(false, [.dat (.list (.int .i64))]), (false, [.dat (.clo 217 (.ptr (.clo 235 .unit)))])], [(false, [.dat .bool])], fun x => slices_ContainsFunc_int64_int64_impl_areAll_int64_1_impl_IsTasks_1.f k x.1 x.2⟩
noncomputable def E216_c217c235 (k : Nat) : En := ⟨tb, orcOf [(236, S236_c217c235 k)], lvOf [], k, 0, lvOf [], []⟩
theorem e216_c217c235 (k : Nat) (x : dens (flatC (S216_c217c235 k).ps)) : funK (E216_c217c235 k) (S216_c217c235 k) Try.f216 x = (S216_c217c235 k).fn x := by
  kernel_rfl
theorem M216_c217c235 (k : Nat) : Meets Try.prog 216 (S216_c217c235 k) := meets_of Try.func216 (by kernel_rfl) tbOk (orc_cons (M236_c217c235 k) orc_nil) mixOk (fun x y h => (e216_c217c235 k x).trans h) rfl

/-! impl_areAll_int64_impl_IsTasks_1: function 148 -/
noncomputable def impl_areAll_int64_impl_IsTasks_1.f (k : Nat) (l0 : List Int) (a1 : Unit) : Option (Bool) := (slices_ContainsFunc_int64_int64_impl_areAll_int64_1_impl_IsTasks_1.f k l0 a1).bind fun t1 => some (!decide (t1 = true))
noncomputable def S148_c235 (k : Nat) : Does := ⟨[(false, [.dat (.list (.int .i64))]), (false, [.dat (.clo 235 .unit)])], [(false, [.dat .bool])], fun x => impl_areAll_int64_impl_IsTasks_1.f k x.1 x.2⟩
noncomputable def E148_c235 (k : Nat) : En := ⟨tb, orcOf [(216, S216_c217c235 k)], lvOf [], k, 0, lvOf [], []⟩
theorem e148_c235 (k : Nat) (x : dens (flatC (S148_c235 k).ps)) : funK (E148_c235 k) (S148_c235 k) Try.f148 x = (S148_c235 k).fn x := by
  kernel_rfl
theorem M148_c235 (k : Nat) : Meets Try.prog 148 (S148_c235 k) := meets_of Try.func148 (by kernel_rfl) tbOk (orc_cons (M216_c217c235 k) orc_nil) mixOk (fun x y h => (e148_c235 k x).trans h) rfl

/-! impl_IsTasks: function 214 -/
noncomputable def impl_IsTasks.f (k : Nat) (l0_0 : List Int) : Option (Bool) := (impl_length_int64.f l0_0).bind fun t1 => (impl_within.f t1 1 8).bind fun t2 => if t2 = true then ((impl_areAll_int64_impl_IsTasks_1.f k l0_0 ()).bind fun t3 => some t3) else (some false)
noncomputable def S214 (k : Nat) : Does := ⟨[(true, [.dat (.list (.int .i64))])], [(false, [.dat .bool])], fun x => impl_IsTasks.f k x⟩
noncomputable def E214 (k : Nat) : En := ⟨tb, orcOf [(149, S149 k), (108, S108 k), (148, S148_c235 k)], lvOf [], k, 0, lvOf [], []⟩
theorem e214 (k : Nat) (x : dens (flatC (S214 k).ps)) : funK (E214 k) (S214 k) Try.f214 x = (S214 k).fn x := by
  kernel_rfl
theorem M214 (k : Nat) : Meets Try.prog 214 (S214 k) := meets_of Try.func214 (by kernel_rfl) tbOk (orc_cons (M149 k) (orc_cons (M108 k) (orc_cons (M148_c235 k) orc_nil))) mixOk (fun x y h => (e214 k x).trans h) rfl

/-! impl_Tasks_many: function 197 -/
noncomputable def impl_Tasks_many.f (l0_0 : List Int) : Option (Int) := (impl_length_int64.f l0_0).bind fun t1 => some t1
noncomputable def S197 (k : Nat) : Does := ⟨[(true, [.dat (.list (.int .i64))])], [(false, [.dat (.int .i64)])], fun x => impl_Tasks_many.f x⟩
noncomputable def E197 (k : Nat) : En := ⟨tb, orcOf [(149, S149 k)], lvOf [], k, 0, lvOf [], []⟩
theorem e197 (k : Nat) (x : dens (flatC (S197 k).ps)) : funK (E197 k) (S197 k) Try.f197 x = (S197 k).fn x := by
  kernel_rfl
theorem M197 (k : Nat) : Meets Try.prog 197 (S197 k) := meets_of Try.func197 (by kernel_rfl) tbOk (orc_cons (M149 k) orc_nil) mixOk (fun x y h => (e197 k x).trans h) rfl

/-! impl_bothCode: function 185 -/
noncomputable def impl_bothCode.f (k : Nat) (a0_0 : Int) (a0_1 : Int) (l1_0 : List Int) (a2 : Bool) : Option (Int) := (impl_IsGround.f a0_0 a0_1).bind fun t1 => if t1 = true then ((impl_IsTasks.f k l1_0).bind fun t2 => if (!decide (t2 = true)) = true then (some 1) else (if a2 = true then ((impl_Tasks_many.f l1_0).bind fun t3 => if (!decide (t3 = a0_0)) = true then (some 2) else (some 0)) else (some 2))) else (some 1)
noncomputable def S185 (k : Nat) : Does := ⟨[(true, [.dat (.int .i64), .dat (.int .i64)]), (true, [.dat (.list (.int .i64))]), (false, [.dat .bool])], [(false, [.dat (.int .i64)])], fun x => impl_bothCode.f k x.1 x.2.1 x.2.2.1 x.2.2.2⟩
noncomputable def E185 (k : Nat) : En := ⟨tb, orcOf [(68, S68 k), (214, S214 k), (197, S197 k)], lvOf [], k, 0, lvOf [], []⟩
theorem e185 (k : Nat) (x : dens (flatC (S185 k).ps)) : funK (E185 k) (S185 k) Try.f185 x = (S185 k).fn x := by
  kernel_rfl
theorem M185 (k : Nat) : Meets Try.prog 185 (S185 k) := meets_of Try.func185 (by kernel_rfl) tbOk (orc_cons (M68 k) (orc_cons (M214 k) (orc_cons (M197 k) orc_nil))) mixOk (fun x y h => (e185 k x).trans h) rfl

/-! impl_Tasks_states: function 124 -/
noncomputable def impl_Tasks_states.s0 (k : Nat) (r0 : Int → (List Int) → Int → Int → Option (Int)) (x3 : Int) (x7 : List Int) (x8 : Int) (x9 : Int) : Option (Int) := if x9 < x8 then (if 0 ≤ x9 then (if x9 < (x7.length : Int) then (r0 (wrap64 (x3 * (rd x7 x9))) x7 x8 (wrap64 (x9 + 1))) else (none)) else (none)) else (some x3)
noncomputable def impl_Tasks_states.l0 (k : Nat) : Nat → Int → (List Int) → Int → Int → Option (Int)
  | 0, _, _, _, _ => none
  | n + 1, x0, x1, x2, x3 => impl_Tasks_states.s0 k (impl_Tasks_states.l0 k n) x0 x1 x2 x3
noncomputable def impl_Tasks_states.g (k : Nat) (r0 : Int → (List Int) → Int → Int → Option (Int)) (l0_0 : List Int) : Option (Int) := r0 1 l0_0 (l0_0.length : Int) 0
noncomputable def impl_Tasks_states.f (k : Nat) (l0_0 : List Int) : Option (Int) := impl_Tasks_states.g k (impl_Tasks_states.l0 k k) l0_0
noncomputable def S124 (k : Nat) : Does := ⟨[(true, [.dat (.list (.int .i64))])], [(false, [.dat (.int .i64)])], fun x => impl_Tasks_states.f k x⟩
noncomputable def E124 (k : Nat) : En := ⟨tb, orcOf [], lvOf [(0, [(3, []), (7, []), (8, []), (9, [])])], k, 0, lvOf [], []⟩
noncomputable def n124_0 (x3 : Int) (x7 : List Int) (x8 : Int) (x9 : Int) : St := ⟨18, lookA [(3, .dat (.int .i64) x3), (7, .dat (.list (.int .i64)) x7), (8, .dat (.int .i64) x8), (9, .dat (.int .i64) x9)], Go.V.look []⟩
def p124_0 : List Bool := [true, true, false, true, false]
theorem r124_0 (k : Nat) (rec : St → Option (Int)) (v : Int × (List Int) × Int × Int) : roundF (E124 k) (S124 k) Try.f124 p124_0 [] rec (n124_0 v.1 v.2.1 v.2.2.1 v.2.2.2) = impl_Tasks_states.s0 k (fun a0 a1 a2 a3 => rec (n124_0 a0 a1 a2 a3)) v.1 v.2.1 v.2.2.1 v.2.2.2 := by
  kernel_rfl
theorem q124_0 (k : Nat) (n : Nat) : ∀ v : Int × (List Int) × Int × Int, loopF (E124 k) (S124 k) Try.f124 p124_0 [] n (n124_0 v.1 v.2.1 v.2.2.1 v.2.2.2) = impl_Tasks_states.l0 k n v.1 v.2.1 v.2.2.1 v.2.2.2 :=
  loopF_eq (E124 k) (S124 k) Try.f124 p124_0 [] (fun v : Int × (List Int) × Int × Int => n124_0 v.1 v.2.1 v.2.2.1 v.2.2.2) (fun rec v => impl_Tasks_states.s0 k (fun a0 a1 a2 a3 => rec (a0, a1, a2, a3)) v.1 v.2.1 v.2.2.1 v.2.2.2) (fun n v => impl_Tasks_states.l0 k n v.1 v.2.1 v.2.2.1 v.2.2.2) (fun _ => rfl) (fun _ _ => rfl) (fun rec v => r124_0 k rec v) n
theorem e124 (k : Nat) (x : dens (flatC (S124 k).ps)) : funK (E124 k) (S124 k) Try.f124 x = (S124 k).fn x := by
  have h : funK (E124 k) (S124 k) Try.f124 x = impl_Tasks_states.g k (fun a0 a1 a2 a3 => loopF (E124 k) (S124 k) Try.f124 p124_0 [] k (n124_0 a0 a1 a2 a3)) x := by kernel_rfl
  rw [h]
  rw [show (fun a0 a1 a2 a3 => loopF (E124 k) (S124 k) Try.f124 p124_0 [] k (n124_0 a0 a1 a2 a3)) = impl_Tasks_states.l0 k k from funext fun a0 => funext fun a1 => funext fun a2 => funext fun a3 => q124_0 k k (a0, a1, a2, a3)]
  rfl
theorem M124 (k : Nat) : Meets Try.prog 124 (S124 k) := meets_of Try.func124 (by kernel_rfl) tbOk orc_nil mixOk (fun x y h => (e124 k x).trans h) rfl

/-! impl_Tasks_numbered: function 155 -/
noncomputable def impl_Tasks_numbered.s0 (k : Nat) (r0 : Int → (List Int) → (List Int) → Int → Option ((List Int))) (x1 : Int) (x2_0 : List Int) (x5 : List Int) (x6 : Int) : Option ((List Int)) := if 0 ≤ x6 then (if 0 ≤ x6 then (if x6 < (x2_0.length : Int) then (if (rd x2_0 x6) = 0 then (none) else (if 0 ≤ x6 then (if x6 < (x5.length : Int) then (if 0 ≤ x6 then (if x6 < (x2_0.length : Int) then (if (rd x2_0 x6) = 0 then (none) else (r0 (wrap64 (Int.tdiv x1 (rd x2_0 x6))) x2_0 (x5.set x6.toNat (wrap64 ((Int.tmod x1 (rd x2_0 x6)) + 1))) (wrap64 (x6 - 1)))) else (none)) else (none)) else (none)) else (none))) else (none)) else (none)) else (some x5)
noncomputable def impl_Tasks_numbered.l0 (k : Nat) : Nat → Int → (List Int) → (List Int) → Int → Option ((List Int))
  | 0, _, _, _, _ => none
  | n + 1, x0, x1, x2, x3 => impl_Tasks_numbered.s0 k (impl_Tasks_numbered.l0 k n) x0 x1 x2 x3
noncomputable def impl_Tasks_numbered.g (k : Nat) (r0 : Int → (List Int) → (List Int) → Int → Option ((List Int))) (l0_0 : List Int) (a1 : Int) : Option ((List Int)) := (impl_Tasks_many.f l0_0).bind fun t1 => if 0 ≤ t1 then (if t1 ≤ t1 then (if t1.toNat ≤ 1099511627776 then ((impl_Tasks_many.f l0_0).bind fun t2 => r0 a1 l0_0 (List.replicate t1.toNat (0 : Int)) (wrap64 (t2 - 1))) else (none)) else (none)) else (none)
noncomputable def impl_Tasks_numbered.f (k : Nat) (l0_0 : List Int) (a1 : Int) : Option ((List Int)) := impl_Tasks_numbered.g k (impl_Tasks_numbered.l0 k k) l0_0 a1
noncomputable def S155 (k : Nat) : Does := ⟨[(true, [.dat (.list (.int .i64))]), (false, [.dat (.int .i64)])], [(false, [.own 2 (.int .i64)])], fun x => impl_Tasks_numbered.f k x.1 x.2⟩
noncomputable def E155 (k : Nat) : En := ⟨tb, orcOf [(197, S197 k)], lvOf [(0, [(1, []), (2, []), (5, []), (6, [])])], k, 0, lvOf [], []⟩
noncomputable def n155_0 (x1 : Int) (x2_0 : List Int) (x5 : List Int) (x6 : Int) : St := ⟨36, lookA [(1, .dat (.int .i64) x1), (2, .box 0 0), (5, .own 1), (6, .dat (.int .i64) x6)], Go.V.look [(0, .cells [.dat (.list (.int .i64)) x2_0]), (1, .flat 2 (.int .i64) x5)]⟩
def p155_0 : List Bool := [true, true, false, true, false]
theorem r155_0 (k : Nat) (rec : St → Option ((List Int))) (v : Int × (List Int) × (List Int) × Int) : roundF (E155 k) (S155 k) Try.f155 p155_0 [] rec (n155_0 v.1 v.2.1 v.2.2.1 v.2.2.2) = impl_Tasks_numbered.s0 k (fun a0 a1 a2 a3 => rec (n155_0 a0 a1 a2 a3)) v.1 v.2.1 v.2.2.1 v.2.2.2 := by
  kernel_rfl
theorem q155_0 (k : Nat) (n : Nat) : ∀ v : Int × (List Int) × (List Int) × Int, loopF (E155 k) (S155 k) Try.f155 p155_0 [] n (n155_0 v.1 v.2.1 v.2.2.1 v.2.2.2) = impl_Tasks_numbered.l0 k n v.1 v.2.1 v.2.2.1 v.2.2.2 :=
  loopF_eq (E155 k) (S155 k) Try.f155 p155_0 [] (fun v : Int × (List Int) × (List Int) × Int => n155_0 v.1 v.2.1 v.2.2.1 v.2.2.2) (fun rec v => impl_Tasks_numbered.s0 k (fun a0 a1 a2 a3 => rec (a0, a1, a2, a3)) v.1 v.2.1 v.2.2.1 v.2.2.2) (fun n v => impl_Tasks_numbered.l0 k n v.1 v.2.1 v.2.2.1 v.2.2.2) (fun _ => rfl) (fun _ _ => rfl) (fun rec v => r155_0 k rec v) n
theorem e155 (k : Nat) (x : dens (flatC (S155 k).ps)) : funK (E155 k) (S155 k) Try.f155 x = (S155 k).fn x := by
  have h : funK (E155 k) (S155 k) Try.f155 x = impl_Tasks_numbered.g k (fun a0 a1 a2 a3 => loopF (E155 k) (S155 k) Try.f155 p155_0 [] k (n155_0 a0 a1 a2 a3)) x.1 x.2 := by kernel_rfl
  rw [h]
  rw [show (fun a0 a1 a2 a3 => loopF (E155 k) (S155 k) Try.f155 p155_0 [] k (n155_0 a0 a1 a2 a3)) = impl_Tasks_numbered.l0 k k from funext fun a0 => funext fun a1 => funext fun a2 => funext fun a3 => q155_0 k k (a0, a1, a2, a3)]
  rfl
theorem M155 (k : Nat) : Meets Try.prog 155 (S155 k) := meets_of Try.func155 (by kernel_rfl) tbOk (orc_cons (M197 k) orc_nil) mixOk (fun x y h => (e155 k x).trans h) rfl

/-! slices_Clone_int64_int64: function 125 -/
def slices_Clone_int64_int64.f (l : List Int) : Option (List Int) := if l.length = 0 then some [] else if 0 + l.length ≤ 1099511627776 then some ([] ++ l) else none
def S125 (k : Nat) : Does := ⟨[(false, [.dat (.list (.int .i64))])], [(false, [.own 2 (.int .i64)])], fun x => slices_Clone_int64_int64.f x⟩
def E125 : En := ⟨tb, orcOf [], lvOf [], 0, 0, lvOf [], []⟩
theorem slices_Clone_int64_int64.e (l : List Int) (h : l.length ≠ 0) : slices_Clone_int64_int64.f l = (if l.length = 0 then none else if 0 + l.length ≤ 1099511627776 then some ([] ++ l) else none) := by
  unfold slices_Clone_int64_int64.f; rw [if_neg h, if_neg h]
theorem M125 (k : Nat) : Meets Try.prog 125 (S125 k) := by
  refine meets_nil (E := E125) (t := (.int .i64)) (rs := [(false, [.own 2 (.int .i64)])]) (F := slices_Clone_int64_int64.f) Try.func125 (by kernel_rfl) tbOk orc_nil mixOk rfl rfl rfl (fun l hl => ?_) (by kernel_rfl) (by kernel_rfl)
  refine Eq.trans ?_ (slices_Clone_int64_int64.e l hl).symm
  kernel_rfl

/-! impl_Tasks_step: function 140 -/
noncomputable def impl_Tasks_step.s0 (k : Nat) (r0 : Int → (List Int) → (List Int) → Int → Int → Option ((List Int) × Bool)) (x2 : Int) (x3_0 : List Int) (x8 : List Int) (x13 : Int) (x14 : Int) : Option ((List Int) × Bool) := if x14 < x13 then (if (decide (x14 = x2)) = true then (if 0 ≤ x14 then (if x14 < (x3_0.length : Int) then (if 0 ≤ x14 then (if x14 < (x8.length : Int) then (r0 x2 x3_0 (x8.set x14.toNat (rd x3_0 x14)) x13 (wrap64 (x14 + 1))) else (none)) else (none)) else (none)) else (none)) else (if 0 ≤ x14 then (if x14 < (x8.length : Int) then (if (decide ((rd x8 x14) < 2)) = true then (some ([], false)) else (if 0 ≤ x14 then (if x14 < (x8.length : Int) then (if 0 ≤ x14 then (if x14 < (x8.length : Int) then (r0 x2 x3_0 (x8.set x14.toNat (wrap64 ((rd x8 x14) - 1))) x13 (wrap64 (x14 + 1))) else (none)) else (none)) else (none)) else (none))) else (none)) else (none))) else (some (x8, true))
noncomputable def impl_Tasks_step.l0 (k : Nat) : Nat → Int → (List Int) → (List Int) → Int → Int → Option ((List Int) × Bool)
  | 0, _, _, _, _, _ => none
  | n + 1, x0, x1, x2, x3, x4 => impl_Tasks_step.s0 k (impl_Tasks_step.l0 k n) x0 x1 x2 x3 x4
noncomputable def impl_Tasks_step.g (k : Nat) (r0 : Int → (List Int) → (List Int) → Int → Int → Option ((List Int) × Bool)) (l0_0 : List Int) (l1 : List Int) (a2 : Int) : Option ((List Int) × Bool) := (slices_Clone_int64_int64.f l1).bind fun t1 => r0 a2 l0_0 t1 (t1.length : Int) 0
noncomputable def impl_Tasks_step.f (k : Nat) (l0_0 : List Int) (l1 : List Int) (a2 : Int) : Option ((List Int) × Bool) := impl_Tasks_step.g k (impl_Tasks_step.l0 k k) l0_0 l1 a2
noncomputable def S140 (k : Nat) : Does := ⟨[(true, [.dat (.list (.int .i64))]), (false, [.dat (.list (.int .i64))]), (false, [.dat (.int .i64)])], [(false, [.own 2 (.int .i64)]), (false, [.dat .bool])], fun x => impl_Tasks_step.f k x.1 x.2.1 x.2.2⟩
noncomputable def E140 (k : Nat) : En := ⟨tb, orcOf [(125, S125 k)], lvOf [(0, [(2, []), (3, []), (8, []), (13, []), (14, [])])], k, 0, lvOf [], []⟩
noncomputable def n140_0 (x2 : Int) (x3_0 : List Int) (x8 : List Int) (x13 : Int) (x14 : Int) : St := ⟨43, lookA [(2, .dat (.int .i64) x2), (3, .box 0 0), (8, .own 1), (13, .dat (.int .i64) x13), (14, .dat (.int .i64) x14)], Go.V.look [(0, .cells [.dat (.list (.int .i64)) x3_0]), (1, .flat 2 (.int .i64) x8)]⟩
def p140_0 : List Bool := [true, true, false, true, false]
theorem r140_0 (k : Nat) (rec : St → Option ((List Int) × Bool)) (v : Int × (List Int) × (List Int) × Int × Int) : roundF (E140 k) (S140 k) Try.f140 p140_0 [] rec (n140_0 v.1 v.2.1 v.2.2.1 v.2.2.2.1 v.2.2.2.2) = impl_Tasks_step.s0 k (fun a0 a1 a2 a3 a4 => rec (n140_0 a0 a1 a2 a3 a4)) v.1 v.2.1 v.2.2.1 v.2.2.2.1 v.2.2.2.2 := by
  kernel_rfl
theorem q140_0 (k : Nat) (n : Nat) : ∀ v : Int × (List Int) × (List Int) × Int × Int, loopF (E140 k) (S140 k) Try.f140 p140_0 [] n (n140_0 v.1 v.2.1 v.2.2.1 v.2.2.2.1 v.2.2.2.2) = impl_Tasks_step.l0 k n v.1 v.2.1 v.2.2.1 v.2.2.2.1 v.2.2.2.2 :=
  loopF_eq (E140 k) (S140 k) Try.f140 p140_0 [] (fun v : Int × (List Int) × (List Int) × Int × Int => n140_0 v.1 v.2.1 v.2.2.1 v.2.2.2.1 v.2.2.2.2) (fun rec v => impl_Tasks_step.s0 k (fun a0 a1 a2 a3 a4 => rec (a0, a1, a2, a3, a4)) v.1 v.2.1 v.2.2.1 v.2.2.2.1 v.2.2.2.2) (fun n v => impl_Tasks_step.l0 k n v.1 v.2.1 v.2.2.1 v.2.2.2.1 v.2.2.2.2) (fun _ => rfl) (fun _ _ => rfl) (fun rec v => r140_0 k rec v) n
theorem e140 (k : Nat) (x : dens (flatC (S140 k).ps)) : funK (E140 k) (S140 k) Try.f140 x = (S140 k).fn x := by
  have h : funK (E140 k) (S140 k) Try.f140 x = impl_Tasks_step.g k (fun a0 a1 a2 a3 a4 => loopF (E140 k) (S140 k) Try.f140 p140_0 [] k (n140_0 a0 a1 a2 a3 a4)) x.1 x.2.1 x.2.2 := by kernel_rfl
  rw [h]
  rw [show (fun a0 a1 a2 a3 a4 => loopF (E140 k) (S140 k) Try.f140 p140_0 [] k (n140_0 a0 a1 a2 a3 a4)) = impl_Tasks_step.l0 k k from funext fun a0 => funext fun a1 => funext fun a2 => funext fun a3 => funext fun a4 => q140_0 k k (a0, a1, a2, a3, a4)]
  rfl
theorem M140 (k : Nat) : Meets Try.prog 140 (S140 k) := meets_of Try.func140 (by kernel_rfl) tbOk (orc_cons (M125 k) orc_nil) mixOk (fun x y h => (e140 k x).trans h) rfl

/-! impl_Tasks_number: function 130 -/
noncomputable def impl_Tasks_number.s0 (k : Nat) (r0 : (List Int) → Int → (List Int) → Int → Int → Option (Int)) (x2_0 : List Int) (x5 : Int) (x8 : List Int) (x9 : Int) (x10 : Int) : Option (Int) := if x10 < x9 then (if 0 ≤ x10 then (if x10 < (x8.length : Int) then (if 0 ≤ x10 then (if x10 < (x2_0.length : Int) then (r0 x2_0 (wrap64 ((wrap64 ((wrap64 (x5 * (rd x2_0 x10))) + (rd x8 x10))) - 1)) x8 x9 (wrap64 (x10 + 1))) else (none)) else (none)) else (none)) else (none)) else (some x5)
noncomputable def impl_Tasks_number.l0 (k : Nat) : Nat → (List Int) → Int → (List Int) → Int → Int → Option (Int)
  | 0, _, _, _, _, _ => none
  | n + 1, x0, x1, x2, x3, x4 => impl_Tasks_number.s0 k (impl_Tasks_number.l0 k n) x0 x1 x2 x3 x4
noncomputable def impl_Tasks_number.g (k : Nat) (r0 : (List Int) → Int → (List Int) → Int → Int → Option (Int)) (l0_0 : List Int) (l1 : List Int) : Option (Int) := r0 l0_0 0 l1 (l1.length : Int) 0
noncomputable def impl_Tasks_number.f (k : Nat) (l0_0 : List Int) (l1 : List Int) : Option (Int) := impl_Tasks_number.g k (impl_Tasks_number.l0 k k) l0_0 l1
noncomputable def S130 (k : Nat) : Does := ⟨[(true, [.dat (.list (.int .i64))]), (false, [.dat (.list (.int .i64))])], [(false, [.dat (.int .i64)])], fun x => impl_Tasks_number.f k x.1 x.2⟩
noncomputable def E130 (k : Nat) : En := ⟨tb, orcOf [], lvOf [(0, [(2, []), (5, []), (8, []), (9, []), (10, [])])], k, 0, lvOf [], []⟩
noncomputable def n130_0 (x2_0 : List Int) (x5 : Int) (x8 : List Int) (x9 : Int) (x10 : Int) : St := ⟨27, lookA [(2, .box 0 0), (5, .dat (.int .i64) x5), (8, .dat (.list (.int .i64)) x8), (9, .dat (.int .i64) x9), (10, .dat (.int .i64) x10)], Go.V.look [(0, .cells [.dat (.list (.int .i64)) x2_0])]⟩
def p130_0 : List Bool := [true, true, false, true, false]
theorem r130_0 (k : Nat) (rec : St → Option (Int)) (v : (List Int) × Int × (List Int) × Int × Int) : roundF (E130 k) (S130 k) Try.f130 p130_0 [] rec (n130_0 v.1 v.2.1 v.2.2.1 v.2.2.2.1 v.2.2.2.2) = impl_Tasks_number.s0 k (fun a0 a1 a2 a3 a4 => rec (n130_0 a0 a1 a2 a3 a4)) v.1 v.2.1 v.2.2.1 v.2.2.2.1 v.2.2.2.2 := by
  kernel_rfl
theorem q130_0 (k : Nat) (n : Nat) : ∀ v : (List Int) × Int × (List Int) × Int × Int, loopF (E130 k) (S130 k) Try.f130 p130_0 [] n (n130_0 v.1 v.2.1 v.2.2.1 v.2.2.2.1 v.2.2.2.2) = impl_Tasks_number.l0 k n v.1 v.2.1 v.2.2.1 v.2.2.2.1 v.2.2.2.2 :=
  loopF_eq (E130 k) (S130 k) Try.f130 p130_0 [] (fun v : (List Int) × Int × (List Int) × Int × Int => n130_0 v.1 v.2.1 v.2.2.1 v.2.2.2.1 v.2.2.2.2) (fun rec v => impl_Tasks_number.s0 k (fun a0 a1 a2 a3 a4 => rec (a0, a1, a2, a3, a4)) v.1 v.2.1 v.2.2.1 v.2.2.2.1 v.2.2.2.2) (fun n v => impl_Tasks_number.l0 k n v.1 v.2.1 v.2.2.1 v.2.2.2.1 v.2.2.2.2) (fun _ => rfl) (fun _ _ => rfl) (fun rec v => r130_0 k rec v) n
theorem e130 (k : Nat) (x : dens (flatC (S130 k).ps)) : funK (E130 k) (S130 k) Try.f130 x = (S130 k).fn x := by
  have h : funK (E130 k) (S130 k) Try.f130 x = impl_Tasks_number.g k (fun a0 a1 a2 a3 a4 => loopF (E130 k) (S130 k) Try.f130 p130_0 [] k (n130_0 a0 a1 a2 a3 a4)) x.1 x.2 := by kernel_rfl
  rw [h]
  rw [show (fun a0 a1 a2 a3 a4 => loopF (E130 k) (S130 k) Try.f130 p130_0 [] k (n130_0 a0 a1 a2 a3 a4)) = impl_Tasks_number.l0 k k from funext fun a0 => funext fun a1 => funext fun a2 => funext fun a3 => funext fun a4 => q130_0 k k (a0, a1, a2, a3, a4)]
  rfl
theorem M130 (k : Nat) : Meets Try.prog 130 (S130 k) := meets_of Try.func130 (by kernel_rfl) tbOk orc_nil mixOk (fun x y h => (e130 k x).trans h) rfl

/-! impl_watch_moves: function 237 -/
noncomputable def impl_watch_moves.s0 (k : Nat) (r0 : ((Int × Int) × (List Int) × (List (List Int)) × (List Bool)) → Int → (List Int) → (List Int) → Int → Int → Option ((List Int))) (x0 : (Int × Int) × (List Int) × (List (List Int)) × (List Bool)) (x5 : Int) (x6 : List Int) (x7 : List Int) (x34 : Int) (x35 : Int) : Option ((List Int)) := if x35 < x34 then ((impl_Tasks_step.f k x0.2.1 x6 x35).bind fun t2 => if t2.2 = true then ((impl_Ground_isNear.f x0.1.1 x0.1.2 x5 x35).bind fun t3 => if t3 = true then ((impl_Tasks_number.f k x0.2.1 t2.1).bind fun t4 => if x7.length + 1 ≤ 1099511627776 then (r0 x0 x5 x6 (x7 ++ [(wrap64 ((wrap64 (t4 * x0.1.1)) + x35))]) x34 (wrap64 (x35 + 1))) else (none)) else (r0 x0 x5 x6 x7 x34 (wrap64 (x35 + 1)))) else (r0 x0 x5 x6 x7 x34 (wrap64 (x35 + 1)))) else (some x7)
noncomputable def impl_watch_moves.l0 (k : Nat) : Nat → ((Int × Int) × (List Int) × (List (List Int)) × (List Bool)) → Int → (List Int) → (List Int) → Int → Int → Option ((List Int))
  | 0, _, _, _, _, _, _ => none
  | n + 1, x0, x1, x2, x3, x4, x5 => impl_watch_moves.s0 k (impl_watch_moves.l0 k n) x0 x1 x2 x3 x4 x5
noncomputable def impl_watch_moves.g (k : Nat) (r0 : ((Int × Int) × (List Int) × (List (List Int)) × (List Bool)) → Int → (List Int) → (List Int) → Int → Int → Option ((List Int))) (a0 : (Int × Int) × (List Int) × (List (List Int)) × (List Bool)) (a1 : Int) : Option ((List Int)) := if a0.1.1 = 0 then (none) else (if a0.1.1 = 0 then (none) else ((impl_Tasks_numbered.f k a0.2.1 (wrap64 (Int.tdiv a1 a0.1.1))).bind fun t1 => r0 a0 (Int.tmod a1 a0.1.1) t1 [] a0.1.1 0))
noncomputable def impl_watch_moves.f (k : Nat) (a0 : (Int × Int) × (List Int) × (List (List Int)) × (List Bool)) (a1 : Int) : Option ((List Int)) := impl_watch_moves.g k (impl_watch_moves.l0 k k) a0 a1
noncomputable def S237 (k : Nat) : Does := ⟨[(false, [.dat (.ptr (.struct (.pair (.struct (.pair (.int .i64) (.int .i64))) (.pair (.struct (.list (.int .i64))) (.pair (.list (.list (.int .i64))) (.list .bool))))))]), (false, [.dat (.int .i64)])], [(false, [.own 2 (.int .i64)])], fun x => impl_watch_moves.f k x.1 x.2⟩
noncomputable def E237 (k : Nat) : En := ⟨tb, orcOf [(155, S155 k), (140, S140 k), (175, S175 k), (130, S130 k)], lvOf [(0, [(0, []), (5, []), (6, []), (7, [.nil 2 (.int .i64)]), (34, []), (35, [])])], k, 0, lvOf [], []⟩
noncomputable def n237_0 (x0 : (Int × Int) × (List Int) × (List (List Int)) × (List Bool)) (x5 : Int) (x6 : List Int) (x7 : List Int) (x34 : Int) (x35 : Int) : St := ⟨77, lookA [(0, .dp (.struct (.pair (.struct (.pair (.int .i64) (.int .i64))) (.pair (.struct (.list (.int .i64))) (.pair (.list (.list (.int .i64))) (.list .bool))))) x0), (5, .dat (.int .i64) x5), (6, .own 0), (7, .own 1), (34, .dat (.int .i64) x34), (35, .dat (.int .i64) x35)], Go.V.look [(0, .flat 2 (.int .i64) x6), (1, .flat 2 (.int .i64) x7)]⟩
def p237_0 : List Bool := [true, true, true, false, true, false]
theorem r237_0 (k : Nat) (rec : St → Option ((List Int))) (v : ((Int × Int) × (List Int) × (List (List Int)) × (List Bool)) × Int × (List Int) × (List Int) × Int × Int) : roundF (E237 k) (S237 k) Try.f237 p237_0 [] rec (n237_0 v.1 v.2.1 v.2.2.1 v.2.2.2.1 v.2.2.2.2.1 v.2.2.2.2.2) = impl_watch_moves.s0 k (fun a0 a1 a2 a3 a4 a5 => rec (n237_0 a0 a1 a2 a3 a4 a5)) v.1 v.2.1 v.2.2.1 v.2.2.2.1 v.2.2.2.2.1 v.2.2.2.2.2 := by
  kernel_rfl
theorem q237_0 (k : Nat) (n : Nat) : ∀ v : ((Int × Int) × (List Int) × (List (List Int)) × (List Bool)) × Int × (List Int) × (List Int) × Int × Int, loopF (E237 k) (S237 k) Try.f237 p237_0 [] n (n237_0 v.1 v.2.1 v.2.2.1 v.2.2.2.1 v.2.2.2.2.1 v.2.2.2.2.2) = impl_watch_moves.l0 k n v.1 v.2.1 v.2.2.1 v.2.2.2.1 v.2.2.2.2.1 v.2.2.2.2.2 :=
  loopF_eq (E237 k) (S237 k) Try.f237 p237_0 [] (fun v : ((Int × Int) × (List Int) × (List (List Int)) × (List Bool)) × Int × (List Int) × (List Int) × Int × Int => n237_0 v.1 v.2.1 v.2.2.1 v.2.2.2.1 v.2.2.2.2.1 v.2.2.2.2.2) (fun rec v => impl_watch_moves.s0 k (fun a0 a1 a2 a3 a4 a5 => rec (a0, a1, a2, a3, a4, a5)) v.1 v.2.1 v.2.2.1 v.2.2.2.1 v.2.2.2.2.1 v.2.2.2.2.2) (fun n v => impl_watch_moves.l0 k n v.1 v.2.1 v.2.2.1 v.2.2.2.1 v.2.2.2.2.1 v.2.2.2.2.2) (fun _ => rfl) (fun _ _ => rfl) (fun rec v => r237_0 k rec v) n
theorem e237 (k : Nat) (x : dens (flatC (S237 k).ps)) : funK (E237 k) (S237 k) Try.f237 x = (S237 k).fn x := by
  have h : funK (E237 k) (S237 k) Try.f237 x = impl_watch_moves.g k (fun a0 a1 a2 a3 a4 a5 => loopF (E237 k) (S237 k) Try.f237 p237_0 [] k (n237_0 a0 a1 a2 a3 a4 a5)) x.1 x.2 := by kernel_rfl
  rw [h]
  rw [show (fun a0 a1 a2 a3 a4 a5 => loopF (E237 k) (S237 k) Try.f237 p237_0 [] k (n237_0 a0 a1 a2 a3 a4 a5)) = impl_watch_moves.l0 k k from funext fun a0 => funext fun a1 => funext fun a2 => funext fun a3 => funext fun a4 => funext fun a5 => q237_0 k k (a0, a1, a2, a3, a4, a5)]
  rfl
theorem M237 (k : Nat) : Meets Try.prog 237 (S237 k) := meets_of Try.func237 (by kernel_rfl) tbOk (orc_cons (M155 k) (orc_cons (M140 k) (orc_cons (M175 k) (orc_cons (M130 k) orc_nil)))) mixOk (fun x y h => (e237 k x).trans h) rfl

/-! impl_watch_move: function 181 -/
noncomputable def impl_watch_move.s0 (k : Nat) (r0 : ((Int × Int) × (List Int) × (List (List Int)) × (List Bool)) → (List Int) → Int → Int → Option (Int)) (x0 : (Int × Int) × (List Int) × (List (List Int)) × (List Bool)) (x13 : List Int) (x14 : Int) (x15 : Int) : Option (Int) := if x15 < x14 then (if 0 ≤ x15 then (if x15 < (x13.length : Int) then (if 0 ≤ (rd x13 x15) then (if (rd x13 x15) < (x0.2.2.2.length : Int) then (if (rdOf false x0.2.2.2 (rd x13 x15)) = true then (some (rd x13 x15)) else (r0 x0 x13 x14 (wrap64 (x15 + 1)))) else (none)) else (none)) else (none)) else (none)) else (some (-1))
noncomputable def impl_watch_move.l0 (k : Nat) : Nat → ((Int × Int) × (List Int) × (List (List Int)) × (List Bool)) → (List Int) → Int → Int → Option (Int)
  | 0, _, _, _, _ => none
  | n + 1, x0, x1, x2, x3 => impl_watch_move.s0 k (impl_watch_move.l0 k n) x0 x1 x2 x3
noncomputable def impl_watch_move.g (k : Nat) (r0 : ((Int × Int) × (List Int) × (List (List Int)) × (List Bool)) → (List Int) → Int → Int → Option (Int)) (a0 : (Int × Int) × (List Int) × (List (List Int)) × (List Bool)) (a1 : Int) : Option (Int) := if 0 ≤ a1 then (if a1 < (a0.2.2.1.length : Int) then (r0 a0 (rdOf ([] : List Int) a0.2.2.1 a1) ((rdOf ([] : List Int) a0.2.2.1 a1).length : Int) 0) else (none)) else (none)
noncomputable def impl_watch_move.f (k : Nat) (a0 : (Int × Int) × (List Int) × (List (List Int)) × (List Bool)) (a1 : Int) : Option (Int) := impl_watch_move.g k (impl_watch_move.l0 k k) a0 a1
noncomputable def S181 (k : Nat) : Does := ⟨[(false, [.dat (.ptr (.struct (.pair (.struct (.pair (.int .i64) (.int .i64))) (.pair (.struct (.list (.int .i64))) (.pair (.list (.list (.int .i64))) (.list .bool))))))]), (false, [.dat (.int .i64)])], [(false, [.dat (.int .i64)])], fun x => impl_watch_move.f k x.1 x.2⟩
noncomputable def E181 (k : Nat) : En := ⟨tb, orcOf [], lvOf [(0, [(0, []), (13, []), (14, []), (15, [])])], k, 0, lvOf [], []⟩
noncomputable def n181_0 (x0 : (Int × Int) × (List Int) × (List (List Int)) × (List Bool)) (x13 : List Int) (x14 : Int) (x15 : Int) : St := ⟨28, lookA [(0, .dp (.struct (.pair (.struct (.pair (.int .i64) (.int .i64))) (.pair (.struct (.list (.int .i64))) (.pair (.list (.list (.int .i64))) (.list .bool))))) x0), (13, .dat (.list (.int .i64)) x13), (14, .dat (.int .i64) x14), (15, .dat (.int .i64) x15)], Go.V.look []⟩
def p181_0 : List Bool := [true, false, true, false]
theorem r181_0 (k : Nat) (rec : St → Option (Int)) (v : ((Int × Int) × (List Int) × (List (List Int)) × (List Bool)) × (List Int) × Int × Int) : roundF (E181 k) (S181 k) Try.f181 p181_0 [] rec (n181_0 v.1 v.2.1 v.2.2.1 v.2.2.2) = impl_watch_move.s0 k (fun a0 a1 a2 a3 => rec (n181_0 a0 a1 a2 a3)) v.1 v.2.1 v.2.2.1 v.2.2.2 := by
  kernel_rfl
theorem q181_0 (k : Nat) (n : Nat) : ∀ v : ((Int × Int) × (List Int) × (List (List Int)) × (List Bool)) × (List Int) × Int × Int, loopF (E181 k) (S181 k) Try.f181 p181_0 [] n (n181_0 v.1 v.2.1 v.2.2.1 v.2.2.2) = impl_watch_move.l0 k n v.1 v.2.1 v.2.2.1 v.2.2.2 :=
  loopF_eq (E181 k) (S181 k) Try.f181 p181_0 [] (fun v : ((Int × Int) × (List Int) × (List (List Int)) × (List Bool)) × (List Int) × Int × Int => n181_0 v.1 v.2.1 v.2.2.1 v.2.2.2) (fun rec v => impl_watch_move.s0 k (fun a0 a1 a2 a3 => rec (a0, a1, a2, a3)) v.1 v.2.1 v.2.2.1 v.2.2.2) (fun n v => impl_watch_move.l0 k n v.1 v.2.1 v.2.2.1 v.2.2.2) (fun _ => rfl) (fun _ _ => rfl) (fun rec v => r181_0 k rec v) n
theorem e181 (k : Nat) (x : dens (flatC (S181 k).ps)) : funK (E181 k) (S181 k) Try.f181 x = (S181 k).fn x := by
  have h : funK (E181 k) (S181 k) Try.f181 x = impl_watch_move.g k (fun a0 a1 a2 a3 => loopF (E181 k) (S181 k) Try.f181 p181_0 [] k (n181_0 a0 a1 a2 a3)) x.1 x.2 := by kernel_rfl
  rw [h]
  rw [show (fun a0 a1 a2 a3 => loopF (E181 k) (S181 k) Try.f181 p181_0 [] k (n181_0 a0 a1 a2 a3)) = impl_watch_move.l0 k k from funext fun a0 => funext fun a1 => funext fun a2 => funext fun a3 => q181_0 k k (a0, a1, a2, a3)]
  rfl
theorem M181 (k : Nat) : Meets Try.prog 181 (S181 k) := meets_of Try.func181 (by kernel_rfl) tbOk orc_nil mixOk (fun x y h => (e181 k x).trans h) rfl

/-! impl_watchOf: function 219 -/
noncomputable def impl_watchOf.s2 (k : Nat) (r1 : Int → Int → (List Int) → (List (List Int)) → (List Bool) → Bool → Option (((Int × Int) × (List Int) × (List (List Int)) × (List Bool)))) (r2 : Int → Int → (List Int) → (List (List Int)) → (List Bool) → Bool → Int → Int → Option (((Int × Int) × (List Int) × (List (List Int)) × (List Bool)))) (x5_0 : Int) (x5_1 : Int) (x5_2 : List Int) (x5_3 : List (List Int)) (x5_4 : List Bool) (x8 : Bool) (x69 : Int) (x70 : Int) : Option (((Int × Int) × (List Int) × (List (List Int)) × (List Bool))) := if x70 < x69 then (if 0 ≤ x70 then (if x70 < (x5_4.length : Int) then (if (rdOf false x5_4 x70) = true then ((impl_watch_move.f k ((x5_0, x5_1), x5_2, x5_3, x5_4) x70).bind fun t4 => if t4 < 0 then (if 0 ≤ x70 then (if x70 < (x5_4.length : Int) then (r2 x5_0 x5_1 x5_2 x5_3 (x5_4.set x70.toNat false) true x69 (wrap64 (x70 + 1))) else (none)) else (none)) else (r2 x5_0 x5_1 x5_2 x5_3 x5_4 x8 x69 (wrap64 (x70 + 1)))) else (r2 x5_0 x5_1 x5_2 x5_3 x5_4 x8 x69 (wrap64 (x70 + 1)))) else (none)) else (none)) else (r1 x5_0 x5_1 x5_2 x5_3 x5_4 x8)
noncomputable def impl_watchOf.l2 (k : Nat) (r1 : Int → Int → (List Int) → (List (List Int)) → (List Bool) → Bool → Option (((Int × Int) × (List Int) × (List (List Int)) × (List Bool)))) : Nat → Int → Int → (List Int) → (List (List Int)) → (List Bool) → Bool → Int → Int → Option (((Int × Int) × (List Int) × (List (List Int)) × (List Bool)))
  | 0, _, _, _, _, _, _, _, _ => none
  | n + 1, x0, x1, x2, x3, x4, x5, x6, x7 => impl_watchOf.s2 k r1 (impl_watchOf.l2 k r1 n) x0 x1 x2 x3 x4 x5 x6 x7
noncomputable def impl_watchOf.s1 (k : Nat) (r1 : Int → Int → (List Int) → (List (List Int)) → (List Bool) → Bool → Option (((Int × Int) × (List Int) × (List (List Int)) × (List Bool)))) (r2 : Int → Int → (List Int) → (List (List Int)) → (List Bool) → Bool → Int → Int → Option (((Int × Int) × (List Int) × (List (List Int)) × (List Bool)))) (x5_0 : Int) (x5_1 : Int) (x5_2 : List Int) (x5_3 : List (List Int)) (x5_4 : List Bool) (x8 : Bool) : Option (((Int × Int) × (List Int) × (List (List Int)) × (List Bool))) := if x8 = true then (r2 x5_0 x5_1 x5_2 x5_3 x5_4 false (x5_4.length : Int) 0) else (some ((x5_0, x5_1), x5_2, x5_3, x5_4))
noncomputable def impl_watchOf.l1 (k : Nat) : Nat → Int → Int → (List Int) → (List (List Int)) → (List Bool) → Bool → Option (((Int × Int) × (List Int) × (List (List Int)) × (List Bool)))
  | 0, _, _, _, _, _, _ => none
  | n + 1, x0, x1, x2, x3, x4, x5 => impl_watchOf.s1 k (impl_watchOf.l1 k n) (impl_watchOf.l2 k (impl_watchOf.l1 k n) k) x0 x1 x2 x3 x4 x5
noncomputable def impl_watchOf.s0 (k : Nat) (r0 : Int → Int → (List Int) → Int → Int → (List Int) → (List (List Int)) → (List Bool) → Int → Int → Option (((Int × Int) × (List Int) × (List (List Int)) × (List Bool)))) (r1 : Int → Int → (List Int) → (List (List Int)) → (List Bool) → Bool → Option (((Int × Int) × (List Int) × (List (List Int)) × (List Bool)))) (x2_0 : Int) (x2_1 : Int) (x3_0 : List Int) (x5_0 : Int) (x5_1 : Int) (x5_2 : List Int) (x5_3 : List (List Int)) (x5_4 : List Bool) (x19 : Int) (x20 : Int) : Option (((Int × Int) × (List Int) × (List (List Int)) × (List Bool))) := if x20 < x19 then (if x2_0 = 0 then (none) else ((impl_watch_moves.f k ((x5_0, x5_1), x5_2, x5_3, x5_4) x20).bind fun t2 => if x5_3.length + 1 ≤ 1099511627776 then (if x2_0 = 0 then (none) else ((impl_Tasks_numbered.f k x3_0 (wrap64 (Int.tdiv x20 x2_0))).bind fun t3 => if 0 ≤ (Int.tmod x20 x2_0) then (if (Int.tmod x20 x2_0) < (t3.length : Int) then (if 0 ≤ (Int.tmod x20 x2_0) then (if (Int.tmod x20 x2_0) < (x3_0.length : Int) then (if x5_4.length + 1 ≤ 1099511627776 then (r0 x2_0 x2_1 x3_0 x5_0 x5_1 x5_2 (x5_3 ++ [t2]) (x5_4 ++ [(decide ((rd t3 (Int.tmod x20 x2_0)) = (rd x3_0 (Int.tmod x20 x2_0))))]) x19 (wrap64 (x20 + 1))) else (none)) else (none)) else (none)) else (none)) else (none))) else (none))) else (r1 x5_0 x5_1 x5_2 x5_3 x5_4 true)
noncomputable def impl_watchOf.l0 (k : Nat) : Nat → Int → Int → (List Int) → Int → Int → (List Int) → (List (List Int)) → (List Bool) → Int → Int → Option (((Int × Int) × (List Int) × (List (List Int)) × (List Bool)))
  | 0, _, _, _, _, _, _, _, _, _, _ => none
  | n + 1, x0, x1, x2, x3, x4, x5, x6, x7, x8, x9 => impl_watchOf.s0 k (impl_watchOf.l0 k n) (impl_watchOf.l1 k k) x0 x1 x2 x3 x4 x5 x6 x7 x8 x9
noncomputable def impl_watchOf.g (k : Nat) (r0 : Int → Int → (List Int) → Int → Int → (List Int) → (List (List Int)) → (List Bool) → Int → Int → Option (((Int × Int) × (List Int) × (List (List Int)) × (List Bool)))) (a0_0 : Int) (a0_1 : Int) (l1_0 : List Int) : Option (((Int × Int) × (List Int) × (List (List Int)) × (List Bool))) := (impl_Tasks_states.f k l1_0).bind fun t1 => r0 a0_0 a0_1 l1_0 a0_0 a0_1 l1_0 [] [] (wrap64 (t1 * a0_0)) 0
noncomputable def impl_watchOf.f (k : Nat) (a0_0 : Int) (a0_1 : Int) (l1_0 : List Int) : Option (((Int × Int) × (List Int) × (List (List Int)) × (List Bool))) := impl_watchOf.g k (impl_watchOf.l0 k k) a0_0 a0_1 l1_0
noncomputable def S219 (k : Nat) : Does := ⟨[(true, [.dat (.int .i64), .dat (.int .i64)]), (true, [.dat (.list (.int .i64))])], [(false, [.dat (.ptr (.struct (.pair (.struct (.pair (.int .i64) (.int .i64))) (.pair (.struct (.list (.int .i64))) (.pair (.list (.list (.int .i64))) (.list .bool))))))])], fun x => impl_watchOf.f k x.1 x.2.1 x.2.2⟩
noncomputable def E219 (k : Nat) : En := ⟨tb, orcOf [(124, S124 k), (237, S237 k), (155, S155 k), (181, S181 k)], lvOf [(0, [(2, []), (3, []), (5, [.cell 3 29 (.list (.int .i64)), .cell 4 4 .bool]), (19, []), (20, [])]), (2, [(5, []), (8, [])]), (4, [(5, []), (8, []), (68, []), (69, []), (70, [])])], k, 0, lvOf [], [34]⟩
noncomputable def n219_0 (x2_0 : Int) (x2_1 : Int) (x3_0 : List Int) (x5_0 : Int) (x5_1 : Int) (x5_2 : List Int) (x5_3 : List (List Int)) (x5_4 : List Bool) (x19 : Int) (x20 : Int) : St := ⟨90, lookA [(2, .box 0 0), (3, .box 1 0), (5, .box 2 0), (19, .dat (.int .i64) x19), (20, .dat (.int .i64) x20)], Go.V.look [(0, .cells [.dat (.int .i64) x2_0, .dat (.int .i64) x2_1]), (1, .cells [.dat (.list (.int .i64)) x3_0]), (2, .cells [.dat (.int .i64) x5_0, .dat (.int .i64) x5_1, .dat (.list (.int .i64)) x5_2, .own 3, .own 4]), (3, .flat 29 (.list (.int .i64)) x5_3), (4, .flat 4 .bool x5_4)]⟩
def p219_0 : List Bool := [true, true, false, true, false]
noncomputable def n219_1 (x5_0 : Int) (x5_1 : Int) (x5_2 : List Int) (x5_3 : List (List Int)) (x5_4 : List Bool) (x8 : Bool) : St := ⟨90, lookA [(5, .box 0 0), (8, .dat .bool x8)], Go.V.look [(0, .cells [.dat (.int .i64) x5_0, .dat (.int .i64) x5_1, .dat (.list (.int .i64)) x5_2, .own 1, .own 2]), (1, .flat 29 (.list (.int .i64)) x5_3), (2, .flat 4 .bool x5_4)]⟩
def p219_1 : List Bool := [true, true, true, false, true, false]
noncomputable def n219_2 (x5_0 : Int) (x5_1 : Int) (x5_2 : List Int) (x5_3 : List (List Int)) (x5_4 : List Bool) (x8 : Bool) (x69 : Int) (x70 : Int) : St := ⟨90, lookA [(5, .box 0 0), (8, .dat .bool x8), (68, .own 1), (69, .dat (.int .i64) x69), (70, .dat (.int .i64) x70)], Go.V.look [(0, .cells [.dat (.int .i64) x5_0, .dat (.int .i64) x5_1, .dat (.list (.int .i64)) x5_2, .own 2, .own 1]), (1, .flat 4 .bool x5_4), (2, .flat 29 (.list (.int .i64)) x5_3)]⟩
def p219_2 : List Bool := [true, true, true, false, true, false, false, true, false, true, true, false]
theorem r219_2 (k : Nat) (R1 : St → Option (((Int × Int) × (List Int) × (List (List Int)) × (List Bool)))) (rec : St → Option (((Int × Int) × (List Int) × (List (List Int)) × (List Bool)))) (v : Int × Int × (List Int) × (List (List Int)) × (List Bool) × Bool × Int × Int) : roundF (E219 k) (S219 k) Try.f219 p219_2 [R1] rec (n219_2 v.1 v.2.1 v.2.2.1 v.2.2.2.1 v.2.2.2.2.1 v.2.2.2.2.2.1 v.2.2.2.2.2.2.1 v.2.2.2.2.2.2.2) = impl_watchOf.s2 k (fun a0 a1 a2 a3 a4 a5 => R1 (n219_1 a0 a1 a2 a3 a4 a5)) (fun a0 a1 a2 a3 a4 a5 a6 a7 => rec (n219_2 a0 a1 a2 a3 a4 a5 a6 a7)) v.1 v.2.1 v.2.2.1 v.2.2.2.1 v.2.2.2.2.1 v.2.2.2.2.2.1 v.2.2.2.2.2.2.1 v.2.2.2.2.2.2.2 := by
  kernel_rfl
theorem q219_2 (k : Nat) (R1 : St → Option (((Int × Int) × (List Int) × (List (List Int)) × (List Bool)))) (n : Nat) : ∀ v : Int × Int × (List Int) × (List (List Int)) × (List Bool) × Bool × Int × Int, loopF (E219 k) (S219 k) Try.f219 p219_2 [R1] n (n219_2 v.1 v.2.1 v.2.2.1 v.2.2.2.1 v.2.2.2.2.1 v.2.2.2.2.2.1 v.2.2.2.2.2.2.1 v.2.2.2.2.2.2.2) = impl_watchOf.l2 k (fun a0 a1 a2 a3 a4 a5 => R1 (n219_1 a0 a1 a2 a3 a4 a5)) n v.1 v.2.1 v.2.2.1 v.2.2.2.1 v.2.2.2.2.1 v.2.2.2.2.2.1 v.2.2.2.2.2.2.1 v.2.2.2.2.2.2.2 :=
  loopF_eq (E219 k) (S219 k) Try.f219 p219_2 [R1] (fun v : Int × Int × (List Int) × (List (List Int)) × (List Bool) × Bool × Int × Int => n219_2 v.1 v.2.1 v.2.2.1 v.2.2.2.1 v.2.2.2.2.1 v.2.2.2.2.2.1 v.2.2.2.2.2.2.1 v.2.2.2.2.2.2.2) (fun rec v => impl_watchOf.s2 k (fun a0 a1 a2 a3 a4 a5 => R1 (n219_1 a0 a1 a2 a3 a4 a5)) (fun a0 a1 a2 a3 a4 a5 a6 a7 => rec (a0, a1, a2, a3, a4, a5, a6, a7)) v.1 v.2.1 v.2.2.1 v.2.2.2.1 v.2.2.2.2.1 v.2.2.2.2.2.1 v.2.2.2.2.2.2.1 v.2.2.2.2.2.2.2) (fun n v => impl_watchOf.l2 k (fun a0 a1 a2 a3 a4 a5 => R1 (n219_1 a0 a1 a2 a3 a4 a5)) n v.1 v.2.1 v.2.2.1 v.2.2.2.1 v.2.2.2.2.1 v.2.2.2.2.2.1 v.2.2.2.2.2.2.1 v.2.2.2.2.2.2.2) (fun _ => rfl) (fun _ _ => rfl) (fun rec v => r219_2 k R1 rec v) n
theorem r219_1 (k : Nat) (rec : St → Option (((Int × Int) × (List Int) × (List (List Int)) × (List Bool)))) (G2 : Int → Int → (List Int) → (List (List Int)) → (List Bool) → Bool → Int → Int → Option (((Int × Int) × (List Int) × (List (List Int)) × (List Bool)))) (h2 : ∀ a0 a1 a2 a3 a4 a5 a6 a7, loopF (E219 k) (S219 k) Try.f219 p219_2 [rec] k (n219_2 a0 a1 a2 a3 a4 a5 a6 a7) = G2 a0 a1 a2 a3 a4 a5 a6 a7) (v : Int × Int × (List Int) × (List (List Int)) × (List Bool) × Bool) : roundF (E219 k) (S219 k) Try.f219 p219_1 [] rec (n219_1 v.1 v.2.1 v.2.2.1 v.2.2.2.1 v.2.2.2.2.1 v.2.2.2.2.2) = impl_watchOf.s1 k (fun a0 a1 a2 a3 a4 a5 => rec (n219_1 a0 a1 a2 a3 a4 a5)) G2 v.1 v.2.1 v.2.2.1 v.2.2.2.1 v.2.2.2.2.1 v.2.2.2.2.2 := by
  obtain rfl : (fun a0 a1 a2 a3 a4 a5 a6 a7 => loopF (E219 k) (S219 k) Try.f219 p219_2 [rec] k (n219_2 a0 a1 a2 a3 a4 a5 a6 a7)) = G2 := funext fun a0 => funext fun a1 => funext fun a2 => funext fun a3 => funext fun a4 => funext fun a5 => funext fun a6 => funext fun a7 => h2 a0 a1 a2 a3 a4 a5 a6 a7
  kernel_rfl
theorem q219_1 (k : Nat) (n : Nat) : ∀ v : Int × Int × (List Int) × (List (List Int)) × (List Bool) × Bool, loopF (E219 k) (S219 k) Try.f219 p219_1 [] n (n219_1 v.1 v.2.1 v.2.2.1 v.2.2.2.1 v.2.2.2.2.1 v.2.2.2.2.2) = impl_watchOf.l1 k n v.1 v.2.1 v.2.2.1 v.2.2.2.1 v.2.2.2.2.1 v.2.2.2.2.2 :=
  loopF_eq (E219 k) (S219 k) Try.f219 p219_1 [] (fun v : Int × Int × (List Int) × (List (List Int)) × (List Bool) × Bool => n219_1 v.1 v.2.1 v.2.2.1 v.2.2.2.1 v.2.2.2.2.1 v.2.2.2.2.2) (fun rec v => impl_watchOf.s1 k (fun a0 a1 a2 a3 a4 a5 => rec (a0, a1, a2, a3, a4, a5)) (impl_watchOf.l2 k (fun a0 a1 a2 a3 a4 a5 => rec (a0, a1, a2, a3, a4, a5)) k) v.1 v.2.1 v.2.2.1 v.2.2.2.1 v.2.2.2.2.1 v.2.2.2.2.2) (fun n v => impl_watchOf.l1 k n v.1 v.2.1 v.2.2.1 v.2.2.2.1 v.2.2.2.2.1 v.2.2.2.2.2) (fun _ => rfl) (fun _ _ => rfl) (fun rec v => r219_1 k rec _ (fun a0 a1 a2 a3 a4 a5 a6 a7 => q219_2 k rec k (a0, a1, a2, a3, a4, a5, a6, a7)) v) n
theorem r219_0 (k : Nat) (rec : St → Option (((Int × Int) × (List Int) × (List (List Int)) × (List Bool)))) (G1 : Int → Int → (List Int) → (List (List Int)) → (List Bool) → Bool → Option (((Int × Int) × (List Int) × (List (List Int)) × (List Bool)))) (h1 : ∀ a0 a1 a2 a3 a4 a5, loopF (E219 k) (S219 k) Try.f219 p219_1 [] k (n219_1 a0 a1 a2 a3 a4 a5) = G1 a0 a1 a2 a3 a4 a5) (v : Int × Int × (List Int) × Int × Int × (List Int) × (List (List Int)) × (List Bool) × Int × Int) : roundF (E219 k) (S219 k) Try.f219 p219_0 [] rec (n219_0 v.1 v.2.1 v.2.2.1 v.2.2.2.1 v.2.2.2.2.1 v.2.2.2.2.2.1 v.2.2.2.2.2.2.1 v.2.2.2.2.2.2.2.1 v.2.2.2.2.2.2.2.2.1 v.2.2.2.2.2.2.2.2.2) = impl_watchOf.s0 k (fun a0 a1 a2 a3 a4 a5 a6 a7 a8 a9 => rec (n219_0 a0 a1 a2 a3 a4 a5 a6 a7 a8 a9)) G1 v.1 v.2.1 v.2.2.1 v.2.2.2.1 v.2.2.2.2.1 v.2.2.2.2.2.1 v.2.2.2.2.2.2.1 v.2.2.2.2.2.2.2.1 v.2.2.2.2.2.2.2.2.1 v.2.2.2.2.2.2.2.2.2 := by
  obtain rfl : (fun a0 a1 a2 a3 a4 a5 => loopF (E219 k) (S219 k) Try.f219 p219_1 [] k (n219_1 a0 a1 a2 a3 a4 a5)) = G1 := funext fun a0 => funext fun a1 => funext fun a2 => funext fun a3 => funext fun a4 => funext fun a5 => h1 a0 a1 a2 a3 a4 a5
  kernel_rfl
theorem q219_0 (k : Nat) (n : Nat) : ∀ v : Int × Int × (List Int) × Int × Int × (List Int) × (List (List Int)) × (List Bool) × Int × Int, loopF (E219 k) (S219 k) Try.f219 p219_0 [] n (n219_0 v.1 v.2.1 v.2.2.1 v.2.2.2.1 v.2.2.2.2.1 v.2.2.2.2.2.1 v.2.2.2.2.2.2.1 v.2.2.2.2.2.2.2.1 v.2.2.2.2.2.2.2.2.1 v.2.2.2.2.2.2.2.2.2) = impl_watchOf.l0 k n v.1 v.2.1 v.2.2.1 v.2.2.2.1 v.2.2.2.2.1 v.2.2.2.2.2.1 v.2.2.2.2.2.2.1 v.2.2.2.2.2.2.2.1 v.2.2.2.2.2.2.2.2.1 v.2.2.2.2.2.2.2.2.2 :=
  loopF_eq (E219 k) (S219 k) Try.f219 p219_0 [] (fun v : Int × Int × (List Int) × Int × Int × (List Int) × (List (List Int)) × (List Bool) × Int × Int => n219_0 v.1 v.2.1 v.2.2.1 v.2.2.2.1 v.2.2.2.2.1 v.2.2.2.2.2.1 v.2.2.2.2.2.2.1 v.2.2.2.2.2.2.2.1 v.2.2.2.2.2.2.2.2.1 v.2.2.2.2.2.2.2.2.2) (fun rec v => impl_watchOf.s0 k (fun a0 a1 a2 a3 a4 a5 a6 a7 a8 a9 => rec (a0, a1, a2, a3, a4, a5, a6, a7, a8, a9)) (impl_watchOf.l1 k k) v.1 v.2.1 v.2.2.1 v.2.2.2.1 v.2.2.2.2.1 v.2.2.2.2.2.1 v.2.2.2.2.2.2.1 v.2.2.2.2.2.2.2.1 v.2.2.2.2.2.2.2.2.1 v.2.2.2.2.2.2.2.2.2) (fun n v => impl_watchOf.l0 k n v.1 v.2.1 v.2.2.1 v.2.2.2.1 v.2.2.2.2.1 v.2.2.2.2.2.1 v.2.2.2.2.2.2.1 v.2.2.2.2.2.2.2.1 v.2.2.2.2.2.2.2.2.1 v.2.2.2.2.2.2.2.2.2) (fun _ => rfl) (fun _ _ => rfl) (fun rec v => r219_0 k rec _ (fun a0 a1 a2 a3 a4 a5 => q219_1 k k (a0, a1, a2, a3, a4, a5)) v) n
theorem e219 (k : Nat) (x : dens (flatC (S219 k).ps)) : funK (E219 k) (S219 k) Try.f219 x = (S219 k).fn x := by
  have h : funK (E219 k) (S219 k) Try.f219 x = impl_watchOf.g k (fun a0 a1 a2 a3 a4 a5 a6 a7 a8 a9 => loopF (E219 k) (S219 k) Try.f219 p219_0 [] k (n219_0 a0 a1 a2 a3 a4 a5 a6 a7 a8 a9)) x.1 x.2.1 x.2.2 := by kernel_rfl
  rw [h]
  rw [show (fun a0 a1 a2 a3 a4 a5 a6 a7 a8 a9 => loopF (E219 k) (S219 k) Try.f219 p219_0 [] k (n219_0 a0 a1 a2 a3 a4 a5 a6 a7 a8 a9)) = impl_watchOf.l0 k k from funext fun a0 => funext fun a1 => funext fun a2 => funext fun a3 => funext fun a4 => funext fun a5 => funext fun a6 => funext fun a7 => funext fun a8 => funext fun a9 => q219_0 k k (a0, a1, a2, a3, a4, a5, a6, a7, a8, a9)]
  rfl
theorem M219 (k : Nat) : Meets Try.prog 219 (S219 k) := meets_of Try.func219 (by kernel_rfl) tbOk (orc_cons (M124 k) (orc_cons (M237 k) (orc_cons (M155 k) (orc_cons (M181 k) orc_nil)))) mixOk (fun x y h => (e219 k x).trans h) rfl

/-! impl_watched: function 179 -/
noncomputable def impl_watched.f (k : Nat) (a0_0 : Int) (a0_1 : Int) (l1_0 : List Int) : Option ((Option ((Int × Int) × (List Int) × (List (List Int)) × (List Bool))) × Int) := (impl_bothCode.f k a0_0 a0_1 l1_0 true).bind fun t1 => if t1 = 0 then ((impl_Tasks_states.f k l1_0).bind fun t2 => if 20000 < (wrap64 (a0_0 * t2)) then (some (none, 3)) else ((impl_watchOf.f k a0_0 a0_1 l1_0).bind fun t3 => some ((some t3), 0))) else (some (none, t1))
noncomputable def S179 (k : Nat) : Does := ⟨[(true, [.dat (.int .i64), .dat (.int .i64)]), (true, [.dat (.list (.int .i64))])], [(false, [.dat (.optr (.struct (.pair (.struct (.pair (.int .i64) (.int .i64))) (.pair (.struct (.list (.int .i64))) (.pair (.list (.list (.int .i64))) (.list .bool))))))]), (false, [.dat (.int .i64)])], fun x => impl_watched.f k x.1 x.2.1 x.2.2⟩
noncomputable def E179 (k : Nat) : En := ⟨tb, orcOf [(185, S185 k), (124, S124 k), (219, S219 k)], lvOf [], k, 0, lvOf [], []⟩
theorem e179 (k : Nat) (x : dens (flatC (S179 k).ps)) : funK (E179 k) (S179 k) Try.f179 x = (S179 k).fn x := by
  kernel_rfl
theorem M179 (k : Nat) : Meets Try.prog 179 (S179 k) := meets_of Try.func179 (by kernel_rfl) tbOk (orc_cons (M185 k) (orc_cons (M124 k) (orc_cons (M219 k) orc_nil))) mixOk (fun x y h => (e179 k x).trans h) rfl

/-! impl_watch_whole: function 220 -/
noncomputable def impl_watch_whole.f (k : Nat) (a0 : (Int × Int) × (List Int) × (List (List Int)) × (List Bool)) (a1 : Int) : Option (Int) := (impl_Tasks_states.f k a0.2.1).bind fun t1 => some (wrap64 ((wrap64 ((wrap64 (t1 - 1)) * a0.1.1)) + a1))
noncomputable def S220 (k : Nat) : Does := ⟨[(false, [.dat (.ptr (.struct (.pair (.struct (.pair (.int .i64) (.int .i64))) (.pair (.struct (.list (.int .i64))) (.pair (.list (.list (.int .i64))) (.list .bool))))))]), (false, [.dat (.int .i64)])], [(false, [.dat (.int .i64)])], fun x => impl_watch_whole.f k x.1 x.2⟩
noncomputable def E220 (k : Nat) : En := ⟨tb, orcOf [(124, S124 k)], lvOf [], k, 0, lvOf [], []⟩
theorem e220 (k : Nat) (x : dens (flatC (S220 k).ps)) : funK (E220 k) (S220 k) Try.f220 x = (S220 k).fn x := by
  kernel_rfl
theorem M220 (k : Nat) : Meets Try.prog 220 (S220 k) := meets_of Try.func220 (by kernel_rfl) tbOk (orc_cons (M124 k) orc_nil) mixOk (fun x y h => (e220 k x).trans h) rfl

/-! impl_watch_start: function 180 -/
noncomputable def impl_watch_start.s0 (k : Nat) (r0 : ((Int × Int) × (List Int) × (List (List Int)) × (List Bool)) → Int → Int → Option (Int)) (x0 : (Int × Int) × (List Int) × (List (List Int)) × (List Bool)) (x8 : Int) (x9 : Int) : Option (Int) := if x9 < x8 then ((impl_watch_whole.f k x0 x9).bind fun t1 => if 0 ≤ t1 then (if t1 < (x0.2.2.2.length : Int) then (if (rdOf false x0.2.2.2 t1) = true then ((impl_watch_whole.f k x0 x9).bind fun t2 => some t2) else (r0 x0 x8 (wrap64 (x9 + 1)))) else (none)) else (none)) else (some (-1))
noncomputable def impl_watch_start.l0 (k : Nat) : Nat → ((Int × Int) × (List Int) × (List (List Int)) × (List Bool)) → Int → Int → Option (Int)
  | 0, _, _, _ => none
  | n + 1, x0, x1, x2 => impl_watch_start.s0 k (impl_watch_start.l0 k n) x0 x1 x2
noncomputable def impl_watch_start.g (k : Nat) (r0 : ((Int × Int) × (List Int) × (List (List Int)) × (List Bool)) → Int → Int → Option (Int)) (a0 : (Int × Int) × (List Int) × (List (List Int)) × (List Bool)) : Option (Int) := r0 a0 a0.1.1 0
noncomputable def impl_watch_start.f (k : Nat) (a0 : (Int × Int) × (List Int) × (List (List Int)) × (List Bool)) : Option (Int) := impl_watch_start.g k (impl_watch_start.l0 k k) a0
noncomputable def S180 (k : Nat) : Does := ⟨[(false, [.dat (.ptr (.struct (.pair (.struct (.pair (.int .i64) (.int .i64))) (.pair (.struct (.list (.int .i64))) (.pair (.list (.list (.int .i64))) (.list .bool))))))])], [(false, [.dat (.int .i64)])], fun x => impl_watch_start.f k x⟩
noncomputable def E180 (k : Nat) : En := ⟨tb, orcOf [(220, S220 k)], lvOf [(0, [(0, []), (8, []), (9, [])])], k, 0, lvOf [], []⟩
noncomputable def n180_0 (x0 : (Int × Int) × (List Int) × (List (List Int)) × (List Bool)) (x8 : Int) (x9 : Int) : St := ⟨25, lookA [(0, .dp (.struct (.pair (.struct (.pair (.int .i64) (.int .i64))) (.pair (.struct (.list (.int .i64))) (.pair (.list (.list (.int .i64))) (.list .bool))))) x0), (8, .dat (.int .i64) x8), (9, .dat (.int .i64) x9)], Go.V.look []⟩
def p180_0 : List Bool := [true, false, true, false]
theorem r180_0 (k : Nat) (rec : St → Option (Int)) (v : ((Int × Int) × (List Int) × (List (List Int)) × (List Bool)) × Int × Int) : roundF (E180 k) (S180 k) Try.f180 p180_0 [] rec (n180_0 v.1 v.2.1 v.2.2) = impl_watch_start.s0 k (fun a0 a1 a2 => rec (n180_0 a0 a1 a2)) v.1 v.2.1 v.2.2 := by
  kernel_rfl
theorem q180_0 (k : Nat) (n : Nat) : ∀ v : ((Int × Int) × (List Int) × (List (List Int)) × (List Bool)) × Int × Int, loopF (E180 k) (S180 k) Try.f180 p180_0 [] n (n180_0 v.1 v.2.1 v.2.2) = impl_watch_start.l0 k n v.1 v.2.1 v.2.2 :=
  loopF_eq (E180 k) (S180 k) Try.f180 p180_0 [] (fun v : ((Int × Int) × (List Int) × (List (List Int)) × (List Bool)) × Int × Int => n180_0 v.1 v.2.1 v.2.2) (fun rec v => impl_watch_start.s0 k (fun a0 a1 a2 => rec (a0, a1, a2)) v.1 v.2.1 v.2.2) (fun n v => impl_watch_start.l0 k n v.1 v.2.1 v.2.2) (fun _ => rfl) (fun _ _ => rfl) (fun rec v => r180_0 k rec v) n
theorem e180 (k : Nat) (x : dens (flatC (S180 k).ps)) : funK (E180 k) (S180 k) Try.f180 x = (S180 k).fn x := by
  have h : funK (E180 k) (S180 k) Try.f180 x = impl_watch_start.g k (fun a0 a1 a2 => loopF (E180 k) (S180 k) Try.f180 p180_0 [] k (n180_0 a0 a1 a2)) x := by kernel_rfl
  rw [h]
  rw [show (fun a0 a1 a2 => loopF (E180 k) (S180 k) Try.f180 p180_0 [] k (n180_0 a0 a1 a2)) = impl_watch_start.l0 k k from funext fun a0 => funext fun a1 => funext fun a2 => q180_0 k k (a0, a1, a2)]
  rfl
theorem M180 (k : Nat) : Meets Try.prog 180 (S180 k) := meets_of Try.func180 (by kernel_rfl) tbOk (orc_cons (M220 k) orc_nil) mixOk (fun x y h => (e180 k x).trans h) rfl

/-! impl_CanWatch: function 78 -/
noncomputable def impl_CanWatch.f (k : Nat) (a0_0 : Int) (a0_1 : Int) (l1_0 : List Int) : Option (Bool × Int) := (impl_watched.f k a0_0 a0_1 l1_0).bind fun t1 => if t1.2 = 0 then ((t1.1).bind fun u2 => (impl_watch_start.f k u2).bind fun t3 => some ((decide (0 ≤ t3)), 0)) else (some (false, t1.2))
noncomputable def S78 (k : Nat) : Does := ⟨[(true, [.dat (.int .i64), .dat (.int .i64)]), (true, [.dat (.list (.int .i64))])], [(false, [.dat .bool]), (false, [.dat (.int .i64)])], fun x => impl_CanWatch.f k x.1 x.2.1 x.2.2⟩
noncomputable def E78 (k : Nat) : En := ⟨tb, orcOf [(179, S179 k), (180, S180 k)], lvOf [], k, 0, lvOf [], []⟩
theorem e78 (k : Nat) (x : dens (flatC (S78 k).ps)) : funK (E78 k) (S78 k) Try.f78 x = (S78 k).fn x := by
  kernel_rfl
theorem M78 (k : Nat) : Meets Try.prog 78 (S78 k) := meets_of Try.func78 (by kernel_rfl) tbOk (orc_cons (M179 k) (orc_cons (M180 k) orc_nil)) mixOk (fun x y h => (e78 k x).trans h) rfl

/-! impl_LeastEqualGap: function 14 -/
noncomputable def impl_LeastEqualGap.s1 (k : Nat) (r1 : Int → Int → Int → Int → Option (Int × Int)) (x1 : Int) (x2_0 : Int) (x2_1 : Int) (x8 : Int) : Option (Int × Int) := if x8 ≤ x1 then ((slices_Repeat_int64_int64.f [x8] x2_0).bind fun t3 => (impl_CanWatch.f k x2_0 x2_1 t3).bind fun t4 => if t4.1 = true then (some (x8, 0)) else (r1 x1 x2_0 x2_1 (wrap64 (x8 + 1)))) else (some (0, 4))
noncomputable def impl_LeastEqualGap.l1 (k : Nat) : Nat → Int → Int → Int → Int → Option (Int × Int)
  | 0, _, _, _, _ => none
  | n + 1, x0, x1, x2, x3 => impl_LeastEqualGap.s1 k (impl_LeastEqualGap.l1 k n) x0 x1 x2 x3
noncomputable def impl_LeastEqualGap.s0 (k : Nat) (r0 : Int → Int → Int → Int → Int → Int → Option (Int × Int)) (r1 : Int → Int → Int → Int → Option (Int × Int)) (x1 : Int) (x2_0 : Int) (x2_1 : Int) (x7 : Int) (x21 : Int) (x22 : Int) : Option (Int × Int) := if x22 < x21 then (r0 x1 x2_0 x2_1 (wrap64 (x7 * x1)) x21 (wrap64 (x22 + 1))) else (if 20000 < x7 then (some (0, 3)) else (r1 x1 x2_0 x2_1 1))
noncomputable def impl_LeastEqualGap.l0 (k : Nat) : Nat → Int → Int → Int → Int → Int → Int → Option (Int × Int)
  | 0, _, _, _, _, _, _ => none
  | n + 1, x0, x1, x2, x3, x4, x5 => impl_LeastEqualGap.s0 k (impl_LeastEqualGap.l0 k n) (impl_LeastEqualGap.l1 k k) x0 x1 x2 x3 x4 x5
noncomputable def impl_LeastEqualGap.g (k : Nat) (r0 : Int → Int → Int → Int → Int → Int → Option (Int × Int)) (a0_0 : Int) (a0_1 : Int) (a1 : Int) : Option (Int × Int) := (impl_within.f a1 1 10).bind fun t1 => (impl_groundCode.f a0_0 a0_1 t1).bind fun t2 => if t2 = 0 then (r0 a1 a0_0 a0_1 a0_0 a0_0 0) else (some (0, t2))
noncomputable def impl_LeastEqualGap.f (k : Nat) (a0_0 : Int) (a0_1 : Int) (a1 : Int) : Option (Int × Int) := impl_LeastEqualGap.g k (impl_LeastEqualGap.l0 k k) a0_0 a0_1 a1
noncomputable def S14 (k : Nat) : Does := ⟨[(true, [.dat (.int .i64), .dat (.int .i64)]), (false, [.dat (.int .i64)])], [(false, [.dat (.int .i64)]), (false, [.dat (.int .i64)])], fun x => impl_LeastEqualGap.f k x.1 x.2.1 x.2.2⟩
noncomputable def E14 (k : Nat) : En := ⟨tb, orcOf [(108, S108 k), (107, S107 k), (109, S109 k), (78, S78 k)], lvOf [(0, [(1, []), (2, []), (7, []), (21, []), (22, [])]), (2, [(1, []), (2, []), (8, [])])], k, 0, lvOf [], []⟩
noncomputable def n14_0 (x1 : Int) (x2_0 : Int) (x2_1 : Int) (x7 : Int) (x21 : Int) (x22 : Int) : St := ⟨48, lookA [(1, .dat (.int .i64) x1), (2, .box 0 0), (7, .dat (.int .i64) x7), (21, .dat (.int .i64) x21), (22, .dat (.int .i64) x22)], Go.V.look [(0, .cells [.dat (.int .i64) x2_0, .dat (.int .i64) x2_1])]⟩
def p14_0 : List Bool := [true, true, true, false, true, false]
noncomputable def n14_1 (x1 : Int) (x2_0 : Int) (x2_1 : Int) (x8 : Int) : St := ⟨48, lookA [(1, .dat (.int .i64) x1), (2, .box 0 0), (8, .dat (.int .i64) x8)], Go.V.look [(0, .cells [.dat (.int .i64) x2_0, .dat (.int .i64) x2_1])]⟩
def p14_1 : List Bool := [true, true, true, true, true, false, true, false]
theorem r14_1 (k : Nat) (rec : St → Option (Int × Int)) (v : Int × Int × Int × Int) : roundF (E14 k) (S14 k) Try.f14 p14_1 [] rec (n14_1 v.1 v.2.1 v.2.2.1 v.2.2.2) = impl_LeastEqualGap.s1 k (fun a0 a1 a2 a3 => rec (n14_1 a0 a1 a2 a3)) v.1 v.2.1 v.2.2.1 v.2.2.2 := by
  kernel_rfl
theorem q14_1 (k : Nat) (n : Nat) : ∀ v : Int × Int × Int × Int, loopF (E14 k) (S14 k) Try.f14 p14_1 [] n (n14_1 v.1 v.2.1 v.2.2.1 v.2.2.2) = impl_LeastEqualGap.l1 k n v.1 v.2.1 v.2.2.1 v.2.2.2 :=
  loopF_eq (E14 k) (S14 k) Try.f14 p14_1 [] (fun v : Int × Int × Int × Int => n14_1 v.1 v.2.1 v.2.2.1 v.2.2.2) (fun rec v => impl_LeastEqualGap.s1 k (fun a0 a1 a2 a3 => rec (a0, a1, a2, a3)) v.1 v.2.1 v.2.2.1 v.2.2.2) (fun n v => impl_LeastEqualGap.l1 k n v.1 v.2.1 v.2.2.1 v.2.2.2) (fun _ => rfl) (fun _ _ => rfl) (fun rec v => r14_1 k rec v) n
theorem r14_0 (k : Nat) (rec : St → Option (Int × Int)) (G1 : Int → Int → Int → Int → Option (Int × Int)) (h1 : ∀ a0 a1 a2 a3, loopF (E14 k) (S14 k) Try.f14 p14_1 [] k (n14_1 a0 a1 a2 a3) = G1 a0 a1 a2 a3) (v : Int × Int × Int × Int × Int × Int) : roundF (E14 k) (S14 k) Try.f14 p14_0 [] rec (n14_0 v.1 v.2.1 v.2.2.1 v.2.2.2.1 v.2.2.2.2.1 v.2.2.2.2.2) = impl_LeastEqualGap.s0 k (fun a0 a1 a2 a3 a4 a5 => rec (n14_0 a0 a1 a2 a3 a4 a5)) G1 v.1 v.2.1 v.2.2.1 v.2.2.2.1 v.2.2.2.2.1 v.2.2.2.2.2 := by
  obtain rfl : (fun a0 a1 a2 a3 => loopF (E14 k) (S14 k) Try.f14 p14_1 [] k (n14_1 a0 a1 a2 a3)) = G1 := funext fun a0 => funext fun a1 => funext fun a2 => funext fun a3 => h1 a0 a1 a2 a3
  kernel_rfl
theorem q14_0 (k : Nat) (n : Nat) : ∀ v : Int × Int × Int × Int × Int × Int, loopF (E14 k) (S14 k) Try.f14 p14_0 [] n (n14_0 v.1 v.2.1 v.2.2.1 v.2.2.2.1 v.2.2.2.2.1 v.2.2.2.2.2) = impl_LeastEqualGap.l0 k n v.1 v.2.1 v.2.2.1 v.2.2.2.1 v.2.2.2.2.1 v.2.2.2.2.2 :=
  loopF_eq (E14 k) (S14 k) Try.f14 p14_0 [] (fun v : Int × Int × Int × Int × Int × Int => n14_0 v.1 v.2.1 v.2.2.1 v.2.2.2.1 v.2.2.2.2.1 v.2.2.2.2.2) (fun rec v => impl_LeastEqualGap.s0 k (fun a0 a1 a2 a3 a4 a5 => rec (a0, a1, a2, a3, a4, a5)) (impl_LeastEqualGap.l1 k k) v.1 v.2.1 v.2.2.1 v.2.2.2.1 v.2.2.2.2.1 v.2.2.2.2.2) (fun n v => impl_LeastEqualGap.l0 k n v.1 v.2.1 v.2.2.1 v.2.2.2.1 v.2.2.2.2.1 v.2.2.2.2.2) (fun _ => rfl) (fun _ _ => rfl) (fun rec v => r14_0 k rec _ (fun a0 a1 a2 a3 => q14_1 k k (a0, a1, a2, a3)) v) n
theorem e14 (k : Nat) (x : dens (flatC (S14 k).ps)) : funK (E14 k) (S14 k) Try.f14 x = (S14 k).fn x := by
  have h : funK (E14 k) (S14 k) Try.f14 x = impl_LeastEqualGap.g k (fun a0 a1 a2 a3 a4 a5 => loopF (E14 k) (S14 k) Try.f14 p14_0 [] k (n14_0 a0 a1 a2 a3 a4 a5)) x.1 x.2.1 x.2.2 := by kernel_rfl
  rw [h]
  rw [show (fun a0 a1 a2 a3 a4 a5 => loopF (E14 k) (S14 k) Try.f14 p14_0 [] k (n14_0 a0 a1 a2 a3 a4 a5)) = impl_LeastEqualGap.l0 k k from funext fun a0 => funext fun a1 => funext fun a2 => funext fun a3 => funext fun a4 => funext fun a5 => q14_0 k k (a0, a1, a2, a3, a4, a5)]
  rfl
theorem M14 (k : Nat) : Meets Try.prog 14 (S14 k) := meets_of Try.func14 (by kernel_rfl) tbOk (orc_cons (M108 k) (orc_cons (M107 k) (orc_cons (M109 k) (orc_cons (M78 k) orc_nil)))) mixOk (fun x y h => (e14 k x).trans h) rfl

/-! spec_l09Equal: function 104 -/
noncomputable def spec_l09Equal.s0 (k : Nat) (r0 : Int → Int → Int → (List Int) → Int → Option ((List Int))) (x1 : Int) (x2_0 : Int) (x2_1 : Int) (x5_0 : List Int) (x6 : Int) : Option ((List Int)) := if x6 < x2_0 then (if x5_0.length + 1 ≤ 1099511627776 then (r0 x1 x2_0 x2_1 (x5_0 ++ [x1]) (wrap64 (x6 + 1))) else (none)) else (some x5_0)
noncomputable def spec_l09Equal.l0 (k : Nat) : Nat → Int → Int → Int → (List Int) → Int → Option ((List Int))
  | 0, _, _, _, _, _ => none
  | n + 1, x0, x1, x2, x3, x4 => spec_l09Equal.s0 k (spec_l09Equal.l0 k n) x0 x1 x2 x3 x4
noncomputable def spec_l09Equal.g (k : Nat) (r0 : Int → Int → Int → (List Int) → Int → Option ((List Int))) (a0_0 : Int) (a0_1 : Int) (a1 : Int) : Option ((List Int)) := r0 a1 a0_0 a0_1 [] 0
noncomputable def spec_l09Equal.f (k : Nat) (a0_0 : Int) (a0_1 : Int) (a1 : Int) : Option ((List Int)) := spec_l09Equal.g k (spec_l09Equal.l0 k k) a0_0 a0_1 a1
noncomputable def S104 (k : Nat) : Does := ⟨[(true, [.dat (.int .i64), .dat (.int .i64)]), (false, [.dat (.int .i64)])], [(true, [.own 2 (.int .i64)])], fun x => spec_l09Equal.f k x.1 x.2.1 x.2.2⟩
noncomputable def E104 (k : Nat) : En := ⟨tb, orcOf [], lvOf [(0, [(1, []), (2, []), (4, []), (5, []), (6, [])])], k, 0, lvOf [], []⟩
noncomputable def n104_0 (x1 : Int) (x2_0 : Int) (x2_1 : Int) (x5_0 : List Int) (x6 : Int) : St := ⟨22, lookA [(1, .dat (.int .i64) x1), (2, .box 0 0), (4, .box 1 0), (5, .box 2 0), (6, .dat (.int .i64) x6)], Go.V.look [(0, .cells [.dat (.int .i64) x2_0, .dat (.int .i64) x2_1]), (1, .cells [.nil]), (2, .cells [.own 3]), (3, .flat 2 (.int .i64) x5_0)]⟩
def p104_0 : List Bool := [true, true, false, true, false]
theorem r104_0 (k : Nat) (rec : St → Option ((List Int))) (v : Int × Int × Int × (List Int) × Int) : roundF (E104 k) (S104 k) Try.f104 p104_0 [] rec (n104_0 v.1 v.2.1 v.2.2.1 v.2.2.2.1 v.2.2.2.2) = spec_l09Equal.s0 k (fun a0 a1 a2 a3 a4 => rec (n104_0 a0 a1 a2 a3 a4)) v.1 v.2.1 v.2.2.1 v.2.2.2.1 v.2.2.2.2 := by
  kernel_rfl
theorem q104_0 (k : Nat) (n : Nat) : ∀ v : Int × Int × Int × (List Int) × Int, loopF (E104 k) (S104 k) Try.f104 p104_0 [] n (n104_0 v.1 v.2.1 v.2.2.1 v.2.2.2.1 v.2.2.2.2) = spec_l09Equal.l0 k n v.1 v.2.1 v.2.2.1 v.2.2.2.1 v.2.2.2.2 :=
  loopF_eq (E104 k) (S104 k) Try.f104 p104_0 [] (fun v : Int × Int × Int × (List Int) × Int => n104_0 v.1 v.2.1 v.2.2.1 v.2.2.2.1 v.2.2.2.2) (fun rec v => spec_l09Equal.s0 k (fun a0 a1 a2 a3 a4 => rec (a0, a1, a2, a3, a4)) v.1 v.2.1 v.2.2.1 v.2.2.2.1 v.2.2.2.2) (fun n v => spec_l09Equal.l0 k n v.1 v.2.1 v.2.2.1 v.2.2.2.1 v.2.2.2.2) (fun _ => rfl) (fun _ _ => rfl) (fun rec v => r104_0 k rec v) n
theorem e104 (k : Nat) (x : dens (flatC (S104 k).ps)) : funK (E104 k) (S104 k) Try.f104 x = (S104 k).fn x := by
  have h : funK (E104 k) (S104 k) Try.f104 x = spec_l09Equal.g k (fun a0 a1 a2 a3 a4 => loopF (E104 k) (S104 k) Try.f104 p104_0 [] k (n104_0 a0 a1 a2 a3 a4)) x.1 x.2.1 x.2.2 := by kernel_rfl
  rw [h]
  rw [show (fun a0 a1 a2 a3 a4 => loopF (E104 k) (S104 k) Try.f104 p104_0 [] k (n104_0 a0 a1 a2 a3 a4)) = spec_l09Equal.l0 k k from funext fun a0 => funext fun a1 => funext fun a2 => funext fun a3 => funext fun a4 => q104_0 k k (a0, a1, a2, a3, a4)]
  rfl
theorem M104 (k : Nat) : Meets Try.prog 104 (S104 k) := meets_of Try.func104 (by kernel_rfl) tbOk orc_nil mixOk (fun x y h => (e104 k x).trans h) rfl

/-! spec_l09Size: function 103 -/
noncomputable def spec_l09Size.s0 (k : Nat) (r0 : (List Int) → Int → Int → Int → Option (Int)) (x3_0 : List Int) (x5 : Int) (x11 : Int) (x12 : Int) : Option (Int) := if x12 < x11 then (if 0 ≤ x12 then (if x12 < (x3_0.length : Int) then (r0 x3_0 (wrap64 (x5 * (rd x3_0 x12))) x11 (wrap64 (x12 + 1))) else (none)) else (none)) else (some x5)
noncomputable def spec_l09Size.l0 (k : Nat) : Nat → (List Int) → Int → Int → Int → Option (Int)
  | 0, _, _, _, _ => none
  | n + 1, x0, x1, x2, x3 => spec_l09Size.s0 k (spec_l09Size.l0 k n) x0 x1 x2 x3
noncomputable def spec_l09Size.g (k : Nat) (r0 : (List Int) → Int → Int → Int → Option (Int)) (a0_0 : Int) (a0_1 : Int) (l1_0 : List Int) : Option (Int) := r0 l1_0 a0_0 (l1_0.length : Int) 0
noncomputable def spec_l09Size.f (k : Nat) (a0_0 : Int) (a0_1 : Int) (l1_0 : List Int) : Option (Int) := spec_l09Size.g k (spec_l09Size.l0 k k) a0_0 a0_1 l1_0
noncomputable def S103 (k : Nat) : Does := ⟨[(true, [.dat (.int .i64), .dat (.int .i64)]), (true, [.dat (.list (.int .i64))])], [(false, [.dat (.int .i64)])], fun x => spec_l09Size.f k x.1 x.2.1 x.2.2⟩
noncomputable def E103 (k : Nat) : En := ⟨tb, orcOf [], lvOf [(0, [(3, []), (5, []), (11, []), (12, [])])], k, 0, lvOf [], []⟩
noncomputable def n103_0 (x3_0 : List Int) (x5 : Int) (x11 : Int) (x12 : Int) : St := ⟨24, lookA [(3, .box 0 0), (5, .dat (.int .i64) x5), (11, .dat (.int .i64) x11), (12, .dat (.int .i64) x12)], Go.V.look [(0, .cells [.dat (.list (.int .i64)) x3_0])]⟩
def p103_0 : List Bool := [true, true, false, true, false]
theorem r103_0 (k : Nat) (rec : St → Option (Int)) (v : (List Int) × Int × Int × Int) : roundF (E103 k) (S103 k) Try.f103 p103_0 [] rec (n103_0 v.1 v.2.1 v.2.2.1 v.2.2.2) = spec_l09Size.s0 k (fun a0 a1 a2 a3 => rec (n103_0 a0 a1 a2 a3)) v.1 v.2.1 v.2.2.1 v.2.2.2 := by
  kernel_rfl
theorem q103_0 (k : Nat) (n : Nat) : ∀ v : (List Int) × Int × Int × Int, loopF (E103 k) (S103 k) Try.f103 p103_0 [] n (n103_0 v.1 v.2.1 v.2.2.1 v.2.2.2) = spec_l09Size.l0 k n v.1 v.2.1 v.2.2.1 v.2.2.2 :=
  loopF_eq (E103 k) (S103 k) Try.f103 p103_0 [] (fun v : (List Int) × Int × Int × Int => n103_0 v.1 v.2.1 v.2.2.1 v.2.2.2) (fun rec v => spec_l09Size.s0 k (fun a0 a1 a2 a3 => rec (a0, a1, a2, a3)) v.1 v.2.1 v.2.2.1 v.2.2.2) (fun n v => spec_l09Size.l0 k n v.1 v.2.1 v.2.2.1 v.2.2.2) (fun _ => rfl) (fun _ _ => rfl) (fun rec v => r103_0 k rec v) n
theorem e103 (k : Nat) (x : dens (flatC (S103 k).ps)) : funK (E103 k) (S103 k) Try.f103 x = (S103 k).fn x := by
  have h : funK (E103 k) (S103 k) Try.f103 x = spec_l09Size.g k (fun a0 a1 a2 a3 => loopF (E103 k) (S103 k) Try.f103 p103_0 [] k (n103_0 a0 a1 a2 a3)) x.1 x.2.1 x.2.2 := by kernel_rfl
  rw [h]
  rw [show (fun a0 a1 a2 a3 => loopF (E103 k) (S103 k) Try.f103 p103_0 [] k (n103_0 a0 a1 a2 a3)) = spec_l09Size.l0 k k from funext fun a0 => funext fun a1 => funext fun a2 => funext fun a3 => q103_0 k k (a0, a1, a2, a3)]
  rfl
theorem M103 (k : Nat) : Meets Try.prog 103 (S103 k) := meets_of Try.func103 (by kernel_rfl) tbOk orc_nil mixOk (fun x y h => (e103 k x).trans h) rfl

/-! spec_l01K: function 142 -/
noncomputable def spec_l01K.f (l0_0 : List Int) : Option (Int) := some (l0_0.length : Int)
noncomputable def S142 (k : Nat) : Does := ⟨[(true, [.dat (.list (.int .i64))])], [(false, [.dat (.int .i64)])], fun x => spec_l01K.f x⟩
noncomputable def E142 (k : Nat) : En := ⟨tb, orcOf [], lvOf [], k, 0, lvOf [], []⟩
theorem e142 (k : Nat) (x : dens (flatC (S142 k).ps)) : funK (E142 k) (S142 k) Try.f142 x = (S142 k).fn x := by
  kernel_rfl
theorem M142 (k : Nat) : Meets Try.prog 142 (S142 k) := meets_of Try.func142 (by kernel_rfl) tbOk orc_nil mixOk (fun x y h => (e142 k x).trans h) rfl

/-! spec_l09State: function 183 -/
noncomputable def spec_l09State.s0 (k : Nat) (r0 : (List Int) → Int → Int → (List Int) → Int → Option ((List Int) × Int)) (x2_0 : List Int) (x6 : Int) (x7 : Int) (x8 : List Int) (x9 : Int) : Option ((List Int) × Int) := if 0 ≤ x9 then (if 0 ≤ x9 then (if x9 < (x2_0.length : Int) then (if (rd x2_0 x9) = 0 then (none) else (if 0 ≤ x9 then (if x9 < (x8.length : Int) then (if 0 ≤ x9 then (if x9 < (x2_0.length : Int) then (if (rd x2_0 x9) = 0 then (none) else (r0 x2_0 x6 (wrap64 (Int.tdiv x7 (rd x2_0 x9))) (x8.set x9.toNat (wrap64 ((Int.tmod x7 (rd x2_0 x9)) + 1))) (wrap64 (x9 - 1)))) else (none)) else (none)) else (none)) else (none))) else (none)) else (none)) else (some (x8, x6))
noncomputable def spec_l09State.l0 (k : Nat) : Nat → (List Int) → Int → Int → (List Int) → Int → Option ((List Int) × Int)
  | 0, _, _, _, _, _ => none
  | n + 1, x0, x1, x2, x3, x4 => spec_l09State.s0 k (spec_l09State.l0 k n) x0 x1 x2 x3 x4
noncomputable def spec_l09State.g (k : Nat) (r0 : (List Int) → Int → Int → (List Int) → Int → Option ((List Int) × Int)) (l0_0 : List Int) (a1 : Int) : Option ((List Int) × Int) := (spec_l01K.f l0_0).bind fun t1 => if t1 = 0 then (none) else ((spec_l01K.f l0_0).bind fun t2 => if t2 = 0 then (none) else ((spec_l01K.f l0_0).bind fun t3 => if 0 ≤ t3 then (if t3 ≤ t3 then (if t3.toNat ≤ 1099511627776 then ((spec_l01K.f l0_0).bind fun t4 => r0 l0_0 (Int.tmod a1 t1) (wrap64 (Int.tdiv a1 t2)) (List.replicate t3.toNat (0 : Int)) (wrap64 (t4 - 1))) else (none)) else (none)) else (none)))
noncomputable def spec_l09State.f (k : Nat) (l0_0 : List Int) (a1 : Int) : Option ((List Int) × Int) := spec_l09State.g k (spec_l09State.l0 k k) l0_0 a1
noncomputable def S183 (k : Nat) : Does := ⟨[(true, [.dat (.list (.int .i64))]), (false, [.dat (.int .i64)])], [(false, [.own 2 (.int .i64)]), (false, [.dat (.int .i64)])], fun x => spec_l09State.f k x.1 x.2⟩
noncomputable def E183 (k : Nat) : En := ⟨tb, orcOf [(142, S142 k)], lvOf [(0, [(2, []), (6, []), (7, []), (8, []), (9, [])])], k, 0, lvOf [], []⟩
noncomputable def n183_0 (x2_0 : List Int) (x6 : Int) (x7 : Int) (x8 : List Int) (x9 : Int) : St := ⟨48, lookA [(2, .box 0 0), (6, .dat (.int .i64) x6), (7, .dat (.int .i64) x7), (8, .own 1), (9, .dat (.int .i64) x9)], Go.V.look [(0, .cells [.dat (.list (.int .i64)) x2_0]), (1, .flat 2 (.int .i64) x8)]⟩
def p183_0 : List Bool := [true, true, false, true, false]
theorem r183_0 (k : Nat) (rec : St → Option ((List Int) × Int)) (v : (List Int) × Int × Int × (List Int) × Int) : roundF (E183 k) (S183 k) Try.f183 p183_0 [] rec (n183_0 v.1 v.2.1 v.2.2.1 v.2.2.2.1 v.2.2.2.2) = spec_l09State.s0 k (fun a0 a1 a2 a3 a4 => rec (n183_0 a0 a1 a2 a3 a4)) v.1 v.2.1 v.2.2.1 v.2.2.2.1 v.2.2.2.2 := by
  kernel_rfl
theorem q183_0 (k : Nat) (n : Nat) : ∀ v : (List Int) × Int × Int × (List Int) × Int, loopF (E183 k) (S183 k) Try.f183 p183_0 [] n (n183_0 v.1 v.2.1 v.2.2.1 v.2.2.2.1 v.2.2.2.2) = spec_l09State.l0 k n v.1 v.2.1 v.2.2.1 v.2.2.2.1 v.2.2.2.2 :=
  loopF_eq (E183 k) (S183 k) Try.f183 p183_0 [] (fun v : (List Int) × Int × Int × (List Int) × Int => n183_0 v.1 v.2.1 v.2.2.1 v.2.2.2.1 v.2.2.2.2) (fun rec v => spec_l09State.s0 k (fun a0 a1 a2 a3 a4 => rec (a0, a1, a2, a3, a4)) v.1 v.2.1 v.2.2.1 v.2.2.2.1 v.2.2.2.2) (fun n v => spec_l09State.l0 k n v.1 v.2.1 v.2.2.1 v.2.2.2.1 v.2.2.2.2) (fun _ => rfl) (fun _ _ => rfl) (fun rec v => r183_0 k rec v) n
theorem e183 (k : Nat) (x : dens (flatC (S183 k).ps)) : funK (E183 k) (S183 k) Try.f183 x = (S183 k).fn x := by
  have h : funK (E183 k) (S183 k) Try.f183 x = spec_l09State.g k (fun a0 a1 a2 a3 a4 => loopF (E183 k) (S183 k) Try.f183 p183_0 [] k (n183_0 a0 a1 a2 a3 a4)) x.1 x.2 := by kernel_rfl
  rw [h]
  rw [show (fun a0 a1 a2 a3 a4 => loopF (E183 k) (S183 k) Try.f183 p183_0 [] k (n183_0 a0 a1 a2 a3 a4)) = spec_l09State.l0 k k from funext fun a0 => funext fun a1 => funext fun a2 => funext fun a3 => funext fun a4 => q183_0 k k (a0, a1, a2, a3, a4)]
  rfl
theorem M183 (k : Nat) : Meets Try.prog 183 (S183 k) := meets_of Try.func183 (by kernel_rfl) tbOk (orc_cons (M142 k) orc_nil) mixOk (fun x y h => (e183 k x).trans h) rfl

/-! spec_l01Own: function 120 -/
noncomputable def spec_l01Own.f (l0 : List Int) : Option ((List Int)) := if 0 + l0.length ≤ 1099511627776 then (some ([] ++ l0)) else (none)
noncomputable def S120 (k : Nat) : Does := ⟨[(false, [.dat (.list (.int .i64))])], [(false, [.own 2 (.int .i64)])], fun x => spec_l01Own.f x⟩
noncomputable def E120 (k : Nat) : En := ⟨tb, orcOf [], lvOf [], k, 0, lvOf [], []⟩
theorem e120 (k : Nat) (x : dens (flatC (S120 k).ps)) : funK (E120 k) (S120 k) Try.f120 x = (S120 k).fn x := by
  kernel_rfl
theorem M120 (k : Nat) : Meets Try.prog 120 (S120 k) := meets_of Try.func120 (by kernel_rfl) tbOk orc_nil mixOk (fun x y h => (e120 k x).trans h) rfl

/-! spec_l09Number: function 208 -/
noncomputable def spec_l09Number.s0 (k : Nat) (r0 : (List Int) → Int → (List Int) → Int → Int → Int → Option (Int)) (x1 : List Int) (x2 : Int) (x3_0 : List Int) (x7 : Int) (x10 : Int) (x11 : Int) : Option (Int) := if x11 < x10 then (if 0 ≤ x11 then (if x11 < (x3_0.length : Int) then (if 0 ≤ x11 then (if x11 < (x1.length : Int) then (r0 x1 x2 x3_0 (wrap64 ((wrap64 ((wrap64 (x7 * (rd x3_0 x11))) + (rd x1 x11))) - 1)) x10 (wrap64 (x11 + 1))) else (none)) else (none)) else (none)) else (none)) else ((spec_l01K.f x3_0).bind fun t1 => some (wrap64 ((wrap64 (x7 * t1)) + x2)))
noncomputable def spec_l09Number.l0 (k : Nat) : Nat → (List Int) → Int → (List Int) → Int → Int → Int → Option (Int)
  | 0, _, _, _, _, _, _ => none
  | n + 1, x0, x1, x2, x3, x4, x5 => spec_l09Number.s0 k (spec_l09Number.l0 k n) x0 x1 x2 x3 x4 x5
noncomputable def spec_l09Number.g (k : Nat) (r0 : (List Int) → Int → (List Int) → Int → Int → Int → Option (Int)) (l0_0 : List Int) (l1 : List Int) (a2 : Int) : Option (Int) := r0 l1 a2 l0_0 0 (l1.length : Int) 0
noncomputable def spec_l09Number.f (k : Nat) (l0_0 : List Int) (l1 : List Int) (a2 : Int) : Option (Int) := spec_l09Number.g k (spec_l09Number.l0 k k) l0_0 l1 a2
noncomputable def S208 (k : Nat) : Does := ⟨[(true, [.dat (.list (.int .i64))]), (false, [.dat (.list (.int .i64))]), (false, [.dat (.int .i64)])], [(false, [.dat (.int .i64)])], fun x => spec_l09Number.f k x.1 x.2.1 x.2.2⟩
noncomputable def E208 (k : Nat) : En := ⟨tb, orcOf [(142, S142 k)], lvOf [(0, [(1, []), (2, []), (3, []), (7, []), (10, []), (11, [])])], k, 0, lvOf [], []⟩
noncomputable def n208_0 (x1 : List Int) (x2 : Int) (x3_0 : List Int) (x7 : Int) (x10 : Int) (x11 : Int) : St := ⟨34, lookA [(1, .dat (.list (.int .i64)) x1), (2, .dat (.int .i64) x2), (3, .box 0 0), (7, .dat (.int .i64) x7), (10, .dat (.int .i64) x10), (11, .dat (.int .i64) x11)], Go.V.look [(0, .cells [.dat (.list (.int .i64)) x3_0])]⟩
def p208_0 : List Bool := [true, true, false, true, false]
theorem r208_0 (k : Nat) (rec : St → Option (Int)) (v : (List Int) × Int × (List Int) × Int × Int × Int) : roundF (E208 k) (S208 k) Try.f208 p208_0 [] rec (n208_0 v.1 v.2.1 v.2.2.1 v.2.2.2.1 v.2.2.2.2.1 v.2.2.2.2.2) = spec_l09Number.s0 k (fun a0 a1 a2 a3 a4 a5 => rec (n208_0 a0 a1 a2 a3 a4 a5)) v.1 v.2.1 v.2.2.1 v.2.2.2.1 v.2.2.2.2.1 v.2.2.2.2.2 := by
  kernel_rfl
theorem q208_0 (k : Nat) (n : Nat) : ∀ v : (List Int) × Int × (List Int) × Int × Int × Int, loopF (E208 k) (S208 k) Try.f208 p208_0 [] n (n208_0 v.1 v.2.1 v.2.2.1 v.2.2.2.1 v.2.2.2.2.1 v.2.2.2.2.2) = spec_l09Number.l0 k n v.1 v.2.1 v.2.2.1 v.2.2.2.1 v.2.2.2.2.1 v.2.2.2.2.2 :=
  loopF_eq (E208 k) (S208 k) Try.f208 p208_0 [] (fun v : (List Int) × Int × (List Int) × Int × Int × Int => n208_0 v.1 v.2.1 v.2.2.1 v.2.2.2.1 v.2.2.2.2.1 v.2.2.2.2.2) (fun rec v => spec_l09Number.s0 k (fun a0 a1 a2 a3 a4 a5 => rec (a0, a1, a2, a3, a4, a5)) v.1 v.2.1 v.2.2.1 v.2.2.2.1 v.2.2.2.2.1 v.2.2.2.2.2) (fun n v => spec_l09Number.l0 k n v.1 v.2.1 v.2.2.1 v.2.2.2.1 v.2.2.2.2.1 v.2.2.2.2.2) (fun _ => rfl) (fun _ _ => rfl) (fun rec v => r208_0 k rec v) n
theorem e208 (k : Nat) (x : dens (flatC (S208 k).ps)) : funK (E208 k) (S208 k) Try.f208 x = (S208 k).fn x := by
  have h : funK (E208 k) (S208 k) Try.f208 x = spec_l09Number.g k (fun a0 a1 a2 a3 a4 a5 => loopF (E208 k) (S208 k) Try.f208 p208_0 [] k (n208_0 a0 a1 a2 a3 a4 a5)) x.1 x.2.1 x.2.2 := by kernel_rfl
  rw [h]
  rw [show (fun a0 a1 a2 a3 a4 a5 => loopF (E208 k) (S208 k) Try.f208 p208_0 [] k (n208_0 a0 a1 a2 a3 a4 a5)) = spec_l09Number.l0 k k from funext fun a0 => funext fun a1 => funext fun a2 => funext fun a3 => funext fun a4 => funext fun a5 => q208_0 k k (a0, a1, a2, a3, a4, a5)]
  rfl
theorem M208 (k : Nat) : Meets Try.prog 208 (S208 k) := meets_of Try.func208 (by kernel_rfl) tbOk (orc_cons (M142 k) orc_nil) mixOk (fun x y h => (e208 k x).trans h) rfl

/-! spec_l09Move: function 184 -/
noncomputable def spec_l09Move.s0 (k : Nat) (r0 : Int → (List Int) → (List Int) → Int → Int → Option (Int)) (x2 : Int) (x3_0 : List Int) (x7 : List Int) (x12 : Int) (x13 : Int) : Option (Int) := if x13 < x12 then (if 0 ≤ x13 then (if x13 < (x7.length : Int) then (if 0 ≤ x13 then (if x13 < (x7.length : Int) then (if x13 = x2 then (if 0 ≤ x13 then (if x13 < (x3_0.length : Int) then (if 0 ≤ x13 then (if x13 < ((x7.set x13.toNat (wrap64 ((rd x7 x13) - 1))).length : Int) then (if 0 ≤ x13 then (if x13 < (((x7.set x13.toNat (wrap64 ((rd x7 x13) - 1))).set x13.toNat (rd x3_0 x13)).length : Int) then (if (rd ((x7.set x13.toNat (wrap64 ((rd x7 x13) - 1))).set x13.toNat (rd x3_0 x13)) x13) = 0 then (some (-1)) else (r0 x2 x3_0 ((x7.set x13.toNat (wrap64 ((rd x7 x13) - 1))).set x13.toNat (rd x3_0 x13)) x12 (wrap64 (x13 + 1)))) else (none)) else (none)) else (none)) else (none)) else (none)) else (none)) else (if 0 ≤ x13 then (if x13 < ((x7.set x13.toNat (wrap64 ((rd x7 x13) - 1))).length : Int) then (if (rd (x7.set x13.toNat (wrap64 ((rd x7 x13) - 1))) x13) = 0 then (some (-1)) else (r0 x2 x3_0 (x7.set x13.toNat (wrap64 ((rd x7 x13) - 1))) x12 (wrap64 (x13 + 1)))) else (none)) else (none))) else (none)) else (none)) else (none)) else (none)) else ((spec_l09Number.f k x3_0 x7 x2).bind fun t2 => some t2)
noncomputable def spec_l09Move.l0 (k : Nat) : Nat → Int → (List Int) → (List Int) → Int → Int → Option (Int)
  | 0, _, _, _, _, _ => none
  | n + 1, x0, x1, x2, x3, x4 => spec_l09Move.s0 k (spec_l09Move.l0 k n) x0 x1 x2 x3 x4
noncomputable def spec_l09Move.g (k : Nat) (r0 : Int → (List Int) → (List Int) → Int → Int → Option (Int)) (l0_0 : List Int) (l1 : List Int) (a2 : Int) : Option (Int) := (spec_l01Own.f l1).bind fun t1 => r0 a2 l0_0 t1 (t1.length : Int) 0
noncomputable def spec_l09Move.f (k : Nat) (l0_0 : List Int) (l1 : List Int) (a2 : Int) : Option (Int) := spec_l09Move.g k (spec_l09Move.l0 k k) l0_0 l1 a2
noncomputable def S184 (k : Nat) : Does := ⟨[(true, [.dat (.list (.int .i64))]), (false, [.dat (.list (.int .i64))]), (false, [.dat (.int .i64)])], [(false, [.dat (.int .i64)])], fun x => spec_l09Move.f k x.1 x.2.1 x.2.2⟩
noncomputable def E184 (k : Nat) : En := ⟨tb, orcOf [(120, S120 k), (208, S208 k)], lvOf [(0, [(2, []), (3, []), (7, []), (12, []), (13, [])])], k, 0, lvOf [], []⟩
noncomputable def n184_0 (x2 : Int) (x3_0 : List Int) (x7 : List Int) (x12 : Int) (x13 : Int) : St := ⟨43, lookA [(2, .dat (.int .i64) x2), (3, .box 0 0), (7, .own 1), (12, .dat (.int .i64) x12), (13, .dat (.int .i64) x13)], Go.V.look [(0, .cells [.dat (.list (.int .i64)) x3_0]), (1, .flat 2 (.int .i64) x7)]⟩
def p184_0 : List Bool := [true, true, false, true, false]
theorem r184_0 (k : Nat) (rec : St → Option (Int)) (v : Int × (List Int) × (List Int) × Int × Int) : roundF (E184 k) (S184 k) Try.f184 p184_0 [] rec (n184_0 v.1 v.2.1 v.2.2.1 v.2.2.2.1 v.2.2.2.2) = spec_l09Move.s0 k (fun a0 a1 a2 a3 a4 => rec (n184_0 a0 a1 a2 a3 a4)) v.1 v.2.1 v.2.2.1 v.2.2.2.1 v.2.2.2.2 := by
  kernel_rfl
theorem q184_0 (k : Nat) (n : Nat) : ∀ v : Int × (List Int) × (List Int) × Int × Int, loopF (E184 k) (S184 k) Try.f184 p184_0 [] n (n184_0 v.1 v.2.1 v.2.2.1 v.2.2.2.1 v.2.2.2.2) = spec_l09Move.l0 k n v.1 v.2.1 v.2.2.1 v.2.2.2.1 v.2.2.2.2 :=
  loopF_eq (E184 k) (S184 k) Try.f184 p184_0 [] (fun v : Int × (List Int) × (List Int) × Int × Int => n184_0 v.1 v.2.1 v.2.2.1 v.2.2.2.1 v.2.2.2.2) (fun rec v => spec_l09Move.s0 k (fun a0 a1 a2 a3 a4 => rec (a0, a1, a2, a3, a4)) v.1 v.2.1 v.2.2.1 v.2.2.2.1 v.2.2.2.2) (fun n v => spec_l09Move.l0 k n v.1 v.2.1 v.2.2.1 v.2.2.2.1 v.2.2.2.2) (fun _ => rfl) (fun _ _ => rfl) (fun rec v => r184_0 k rec v) n
theorem e184 (k : Nat) (x : dens (flatC (S184 k).ps)) : funK (E184 k) (S184 k) Try.f184 x = (S184 k).fn x := by
  have h : funK (E184 k) (S184 k) Try.f184 x = spec_l09Move.g k (fun a0 a1 a2 a3 a4 => loopF (E184 k) (S184 k) Try.f184 p184_0 [] k (n184_0 a0 a1 a2 a3 a4)) x.1 x.2.1 x.2.2 := by kernel_rfl
  rw [h]
  rw [show (fun a0 a1 a2 a3 a4 => loopF (E184 k) (S184 k) Try.f184 p184_0 [] k (n184_0 a0 a1 a2 a3 a4)) = spec_l09Move.l0 k k from funext fun a0 => funext fun a1 => funext fun a2 => funext fun a3 => funext fun a4 => q184_0 k k (a0, a1, a2, a3, a4)]
  rfl
theorem M184 (k : Nat) : Meets Try.prog 184 (S184 k) := meets_of Try.func184 (by kernel_rfl) tbOk (orc_cons (M120 k) (orc_cons (M208 k) orc_nil)) mixOk (fun x y h => (e184 k x).trans h) rfl

/-! spec_l09Safe: function 106 -/
noncomputable def spec_l09Safe.s3 (k : Nat) (r2 : Int → Int → (List Int) → (List Bool) → Bool → Int → Int → Option ((List Bool))) (r3 : Int → Int → (List Int) → (List Bool) → Bool → Int → (List Int) → Int → Bool → Int → Int → Int → Option ((List Bool))) (x2_0 : Int) (x2_1 : Int) (x3_0 : List Int) (x5 : List Bool) (x9 : Bool) (x10 : Int) (x11 : List Int) (x12 : Int) (x13 : Bool) (x14 : Int) (x47 : Int) (x48 : Int) : Option ((List Bool)) := if x14 < x2_0 then (if x13 = true then (if x13 = true then (r2 x2_0 x2_1 x3_0 x5 x9 x47 (wrap64 (x48 + 1))) else (if 0 ≤ x10 then (if x10 < (x5.length : Int) then (r2 x2_0 x2_1 x3_0 (x5.set x10.toNat false) true x47 (wrap64 (x48 + 1))) else (none)) else (none))) else ((spec_l09Near.f x2_0 x2_1 x12 x14).bind fun t4 => if t4 = true then ((spec_l09Move.f k x3_0 x11 x14).bind fun t5 => if 0 ≤ t5 then (if 0 ≤ t5 then (if t5 < (x5.length : Int) then (r3 x2_0 x2_1 x3_0 x5 x9 x10 x11 x12 (rdOf false x5 t5) (wrap64 (x14 + 1)) x47 x48) else (none)) else (none)) else (r3 x2_0 x2_1 x3_0 x5 x9 x10 x11 x12 false (wrap64 (x14 + 1)) x47 x48)) else (r3 x2_0 x2_1 x3_0 x5 x9 x10 x11 x12 x13 (wrap64 (x14 + 1)) x47 x48))) else (if x13 = true then (r2 x2_0 x2_1 x3_0 x5 x9 x47 (wrap64 (x48 + 1))) else (if 0 ≤ x10 then (if x10 < (x5.length : Int) then (r2 x2_0 x2_1 x3_0 (x5.set x10.toNat false) true x47 (wrap64 (x48 + 1))) else (none)) else (none)))
noncomputable def spec_l09Safe.l3 (k : Nat) (r1 : Int → Int → (List Int) → (List Bool) → Bool → Option ((List Bool))) (r2 : Int → Int → (List Int) → (List Bool) → Bool → Int → Int → Option ((List Bool))) : Nat → Int → Int → (List Int) → (List Bool) → Bool → Int → (List Int) → Int → Bool → Int → Int → Int → Option ((List Bool))
  | 0, _, _, _, _, _, _, _, _, _, _, _, _ => none
  | n + 1, x0, x1, x2, x3, x4, x5, x6, x7, x8, x9, x10, x11 => spec_l09Safe.s3 k r2 (spec_l09Safe.l3 k r1 r2 n) x0 x1 x2 x3 x4 x5 x6 x7 x8 x9 x10 x11
noncomputable def spec_l09Safe.s2 (k : Nat) (r1 : Int → Int → (List Int) → (List Bool) → Bool → Option ((List Bool))) (r2 : Int → Int → (List Int) → (List Bool) → Bool → Int → Int → Option ((List Bool))) (r3 : Int → Int → (List Int) → (List Bool) → Bool → Int → (List Int) → Int → Bool → Int → Int → Int → Option ((List Bool))) (x2_0 : Int) (x2_1 : Int) (x3_0 : List Int) (x5 : List Bool) (x9 : Bool) (x47 : Int) (x48 : Int) : Option ((List Bool)) := if x48 < x47 then (if 0 ≤ x48 then (if x48 < (x5.length : Int) then (if (rdOf false x5 x48) = true then ((spec_l09State.f k x3_0 x48).bind fun t3 => r3 x2_0 x2_1 x3_0 x5 x9 x48 t3.1 t3.2 false 0 x47 x48) else (r2 x2_0 x2_1 x3_0 x5 x9 x47 (wrap64 (x48 + 1)))) else (none)) else (none)) else (r1 x2_0 x2_1 x3_0 x5 x9)
noncomputable def spec_l09Safe.l2 (k : Nat) (r1 : Int → Int → (List Int) → (List Bool) → Bool → Option ((List Bool))) : Nat → Int → Int → (List Int) → (List Bool) → Bool → Int → Int → Option ((List Bool))
  | 0, _, _, _, _, _, _, _ => none
  | n + 1, x0, x1, x2, x3, x4, x5, x6 => spec_l09Safe.s2 k r1 (spec_l09Safe.l2 k r1 n) (spec_l09Safe.l3 k r1 (spec_l09Safe.l2 k r1 n) k) x0 x1 x2 x3 x4 x5 x6
noncomputable def spec_l09Safe.s1 (k : Nat) (r1 : Int → Int → (List Int) → (List Bool) → Bool → Option ((List Bool))) (r2 : Int → Int → (List Int) → (List Bool) → Bool → Int → Int → Option ((List Bool))) (x2_0 : Int) (x2_1 : Int) (x3_0 : List Int) (x5 : List Bool) (x9 : Bool) : Option ((List Bool)) := if x9 = true then (r2 x2_0 x2_1 x3_0 x5 false (x5.length : Int) 0) else (some x5)
noncomputable def spec_l09Safe.l1 (k : Nat) : Nat → Int → Int → (List Int) → (List Bool) → Bool → Option ((List Bool))
  | 0, _, _, _, _, _ => none
  | n + 1, x0, x1, x2, x3, x4 => spec_l09Safe.s1 k (spec_l09Safe.l1 k n) (spec_l09Safe.l2 k (spec_l09Safe.l1 k n) k) x0 x1 x2 x3 x4
noncomputable def spec_l09Safe.s0 (k : Nat) (r0 : Int → Int → (List Int) → (List Bool) → Int → Int → Option ((List Bool))) (r1 : Int → Int → (List Int) → (List Bool) → Bool → Option ((List Bool))) (x2_0 : Int) (x2_1 : Int) (x3_0 : List Int) (x5 : List Bool) (x21 : Int) (x22 : Int) : Option ((List Bool)) := if x22 < x21 then ((spec_l09State.f k x3_0 x22).bind fun t2 => if 0 ≤ t2.2 then (if t2.2 < (t2.1.length : Int) then (if 0 ≤ t2.2 then (if t2.2 < (x3_0.length : Int) then (if 0 ≤ x22 then (if x22 < (x5.length : Int) then (r0 x2_0 x2_1 x3_0 (x5.set x22.toNat (decide ((rd t2.1 t2.2) = (rd x3_0 t2.2)))) x21 (wrap64 (x22 + 1))) else (none)) else (none)) else (none)) else (none)) else (none)) else (none)) else (r1 x2_0 x2_1 x3_0 x5 true)
noncomputable def spec_l09Safe.l0 (k : Nat) : Nat → Int → Int → (List Int) → (List Bool) → Int → Int → Option ((List Bool))
  | 0, _, _, _, _, _, _ => none
  | n + 1, x0, x1, x2, x3, x4, x5 => spec_l09Safe.s0 k (spec_l09Safe.l0 k n) (spec_l09Safe.l1 k k) x0 x1 x2 x3 x4 x5
noncomputable def spec_l09Safe.g (k : Nat) (r0 : Int → Int → (List Int) → (List Bool) → Int → Int → Option ((List Bool))) (a0_0 : Int) (a0_1 : Int) (l1_0 : List Int) : Option ((List Bool)) := (spec_l09Size.f k a0_0 a0_1 l1_0).bind fun t1 => if 0 ≤ t1 then (if t1 ≤ t1 then (if t1.toNat ≤ 1099511627776 then (r0 a0_0 a0_1 l1_0 (List.replicate t1.toNat (false : Bool)) ((List.replicate t1.toNat (false : Bool)).length : Int) 0) else (none)) else (none)) else (none)
noncomputable def spec_l09Safe.f (k : Nat) (a0_0 : Int) (a0_1 : Int) (l1_0 : List Int) : Option ((List Bool)) := spec_l09Safe.g k (spec_l09Safe.l0 k k) a0_0 a0_1 l1_0
noncomputable def S106 (k : Nat) : Does := ⟨[(true, [.dat (.int .i64), .dat (.int .i64)]), (true, [.dat (.list (.int .i64))])], [(false, [.own 4 .bool])], fun x => spec_l09Safe.f k x.1 x.2.1 x.2.2⟩
noncomputable def E106 (k : Nat) : En := ⟨tb, orcOf [(103, S103 k), (183, S183 k), (177, S177 k), (184, S184 k)], lvOf [(0, [(2, []), (3, []), (5, []), (21, []), (22, [])]), (2, [(2, []), (3, []), (5, []), (9, [])]), (4, [(2, []), (3, []), (5, []), (9, []), (47, []), (48, [])]), (6, [(2, []), (3, []), (5, []), (9, []), (10, []), (11, []), (12, []), (13, []), (14, []), (47, []), (48, [])])], k, 0, lvOf [], []⟩
noncomputable def n106_0 (x2_0 : Int) (x2_1 : Int) (x3_0 : List Int) (x5 : List Bool) (x21 : Int) (x22 : Int) : St := ⟨95, lookA [(2, .box 0 0), (3, .box 1 0), (5, .own 2), (21, .dat (.int .i64) x21), (22, .dat (.int .i64) x22)], Go.V.look [(0, .cells [.dat (.int .i64) x2_0, .dat (.int .i64) x2_1]), (1, .cells [.dat (.list (.int .i64)) x3_0]), (2, .flat 4 .bool x5)]⟩
def p106_0 : List Bool := [true, true, false, true, false]
noncomputable def n106_1 (x2_0 : Int) (x2_1 : Int) (x3_0 : List Int) (x5 : List Bool) (x9 : Bool) : St := ⟨95, lookA [(2, .box 0 0), (3, .box 1 0), (5, .own 2), (9, .dat .bool x9)], Go.V.look [(0, .cells [.dat (.int .i64) x2_0, .dat (.int .i64) x2_1]), (1, .cells [.dat (.list (.int .i64)) x3_0]), (2, .flat 4 .bool x5)]⟩
def p106_1 : List Bool := [true, true, true, false, true, false]
noncomputable def n106_2 (x2_0 : Int) (x2_1 : Int) (x3_0 : List Int) (x5 : List Bool) (x9 : Bool) (x47 : Int) (x48 : Int) : St := ⟨95, lookA [(2, .box 0 0), (3, .box 1 0), (5, .own 2), (9, .dat .bool x9), (47, .dat (.int .i64) x47), (48, .dat (.int .i64) x48)], Go.V.look [(0, .cells [.dat (.int .i64) x2_0, .dat (.int .i64) x2_1]), (1, .cells [.dat (.list (.int .i64)) x3_0]), (2, .flat 4 .bool x5)]⟩
def p106_2 : List Bool := [true, true, true, false, true, false, false, true, false, true, true, false]
noncomputable def n106_3 (x2_0 : Int) (x2_1 : Int) (x3_0 : List Int) (x5 : List Bool) (x9 : Bool) (x10 : Int) (x11 : List Int) (x12 : Int) (x13 : Bool) (x14 : Int) (x47 : Int) (x48 : Int) : St := ⟨95, lookA [(2, .box 0 0), (3, .box 1 0), (5, .own 2), (9, .dat .bool x9), (10, .dat (.int .i64) x10), (11, .own 3), (12, .dat (.int .i64) x12), (13, .dat .bool x13), (14, .dat (.int .i64) x14), (47, .dat (.int .i64) x47), (48, .dat (.int .i64) x48)], Go.V.look [(0, .cells [.dat (.int .i64) x2_0, .dat (.int .i64) x2_1]), (1, .cells [.dat (.list (.int .i64)) x3_0]), (2, .flat 4 .bool x5), (3, .flat 2 (.int .i64) x11)]⟩
def p106_3 : List Bool := [true, true, true, false, true, false, false, true, false, true, true, false, false, true, true, false, false, true, true, true, true, false, true, false]
theorem r106_3 (k : Nat) (R1 : St → Option ((List Bool))) (R2 : St → Option ((List Bool))) (rec : St → Option ((List Bool))) (v : Int × Int × (List Int) × (List Bool) × Bool × Int × (List Int) × Int × Bool × Int × Int × Int) : roundF (E106 k) (S106 k) Try.f106 p106_3 [R1, R2] rec (n106_3 v.1 v.2.1 v.2.2.1 v.2.2.2.1 v.2.2.2.2.1 v.2.2.2.2.2.1 v.2.2.2.2.2.2.1 v.2.2.2.2.2.2.2.1 v.2.2.2.2.2.2.2.2.1 v.2.2.2.2.2.2.2.2.2.1 v.2.2.2.2.2.2.2.2.2.2.1 v.2.2.2.2.2.2.2.2.2.2.2) = spec_l09Safe.s3 k (fun a0 a1 a2 a3 a4 a5 a6 => R2 (n106_2 a0 a1 a2 a3 a4 a5 a6)) (fun a0 a1 a2 a3 a4 a5 a6 a7 a8 a9 a10 a11 => rec (n106_3 a0 a1 a2 a3 a4 a5 a6 a7 a8 a9 a10 a11)) v.1 v.2.1 v.2.2.1 v.2.2.2.1 v.2.2.2.2.1 v.2.2.2.2.2.1 v.2.2.2.2.2.2.1 v.2.2.2.2.2.2.2.1 v.2.2.2.2.2.2.2.2.1 v.2.2.2.2.2.2.2.2.2.1 v.2.2.2.2.2.2.2.2.2.2.1 v.2.2.2.2.2.2.2.2.2.2.2 := by
  kernel_rfl
theorem q106_3 (k : Nat) (R1 : St → Option ((List Bool))) (R2 : St → Option ((List Bool))) (n : Nat) : ∀ v : Int × Int × (List Int) × (List Bool) × Bool × Int × (List Int) × Int × Bool × Int × Int × Int, loopF (E106 k) (S106 k) Try.f106 p106_3 [R1, R2] n (n106_3 v.1 v.2.1 v.2.2.1 v.2.2.2.1 v.2.2.2.2.1 v.2.2.2.2.2.1 v.2.2.2.2.2.2.1 v.2.2.2.2.2.2.2.1 v.2.2.2.2.2.2.2.2.1 v.2.2.2.2.2.2.2.2.2.1 v.2.2.2.2.2.2.2.2.2.2.1 v.2.2.2.2.2.2.2.2.2.2.2) = spec_l09Safe.l3 k (fun a0 a1 a2 a3 a4 => R1 (n106_1 a0 a1 a2 a3 a4)) (fun a0 a1 a2 a3 a4 a5 a6 => R2 (n106_2 a0 a1 a2 a3 a4 a5 a6)) n v.1 v.2.1 v.2.2.1 v.2.2.2.1 v.2.2.2.2.1 v.2.2.2.2.2.1 v.2.2.2.2.2.2.1 v.2.2.2.2.2.2.2.1 v.2.2.2.2.2.2.2.2.1 v.2.2.2.2.2.2.2.2.2.1 v.2.2.2.2.2.2.2.2.2.2.1 v.2.2.2.2.2.2.2.2.2.2.2 :=
  loopF_eq (E106 k) (S106 k) Try.f106 p106_3 [R1, R2] (fun v : Int × Int × (List Int) × (List Bool) × Bool × Int × (List Int) × Int × Bool × Int × Int × Int => n106_3 v.1 v.2.1 v.2.2.1 v.2.2.2.1 v.2.2.2.2.1 v.2.2.2.2.2.1 v.2.2.2.2.2.2.1 v.2.2.2.2.2.2.2.1 v.2.2.2.2.2.2.2.2.1 v.2.2.2.2.2.2.2.2.2.1 v.2.2.2.2.2.2.2.2.2.2.1 v.2.2.2.2.2.2.2.2.2.2.2) (fun rec v => spec_l09Safe.s3 k (fun a0 a1 a2 a3 a4 a5 a6 => R2 (n106_2 a0 a1 a2 a3 a4 a5 a6)) (fun a0 a1 a2 a3 a4 a5 a6 a7 a8 a9 a10 a11 => rec (a0, a1, a2, a3, a4, a5, a6, a7, a8, a9, a10, a11)) v.1 v.2.1 v.2.2.1 v.2.2.2.1 v.2.2.2.2.1 v.2.2.2.2.2.1 v.2.2.2.2.2.2.1 v.2.2.2.2.2.2.2.1 v.2.2.2.2.2.2.2.2.1 v.2.2.2.2.2.2.2.2.2.1 v.2.2.2.2.2.2.2.2.2.2.1 v.2.2.2.2.2.2.2.2.2.2.2) (fun n v => spec_l09Safe.l3 k (fun a0 a1 a2 a3 a4 => R1 (n106_1 a0 a1 a2 a3 a4)) (fun a0 a1 a2 a3 a4 a5 a6 => R2 (n106_2 a0 a1 a2 a3 a4 a5 a6)) n v.1 v.2.1 v.2.2.1 v.2.2.2.1 v.2.2.2.2.1 v.2.2.2.2.2.1 v.2.2.2.2.2.2.1 v.2.2.2.2.2.2.2.1 v.2.2.2.2.2.2.2.2.1 v.2.2.2.2.2.2.2.2.2.1 v.2.2.2.2.2.2.2.2.2.2.1 v.2.2.2.2.2.2.2.2.2.2.2) (fun _ => rfl) (fun _ _ => rfl) (fun rec v => r106_3 k R1 R2 rec v) n
theorem r106_2 (k : Nat) (R1 : St → Option ((List Bool))) (rec : St → Option ((List Bool))) (G3 : Int → Int → (List Int) → (List Bool) → Bool → Int → (List Int) → Int → Bool → Int → Int → Int → Option ((List Bool))) (h3 : ∀ a0 a1 a2 a3 a4 a5 a6 a7 a8 a9 a10 a11, loopF (E106 k) (S106 k) Try.f106 p106_3 [R1, rec] k (n106_3 a0 a1 a2 a3 a4 a5 a6 a7 a8 a9 a10 a11) = G3 a0 a1 a2 a3 a4 a5 a6 a7 a8 a9 a10 a11) (v : Int × Int × (List Int) × (List Bool) × Bool × Int × Int) : roundF (E106 k) (S106 k) Try.f106 p106_2 [R1] rec (n106_2 v.1 v.2.1 v.2.2.1 v.2.2.2.1 v.2.2.2.2.1 v.2.2.2.2.2.1 v.2.2.2.2.2.2) = spec_l09Safe.s2 k (fun a0 a1 a2 a3 a4 => R1 (n106_1 a0 a1 a2 a3 a4)) (fun a0 a1 a2 a3 a4 a5 a6 => rec (n106_2 a0 a1 a2 a3 a4 a5 a6)) G3 v.1 v.2.1 v.2.2.1 v.2.2.2.1 v.2.2.2.2.1 v.2.2.2.2.2.1 v.2.2.2.2.2.2 := by
  obtain rfl : (fun a0 a1 a2 a3 a4 a5 a6 a7 a8 a9 a10 a11 => loopF (E106 k) (S106 k) Try.f106 p106_3 [R1, rec] k (n106_3 a0 a1 a2 a3 a4 a5 a6 a7 a8 a9 a10 a11)) = G3 := funext fun a0 => funext fun a1 => funext fun a2 => funext fun a3 => funext fun a4 => funext fun a5 => funext fun a6 => funext fun a7 => funext fun a8 => funext fun a9 => funext fun a10 => funext fun a11 => h3 a0 a1 a2 a3 a4 a5 a6 a7 a8 a9 a10 a11
  kernel_rfl
theorem q106_2 (k : Nat) (R1 : St → Option ((List Bool))) (n : Nat) : ∀ v : Int × Int × (List Int) × (List Bool) × Bool × Int × Int, loopF (E106 k) (S106 k) Try.f106 p106_2 [R1] n (n106_2 v.1 v.2.1 v.2.2.1 v.2.2.2.1 v.2.2.2.2.1 v.2.2.2.2.2.1 v.2.2.2.2.2.2) = spec_l09Safe.l2 k (fun a0 a1 a2 a3 a4 => R1 (n106_1 a0 a1 a2 a3 a4)) n v.1 v.2.1 v.2.2.1 v.2.2.2.1 v.2.2.2.2.1 v.2.2.2.2.2.1 v.2.2.2.2.2.2 :=
  loopF_eq (E106 k) (S106 k) Try.f106 p106_2 [R1] (fun v : Int × Int × (List Int) × (List Bool) × Bool × Int × Int => n106_2 v.1 v.2.1 v.2.2.1 v.2.2.2.1 v.2.2.2.2.1 v.2.2.2.2.2.1 v.2.2.2.2.2.2) (fun rec v => spec_l09Safe.s2 k (fun a0 a1 a2 a3 a4 => R1 (n106_1 a0 a1 a2 a3 a4)) (fun a0 a1 a2 a3 a4 a5 a6 => rec (a0, a1, a2, a3, a4, a5, a6)) (spec_l09Safe.l3 k (fun a0 a1 a2 a3 a4 => R1 (n106_1 a0 a1 a2 a3 a4)) (fun a0 a1 a2 a3 a4 a5 a6 => rec (a0, a1, a2, a3, a4, a5, a6)) k) v.1 v.2.1 v.2.2.1 v.2.2.2.1 v.2.2.2.2.1 v.2.2.2.2.2.1 v.2.2.2.2.2.2) (fun n v => spec_l09Safe.l2 k (fun a0 a1 a2 a3 a4 => R1 (n106_1 a0 a1 a2 a3 a4)) n v.1 v.2.1 v.2.2.1 v.2.2.2.1 v.2.2.2.2.1 v.2.2.2.2.2.1 v.2.2.2.2.2.2) (fun _ => rfl) (fun _ _ => rfl) (fun rec v => r106_2 k R1 rec _ (fun a0 a1 a2 a3 a4 a5 a6 a7 a8 a9 a10 a11 => q106_3 k R1 rec k (a0, a1, a2, a3, a4, a5, a6, a7, a8, a9, a10, a11)) v) n
theorem r106_1 (k : Nat) (rec : St → Option ((List Bool))) (G2 : Int → Int → (List Int) → (List Bool) → Bool → Int → Int → Option ((List Bool))) (h2 : ∀ a0 a1 a2 a3 a4 a5 a6, loopF (E106 k) (S106 k) Try.f106 p106_2 [rec] k (n106_2 a0 a1 a2 a3 a4 a5 a6) = G2 a0 a1 a2 a3 a4 a5 a6) (v : Int × Int × (List Int) × (List Bool) × Bool) : roundF (E106 k) (S106 k) Try.f106 p106_1 [] rec (n106_1 v.1 v.2.1 v.2.2.1 v.2.2.2.1 v.2.2.2.2) = spec_l09Safe.s1 k (fun a0 a1 a2 a3 a4 => rec (n106_1 a0 a1 a2 a3 a4)) G2 v.1 v.2.1 v.2.2.1 v.2.2.2.1 v.2.2.2.2 := by
  obtain rfl : (fun a0 a1 a2 a3 a4 a5 a6 => loopF (E106 k) (S106 k) Try.f106 p106_2 [rec] k (n106_2 a0 a1 a2 a3 a4 a5 a6)) = G2 := funext fun a0 => funext fun a1 => funext fun a2 => funext fun a3 => funext fun a4 => funext fun a5 => funext fun a6 => h2 a0 a1 a2 a3 a4 a5 a6
  kernel_rfl
theorem q106_1 (k : Nat) (n : Nat) : ∀ v : Int × Int × (List Int) × (List Bool) × Bool, loopF (E106 k) (S106 k) Try.f106 p106_1 [] n (n106_1 v.1 v.2.1 v.2.2.1 v.2.2.2.1 v.2.2.2.2) = spec_l09Safe.l1 k n v.1 v.2.1 v.2.2.1 v.2.2.2.1 v.2.2.2.2 :=
  loopF_eq (E106 k) (S106 k) Try.f106 p106_1 [] (fun v : Int × Int × (List Int) × (List Bool) × Bool => n106_1 v.1 v.2.1 v.2.2.1 v.2.2.2.1 v.2.2.2.2) (fun rec v => spec_l09Safe.s1 k (fun a0 a1 a2 a3 a4 => rec (a0, a1, a2, a3, a4)) (spec_l09Safe.l2 k (fun a0 a1 a2 a3 a4 => rec (a0, a1, a2, a3, a4)) k) v.1 v.2.1 v.2.2.1 v.2.2.2.1 v.2.2.2.2) (fun n v => spec_l09Safe.l1 k n v.1 v.2.1 v.2.2.1 v.2.2.2.1 v.2.2.2.2) (fun _ => rfl) (fun _ _ => rfl) (fun rec v => r106_1 k rec _ (fun a0 a1 a2 a3 a4 a5 a6 => q106_2 k rec k (a0, a1, a2, a3, a4, a5, a6)) v) n
theorem r106_0 (k : Nat) (rec : St → Option ((List Bool))) (G1 : Int → Int → (List Int) → (List Bool) → Bool → Option ((List Bool))) (h1 : ∀ a0 a1 a2 a3 a4, loopF (E106 k) (S106 k) Try.f106 p106_1 [] k (n106_1 a0 a1 a2 a3 a4) = G1 a0 a1 a2 a3 a4) (v : Int × Int × (List Int) × (List Bool) × Int × Int) : roundF (E106 k) (S106 k) Try.f106 p106_0 [] rec (n106_0 v.1 v.2.1 v.2.2.1 v.2.2.2.1 v.2.2.2.2.1 v.2.2.2.2.2) = spec_l09Safe.s0 k (fun a0 a1 a2 a3 a4 a5 => rec (n106_0 a0 a1 a2 a3 a4 a5)) G1 v.1 v.2.1 v.2.2.1 v.2.2.2.1 v.2.2.2.2.1 v.2.2.2.2.2 := by
  obtain rfl : (fun a0 a1 a2 a3 a4 => loopF (E106 k) (S106 k) Try.f106 p106_1 [] k (n106_1 a0 a1 a2 a3 a4)) = G1 := funext fun a0 => funext fun a1 => funext fun a2 => funext fun a3 => funext fun a4 => h1 a0 a1 a2 a3 a4
  kernel_rfl
theorem q106_0 (k : Nat) (n : Nat) : ∀ v : Int × Int × (List Int) × (List Bool) × Int × Int, loopF (E106 k) (S106 k) Try.f106 p106_0 [] n (n106_0 v.1 v.2.1 v.2.2.1 v.2.2.2.1 v.2.2.2.2.1 v.2.2.2.2.2) = spec_l09Safe.l0 k n v.1 v.2.1 v.2.2.1 v.2.2.2.1 v.2.2.2.2.1 v.2.2.2.2.2 :=
  loopF_eq (E106 k) (S106 k) Try.f106 p106_0 [] (fun v : Int × Int × (List Int) × (List Bool) × Int × Int => n106_0 v.1 v.2.1 v.2.2.1 v.2.2.2.1 v.2.2.2.2.1 v.2.2.2.2.2) (fun rec v => spec_l09Safe.s0 k (fun a0 a1 a2 a3 a4 a5 => rec (a0, a1, a2, a3, a4, a5)) (spec_l09Safe.l1 k k) v.1 v.2.1 v.2.2.1 v.2.2.2.1 v.2.2.2.2.1 v.2.2.2.2.2) (fun n v => spec_l09Safe.l0 k n v.1 v.2.1 v.2.2.1 v.2.2.2.1 v.2.2.2.2.1 v.2.2.2.2.2) (fun _ => rfl) (fun _ _ => rfl) (fun rec v => r106_0 k rec _ (fun a0 a1 a2 a3 a4 => q106_1 k k (a0, a1, a2, a3, a4)) v) n
theorem e106 (k : Nat) (x : dens (flatC (S106 k).ps)) : funK (E106 k) (S106 k) Try.f106 x = (S106 k).fn x := by
  have h : funK (E106 k) (S106 k) Try.f106 x = spec_l09Safe.g k (fun a0 a1 a2 a3 a4 a5 => loopF (E106 k) (S106 k) Try.f106 p106_0 [] k (n106_0 a0 a1 a2 a3 a4 a5)) x.1 x.2.1 x.2.2 := by kernel_rfl
  rw [h]
  rw [show (fun a0 a1 a2 a3 a4 a5 => loopF (E106 k) (S106 k) Try.f106 p106_0 [] k (n106_0 a0 a1 a2 a3 a4 a5)) = spec_l09Safe.l0 k k from funext fun a0 => funext fun a1 => funext fun a2 => funext fun a3 => funext fun a4 => funext fun a5 => q106_0 k k (a0, a1, a2, a3, a4, a5)]
  rfl
theorem M106 (k : Nat) : Meets Try.prog 106 (S106 k) := meets_of Try.func106 (by kernel_rfl) tbOk (orc_cons (M103 k) (orc_cons (M183 k) (orc_cons (M177 k) (orc_cons (M184 k) orc_nil)))) mixOk (fun x y h => (e106 k x).trans h) rfl

/-! spec_l09Begin: function 105 -/
noncomputable def spec_l09Begin.s0 (k : Nat) (r0 : (List Bool) → Int → Int → (List Int) → Int → Option (Int)) (x2 : List Bool) (x3_0 : Int) (x3_1 : Int) (x4_0 : List Int) (x7 : Int) : Option (Int) := if x7 < x3_0 then ((spec_l09Number.f k x4_0 x4_0 x7).bind fun t1 => if 0 ≤ t1 then (if t1 < (x2.length : Int) then (if (rdOf false x2 t1) = true then (some t1) else (r0 x2 x3_0 x3_1 x4_0 (wrap64 (x7 + 1)))) else (none)) else (none)) else (some (-1))
noncomputable def spec_l09Begin.l0 (k : Nat) : Nat → (List Bool) → Int → Int → (List Int) → Int → Option (Int)
  | 0, _, _, _, _, _ => none
  | n + 1, x0, x1, x2, x3, x4 => spec_l09Begin.s0 k (spec_l09Begin.l0 k n) x0 x1 x2 x3 x4
noncomputable def spec_l09Begin.g (k : Nat) (r0 : (List Bool) → Int → Int → (List Int) → Int → Option (Int)) (a0_0 : Int) (a0_1 : Int) (l1_0 : List Int) (l2 : List Bool) : Option (Int) := r0 l2 a0_0 a0_1 l1_0 0
noncomputable def spec_l09Begin.f (k : Nat) (a0_0 : Int) (a0_1 : Int) (l1_0 : List Int) (l2 : List Bool) : Option (Int) := spec_l09Begin.g k (spec_l09Begin.l0 k k) a0_0 a0_1 l1_0 l2
noncomputable def S105 (k : Nat) : Does := ⟨[(true, [.dat (.int .i64), .dat (.int .i64)]), (true, [.dat (.list (.int .i64))]), (false, [.dat (.list .bool)])], [(false, [.dat (.int .i64)])], fun x => spec_l09Begin.f k x.1 x.2.1 x.2.2.1 x.2.2.2⟩
noncomputable def E105 (k : Nat) : En := ⟨tb, orcOf [(208, S208 k)], lvOf [(0, [(2, []), (3, []), (4, []), (7, [])])], k, 0, lvOf [], []⟩
noncomputable def n105_0 (x2 : List Bool) (x3_0 : Int) (x3_1 : Int) (x4_0 : List Int) (x7 : Int) : St := ⟨25, lookA [(2, .dat (.list .bool) x2), (3, .box 0 0), (4, .box 1 0), (7, .dat (.int .i64) x7)], Go.V.look [(0, .cells [.dat (.int .i64) x3_0, .dat (.int .i64) x3_1]), (1, .cells [.dat (.list (.int .i64)) x4_0])]⟩
def p105_0 : List Bool := [true, false, true, false]
theorem r105_0 (k : Nat) (rec : St → Option (Int)) (v : (List Bool) × Int × Int × (List Int) × Int) : roundF (E105 k) (S105 k) Try.f105 p105_0 [] rec (n105_0 v.1 v.2.1 v.2.2.1 v.2.2.2.1 v.2.2.2.2) = spec_l09Begin.s0 k (fun a0 a1 a2 a3 a4 => rec (n105_0 a0 a1 a2 a3 a4)) v.1 v.2.1 v.2.2.1 v.2.2.2.1 v.2.2.2.2 := by
  kernel_rfl
theorem q105_0 (k : Nat) (n : Nat) : ∀ v : (List Bool) × Int × Int × (List Int) × Int, loopF (E105 k) (S105 k) Try.f105 p105_0 [] n (n105_0 v.1 v.2.1 v.2.2.1 v.2.2.2.1 v.2.2.2.2) = spec_l09Begin.l0 k n v.1 v.2.1 v.2.2.1 v.2.2.2.1 v.2.2.2.2 :=
  loopF_eq (E105 k) (S105 k) Try.f105 p105_0 [] (fun v : (List Bool) × Int × Int × (List Int) × Int => n105_0 v.1 v.2.1 v.2.2.1 v.2.2.2.1 v.2.2.2.2) (fun rec v => spec_l09Begin.s0 k (fun a0 a1 a2 a3 a4 => rec (a0, a1, a2, a3, a4)) v.1 v.2.1 v.2.2.1 v.2.2.2.1 v.2.2.2.2) (fun n v => spec_l09Begin.l0 k n v.1 v.2.1 v.2.2.1 v.2.2.2.1 v.2.2.2.2) (fun _ => rfl) (fun _ _ => rfl) (fun rec v => r105_0 k rec v) n
theorem e105 (k : Nat) (x : dens (flatC (S105 k).ps)) : funK (E105 k) (S105 k) Try.f105 x = (S105 k).fn x := by
  have h : funK (E105 k) (S105 k) Try.f105 x = spec_l09Begin.g k (fun a0 a1 a2 a3 a4 => loopF (E105 k) (S105 k) Try.f105 p105_0 [] k (n105_0 a0 a1 a2 a3 a4)) x.1 x.2.1 x.2.2.1 x.2.2.2 := by kernel_rfl
  rw [h]
  rw [show (fun a0 a1 a2 a3 a4 => loopF (E105 k) (S105 k) Try.f105 p105_0 [] k (n105_0 a0 a1 a2 a3 a4)) = spec_l09Begin.l0 k k from funext fun a0 => funext fun a1 => funext fun a2 => funext fun a3 => funext fun a4 => q105_0 k k (a0, a1, a2, a3, a4)]
  rfl
theorem M105 (k : Nat) : Meets Try.prog 105 (S105 k) := meets_of Try.func105 (by kernel_rfl) tbOk (orc_cons (M208 k) orc_nil) mixOk (fun x y h => (e105 k x).trans h) rfl

/-! spec_LeastEqualGap: function 12 -/
noncomputable def spec_LeastEqualGap.s0 (k : Nat) (r0 : Int → Int → Int → Int → Option (Int × Int)) (x1 : Int) (x2_0 : Int) (x2_1 : Int) (x6 : Int) : Option (Int × Int) := if x6 ≤ x1 then ((spec_l09Equal.f k x2_0 x2_1 x6).bind fun t5 => (spec_l09Safe.f k x2_0 x2_1 t5).bind fun t6 => (spec_l09Begin.f k x2_0 x2_1 t5 t6).bind fun t7 => if 0 ≤ t7 then (some (x6, 0)) else (r0 x1 x2_0 x2_1 (wrap64 (x6 + 1)))) else (some (0, 4))
noncomputable def spec_LeastEqualGap.l0 (k : Nat) : Nat → Int → Int → Int → Int → Option (Int × Int)
  | 0, _, _, _, _ => none
  | n + 1, x0, x1, x2, x3 => spec_LeastEqualGap.s0 k (spec_LeastEqualGap.l0 k n) x0 x1 x2 x3
noncomputable def spec_LeastEqualGap.g (k : Nat) (r0 : Int → Int → Int → Int → Option (Int × Int)) (a0_0 : Int) (a0_1 : Int) (a1 : Int) : Option (Int × Int) := (spec_l09Is.f a0_0 a0_1).bind fun t1 => if (!decide (t1 = true)) = true then (some (0, 1)) else ((spec_l01In.f a1 1 10).bind fun t2 => if (!decide (t2 = true)) = true then (some (0, 2)) else ((spec_l09Equal.f k a0_0 a0_1 a1).bind fun t3 => (spec_l09Size.f k a0_0 a0_1 t3).bind fun t4 => if 20000 < t4 then (some (0, 3)) else (r0 a1 a0_0 a0_1 1)))
noncomputable def spec_LeastEqualGap.f (k : Nat) (a0_0 : Int) (a0_1 : Int) (a1 : Int) : Option (Int × Int) := spec_LeastEqualGap.g k (spec_LeastEqualGap.l0 k k) a0_0 a0_1 a1
noncomputable def S12 (k : Nat) : Does := ⟨[(true, [.dat (.int .i64), .dat (.int .i64)]), (false, [.dat (.int .i64)])], [(false, [.dat (.int .i64)]), (false, [.dat (.int .i64)])], fun x => spec_LeastEqualGap.f k x.1 x.2.1 x.2.2⟩
noncomputable def E12 (k : Nat) : En := ⟨tb, orcOf [(101, S101 k), (102, S102 k), (104, S104 k), (103, S103 k), (106, S106 k), (105, S105 k)], lvOf [(1, [(1, []), (2, []), (6, [])])], k, 0, lvOf [], []⟩
noncomputable def n12_0 (x1 : Int) (x2_0 : Int) (x2_1 : Int) (x6 : Int) : St := ⟨38, lookA [(1, .dat (.int .i64) x1), (2, .box 0 0), (6, .dat (.int .i64) x6)], Go.V.look [(0, .cells [.dat (.int .i64) x2_0, .dat (.int .i64) x2_1])]⟩
def p12_0 : List Bool := [true, true, true, false, true, false]
theorem r12_0 (k : Nat) (rec : St → Option (Int × Int)) (v : Int × Int × Int × Int) : roundF (E12 k) (S12 k) Try.f12 p12_0 [] rec (n12_0 v.1 v.2.1 v.2.2.1 v.2.2.2) = spec_LeastEqualGap.s0 k (fun a0 a1 a2 a3 => rec (n12_0 a0 a1 a2 a3)) v.1 v.2.1 v.2.2.1 v.2.2.2 := by
  kernel_rfl
theorem q12_0 (k : Nat) (n : Nat) : ∀ v : Int × Int × Int × Int, loopF (E12 k) (S12 k) Try.f12 p12_0 [] n (n12_0 v.1 v.2.1 v.2.2.1 v.2.2.2) = spec_LeastEqualGap.l0 k n v.1 v.2.1 v.2.2.1 v.2.2.2 :=
  loopF_eq (E12 k) (S12 k) Try.f12 p12_0 [] (fun v : Int × Int × Int × Int => n12_0 v.1 v.2.1 v.2.2.1 v.2.2.2) (fun rec v => spec_LeastEqualGap.s0 k (fun a0 a1 a2 a3 => rec (a0, a1, a2, a3)) v.1 v.2.1 v.2.2.1 v.2.2.2) (fun n v => spec_LeastEqualGap.l0 k n v.1 v.2.1 v.2.2.1 v.2.2.2) (fun _ => rfl) (fun _ _ => rfl) (fun rec v => r12_0 k rec v) n
theorem e12 (k : Nat) (x : dens (flatC (S12 k).ps)) : funK (E12 k) (S12 k) Try.f12 x = (S12 k).fn x := by
  have h : funK (E12 k) (S12 k) Try.f12 x = spec_LeastEqualGap.g k (fun a0 a1 a2 a3 => loopF (E12 k) (S12 k) Try.f12 p12_0 [] k (n12_0 a0 a1 a2 a3)) x.1 x.2.1 x.2.2 := by kernel_rfl
  rw [h]
  rw [show (fun a0 a1 a2 a3 => loopF (E12 k) (S12 k) Try.f12 p12_0 [] k (n12_0 a0 a1 a2 a3)) = spec_LeastEqualGap.l0 k k from funext fun a0 => funext fun a1 => funext fun a2 => funext fun a3 => q12_0 k k (a0, a1, a2, a3)]
  rfl
theorem M12 (k : Nat) : Meets Try.prog 12 (S12 k) := meets_of Try.func12 (by kernel_rfl) tbOk (orc_cons (M101 k) (orc_cons (M102 k) (orc_cons (M104 k) (orc_cons (M103 k) (orc_cons (M106 k) (orc_cons (M105 k) orc_nil)))))) mixOk (fun x y h => (e12 k x).trans h) rfl

/-! spec_ShortestRound: function 72 -/
noncomputable def spec_ShortestRound.s5 (k : Nat) (r5 : Int → (List Int) → (List (List Int)) → Int → Int → Int → Option (Int × Int)) (x4 : Int) (x5 : List Int) (x7 : List (List Int)) (x14 : Int) (x15 : Int) (x16 : Int) : Option (Int × Int) := if x16 < x4 then (if 0 ≤ (wrap64 (x15 + x16)) then (if (wrap64 (x15 + x16)) < (x5.length : Int) then (if 0 ≤ (rd x5 (wrap64 (x15 + x16))) then (if x14 < 0 then (if 0 ≤ x16 then (if x16 < (x7.length : Int) then (if 0 < ((rdOf ([] : List Int) x7 x16).length : Int) then (r5 x4 x5 x7 (wrap64 ((rd x5 (wrap64 (x15 + x16))) + (rd (rdOf ([] : List Int) x7 x16) 0))) x15 (wrap64 (x16 + 1))) else (none)) else (none)) else (none)) else (if 0 ≤ x16 then (if x16 < (x7.length : Int) then (if 0 < ((rdOf ([] : List Int) x7 x16).length : Int) then (if (wrap64 ((rd x5 (wrap64 (x15 + x16))) + (rd (rdOf ([] : List Int) x7 x16) 0))) < x14 then (if 0 ≤ x16 then (if x16 < (x7.length : Int) then (if 0 < ((rdOf ([] : List Int) x7 x16).length : Int) then (r5 x4 x5 x7 (wrap64 ((rd x5 (wrap64 (x15 + x16))) + (rd (rdOf ([] : List Int) x7 x16) 0))) x15 (wrap64 (x16 + 1))) else (none)) else (none)) else (none)) else (r5 x4 x5 x7 x14 x15 (wrap64 (x16 + 1)))) else (none)) else (none)) else (none))) else (r5 x4 x5 x7 x14 x15 (wrap64 (x16 + 1)))) else (none)) else (none)) else (if x14 < 0 then (some (0, 4)) else (some (x14, 0)))
noncomputable def spec_ShortestRound.l5 (k : Nat) : Nat → Int → (List Int) → (List (List Int)) → Int → Int → Int → Option (Int × Int)
  | 0, _, _, _, _, _, _ => none
  | n + 1, x0, x1, x2, x3, x4, x5 => spec_ShortestRound.s5 k (spec_ShortestRound.l5 k n) x0 x1 x2 x3 x4 x5
noncomputable def spec_ShortestRound.s4 (k : Nat) (r3 : Int → (List Int) → (List (List Int)) → Int → Int → Option (Int × Int)) (r4 : Int → (List Int) → (List (List Int)) → Int → Int → Int → Int → Option (Int × Int)) (x4 : Int) (x5 : List Int) (x7 : List (List Int)) (x9 : Int) (x10 : Int) (x11 : Int) (x12 : Int) : Option (Int × Int) := if x12 < x4 then (if (IntKind.wrap .u64 (x12)) < 0 then (none) else (if (IntKind.wrap .u64 (x12)) < 0 then (none) else (if (andV .i64 (shrV .i64 x9 (IntKind.wrap .u64 (x12))) 1) = 0 then (if 0 ≤ x10 then (if x10 < (x7.length : Int) then (if 0 ≤ x12 then (if x12 < ((rdOf ([] : List Int) x7 x10).length : Int) then (if 0 ≤ (rd (rdOf ([] : List Int) x7 x10) x12) then (if 0 ≤ (wrap64 ((wrap64 ((orV .i64 x9 (shlV .i64 1 (IntKind.wrap .u64 (x12)))) * x4)) + x12)) then (if (wrap64 ((wrap64 ((orV .i64 x9 (shlV .i64 1 (IntKind.wrap .u64 (x12)))) * x4)) + x12)) < (x5.length : Int) then (if (rd x5 (wrap64 ((wrap64 ((orV .i64 x9 (shlV .i64 1 (IntKind.wrap .u64 (x12)))) * x4)) + x12))) < 0 then (if 0 ≤ x10 then (if x10 < (x7.length : Int) then (if 0 ≤ x12 then (if x12 < ((rdOf ([] : List Int) x7 x10).length : Int) then (if 0 ≤ (wrap64 ((wrap64 ((orV .i64 x9 (shlV .i64 1 (IntKind.wrap .u64 (x12)))) * x4)) + x12)) then (if (wrap64 ((wrap64 ((orV .i64 x9 (shlV .i64 1 (IntKind.wrap .u64 (x12)))) * x4)) + x12)) < (x5.length : Int) then (r4 x4 (x5.set (wrap64 ((wrap64 ((orV .i64 x9 (shlV .i64 1 (IntKind.wrap .u64 (x12)))) * x4)) + x12)).toNat (wrap64 (x11 + (rd (rdOf ([] : List Int) x7 x10) x12)))) x7 x9 x10 x11 (wrap64 (x12 + 1))) else (none)) else (none)) else (none)) else (none)) else (none)) else (none)) else (if 0 ≤ x10 then (if x10 < (x7.length : Int) then (if 0 ≤ x12 then (if x12 < ((rdOf ([] : List Int) x7 x10).length : Int) then (if 0 ≤ (wrap64 ((wrap64 ((orV .i64 x9 (shlV .i64 1 (IntKind.wrap .u64 (x12)))) * x4)) + x12)) then (if (wrap64 ((wrap64 ((orV .i64 x9 (shlV .i64 1 (IntKind.wrap .u64 (x12)))) * x4)) + x12)) < (x5.length : Int) then (if (wrap64 (x11 + (rd (rdOf ([] : List Int) x7 x10) x12))) < (rd x5 (wrap64 ((wrap64 ((orV .i64 x9 (shlV .i64 1 (IntKind.wrap .u64 (x12)))) * x4)) + x12))) then (if 0 ≤ x10 then (if x10 < (x7.length : Int) then (if 0 ≤ x12 then (if x12 < ((rdOf ([] : List Int) x7 x10).length : Int) then (if 0 ≤ (wrap64 ((wrap64 ((orV .i64 x9 (shlV .i64 1 (IntKind.wrap .u64 (x12)))) * x4)) + x12)) then (if (wrap64 ((wrap64 ((orV .i64 x9 (shlV .i64 1 (IntKind.wrap .u64 (x12)))) * x4)) + x12)) < (x5.length : Int) then (r4 x4 (x5.set (wrap64 ((wrap64 ((orV .i64 x9 (shlV .i64 1 (IntKind.wrap .u64 (x12)))) * x4)) + x12)).toNat (wrap64 (x11 + (rd (rdOf ([] : List Int) x7 x10) x12)))) x7 x9 x10 x11 (wrap64 (x12 + 1))) else (none)) else (none)) else (none)) else (none)) else (none)) else (none)) else (r4 x4 x5 x7 x9 x10 x11 (wrap64 (x12 + 1)))) else (none)) else (none)) else (none)) else (none)) else (none)) else (none))) else (none)) else (none)) else (r4 x4 x5 x7 x9 x10 x11 (wrap64 (x12 + 1)))) else (none)) else (none)) else (none)) else (none)) else (r4 x4 x5 x7 x9 x10 x11 (wrap64 (x12 + 1)))))) else (r3 x4 x5 x7 x9 (wrap64 (x10 + 1)))
noncomputable def spec_ShortestRound.l4 (k : Nat) (r2 : Int → (List Int) → (List (List Int)) → Int → Option (Int × Int)) (r3 : Int → (List Int) → (List (List Int)) → Int → Int → Option (Int × Int)) : Nat → Int → (List Int) → (List (List Int)) → Int → Int → Int → Int → Option (Int × Int)
  | 0, _, _, _, _, _, _, _ => none
  | n + 1, x0, x1, x2, x3, x4, x5, x6 => spec_ShortestRound.s4 k r3 (spec_ShortestRound.l4 k r2 r3 n) x0 x1 x2 x3 x4 x5 x6
noncomputable def spec_ShortestRound.s3 (k : Nat) (r2 : Int → (List Int) → (List (List Int)) → Int → Option (Int × Int)) (r3 : Int → (List Int) → (List (List Int)) → Int → Int → Option (Int × Int)) (r4 : Int → (List Int) → (List (List Int)) → Int → Int → Int → Int → Option (Int × Int)) (x4 : Int) (x5 : List Int) (x7 : List (List Int)) (x9 : Int) (x10 : Int) : Option (Int × Int) := if x10 < x4 then (if 0 ≤ (wrap64 ((wrap64 (x9 * x4)) + x10)) then (if (wrap64 ((wrap64 (x9 * x4)) + x10)) < (x5.length : Int) then (if (rd x5 (wrap64 ((wrap64 (x9 * x4)) + x10))) < 0 then (r3 x4 x5 x7 x9 (wrap64 (x10 + 1))) else (r4 x4 x5 x7 x9 x10 (rd x5 (wrap64 ((wrap64 (x9 * x4)) + x10))) 0)) else (none)) else (none)) else (r2 x4 x5 x7 (wrap64 (x9 + 1)))
noncomputable def spec_ShortestRound.l3 (k : Nat) (r2 : Int → (List Int) → (List (List Int)) → Int → Option (Int × Int)) : Nat → Int → (List Int) → (List (List Int)) → Int → Int → Option (Int × Int)
  | 0, _, _, _, _, _ => none
  | n + 1, x0, x1, x2, x3, x4 => spec_ShortestRound.s3 k r2 (spec_ShortestRound.l3 k r2 n) (spec_ShortestRound.l4 k r2 (spec_ShortestRound.l3 k r2 n) k) x0 x1 x2 x3 x4
noncomputable def spec_ShortestRound.s2 (k : Nat) (r2 : Int → (List Int) → (List (List Int)) → Int → Option (Int × Int)) (r3 : Int → (List Int) → (List (List Int)) → Int → Int → Option (Int × Int)) (r5 : Int → (List Int) → (List (List Int)) → Int → Int → Int → Option (Int × Int)) (x4 : Int) (x5 : List Int) (x7 : List (List Int)) (x9 : Int) : Option (Int × Int) := if (IntKind.wrap .u64 (x4)) < 0 then (none) else (if x9 < (shlV .i64 1 (IntKind.wrap .u64 (x4))) then (r3 x4 x5 x7 x9 0) else (if (IntKind.wrap .u64 (x4)) < 0 then (none) else (r5 x4 x5 x7 (-1) (wrap64 ((wrap64 ((shlV .i64 1 (IntKind.wrap .u64 (x4))) - 1)) * x4)) 0)))
noncomputable def spec_ShortestRound.l2 (k : Nat) : Nat → Int → (List Int) → (List (List Int)) → Int → Option (Int × Int)
  | 0, _, _, _, _ => none
  | n + 1, x0, x1, x2, x3 => spec_ShortestRound.s2 k (spec_ShortestRound.l2 k n) (spec_ShortestRound.l3 k (spec_ShortestRound.l2 k n) k) (spec_ShortestRound.l5 k k) x0 x1 x2 x3
noncomputable def spec_ShortestRound.s1 (k : Nat) (r1 : Int → Int → Int → (List Int) → (List (List Int)) → Int → Option (Int × Int)) (r2 : Int → (List Int) → (List (List Int)) → Int → Option (Int × Int)) (x1_0 : Int) (x1_1 : Int) (x4 : Int) (x5 : List Int) (x7 : List (List Int)) (x8 : Int) : Option (Int × Int) := if x8 < x4 then ((spec_l09Distances.f k x1_0 x1_1 x8).bind fun t2 => if x7.length + 1 ≤ 1099511627776 then (r1 x1_0 x1_1 x4 x5 (x7 ++ [t2]) (wrap64 (x8 + 1))) else (none)) else (r2 x4 x5 x7 1)
noncomputable def spec_ShortestRound.l1 (k : Nat) : Nat → Int → Int → Int → (List Int) → (List (List Int)) → Int → Option (Int × Int)
  | 0, _, _, _, _, _, _ => none
  | n + 1, x0, x1, x2, x3, x4, x5 => spec_ShortestRound.s1 k (spec_ShortestRound.l1 k n) (spec_ShortestRound.l2 k k) x0 x1 x2 x3 x4 x5
noncomputable def spec_ShortestRound.s0 (k : Nat) (r0 : Int → Int → Int → (List Int) → Int → Int → Option (Int × Int)) (r1 : Int → Int → Int → (List Int) → (List (List Int)) → Int → Option (Int × Int)) (x1_0 : Int) (x1_1 : Int) (x4 : Int) (x5 : List Int) (x29 : Int) (x30 : Int) : Option (Int × Int) := if x30 < x29 then (if 0 ≤ x30 then (if x30 < (x5.length : Int) then (r0 x1_0 x1_1 x4 (x5.set x30.toNat (-1)) x29 (wrap64 (x30 + 1))) else (none)) else (none)) else (if 0 ≤ x4 then (if x4 < (x5.length : Int) then (r1 x1_0 x1_1 x4 (x5.set x4.toNat 0) [] 0) else (none)) else (none))
noncomputable def spec_ShortestRound.l0 (k : Nat) : Nat → Int → Int → Int → (List Int) → Int → Int → Option (Int × Int)
  | 0, _, _, _, _, _, _ => none
  | n + 1, x0, x1, x2, x3, x4, x5 => spec_ShortestRound.s0 k (spec_ShortestRound.l0 k n) (spec_ShortestRound.l1 k k) x0 x1 x2 x3 x4 x5
noncomputable def spec_ShortestRound.g (k : Nat) (r0 : Int → Int → Int → (List Int) → Int → Int → Option (Int × Int)) (a0_0 : Int) (a0_1 : Int) : Option (Int × Int) := (spec_l09Is.f a0_0 a0_1).bind fun t1 => if t1 = true then (if (IntKind.wrap .u64 (a0_0)) < 0 then (none) else (if 0 ≤ (shlV .i64 a0_0 (IntKind.wrap .u64 (a0_0))) then (if (shlV .i64 a0_0 (IntKind.wrap .u64 (a0_0))) ≤ (shlV .i64 a0_0 (IntKind.wrap .u64 (a0_0))) then (if (shlV .i64 a0_0 (IntKind.wrap .u64 (a0_0))).toNat ≤ 1099511627776 then (r0 a0_0 a0_1 a0_0 (List.replicate (shlV .i64 a0_0 (IntKind.wrap .u64 (a0_0))).toNat (0 : Int)) ((List.replicate (shlV .i64 a0_0 (IntKind.wrap .u64 (a0_0))).toNat (0 : Int)).length : Int) 0) else (none)) else (none)) else (none))) else (some (0, 1))
noncomputable def spec_ShortestRound.f (k : Nat) (a0_0 : Int) (a0_1 : Int) : Option (Int × Int) := spec_ShortestRound.g k (spec_ShortestRound.l0 k k) a0_0 a0_1
noncomputable def S72 (k : Nat) : Does := ⟨[(true, [.dat (.int .i64), .dat (.int .i64)])], [(false, [.dat (.int .i64)]), (false, [.dat (.int .i64)])], fun x => spec_ShortestRound.f k x.1 x.2⟩
noncomputable def E72 (k : Nat) : En := ⟨tb, orcOf [(101, S101 k), (174, S174 k)], lvOf [(0, [(1, []), (4, []), (5, []), (29, []), (30, [])]), (2, [(1, []), (4, []), (5, []), (7, []), (8, [])]), (4, [(4, []), (5, []), (7, []), (9, [])]), (6, [(4, []), (5, []), (7, []), (9, []), (10, [])]), (8, [(4, []), (5, []), (7, []), (9, []), (10, []), (11, []), (12, [])]), (10, [(4, []), (5, []), (7, []), (14, []), (15, []), (16, [])])], k, 0, lvOf [], []⟩
noncomputable def n72_0 (x1_0 : Int) (x1_1 : Int) (x4 : Int) (x5 : List Int) (x29 : Int) (x30 : Int) : St := ⟨189, lookA [(1, .box 0 0), (4, .dat (.int .i64) x4), (5, .own 1), (29, .dat (.int .i64) x29), (30, .dat (.int .i64) x30)], Go.V.look [(0, .cells [.dat (.int .i64) x1_0, .dat (.int .i64) x1_1]), (1, .flat 2 (.int .i64) x5)]⟩
def p72_0 : List Bool := [true, true, true, true, false, true, false]
noncomputable def n72_1 (x1_0 : Int) (x1_1 : Int) (x4 : Int) (x5 : List Int) (x7 : List (List Int)) (x8 : Int) : St := ⟨189, lookA [(1, .box 0 0), (4, .dat (.int .i64) x4), (5, .own 1), (7, .own 2), (8, .dat (.int .i64) x8)], Go.V.look [(0, .cells [.dat (.int .i64) x1_0, .dat (.int .i64) x1_1]), (1, .flat 2 (.int .i64) x5), (2, .flat 29 (.list (.int .i64)) x7)]⟩
def p72_1 : List Bool := [true, true, true, true, true, true, true, false, true, false]
noncomputable def n72_2 (x4 : Int) (x5 : List Int) (x7 : List (List Int)) (x9 : Int) : St := ⟨189, lookA [(4, .dat (.int .i64) x4), (5, .own 0), (7, .own 1), (9, .dat (.int .i64) x9)], Go.V.look [(0, .flat 2 (.int .i64) x5), (1, .flat 29 (.list (.int .i64)) x7)]⟩
def p72_2 : List Bool := [true, true, true, true, true, true, true, true, false, true, false]
noncomputable def n72_3 (x4 : Int) (x5 : List Int) (x7 : List (List Int)) (x9 : Int) (x10 : Int) : St := ⟨189, lookA [(4, .dat (.int .i64) x4), (5, .own 0), (7, .own 1), (9, .dat (.int .i64) x9), (10, .dat (.int .i64) x10)], Go.V.look [(0, .flat 2 (.int .i64) x5), (1, .flat 29 (.list (.int .i64)) x7)]⟩
def p72_3 : List Bool := [true, true, true, true, true, true, true, true, false, true, false, false, true, false, false, true, false]
noncomputable def n72_4 (x4 : Int) (x5 : List Int) (x7 : List (List Int)) (x9 : Int) (x10 : Int) (x11 : Int) (x12 : Int) : St := ⟨189, lookA [(4, .dat (.int .i64) x4), (5, .own 0), (7, .own 1), (9, .dat (.int .i64) x9), (10, .dat (.int .i64) x10), (11, .dat (.int .i64) x11), (12, .dat (.int .i64) x12)], Go.V.look [(0, .flat 2 (.int .i64) x5), (1, .flat 29 (.list (.int .i64)) x7)]⟩
def p72_4 : List Bool := [true, true, true, true, true, true, true, true, false, true, false, false, true, false, false, true, false, false, true, false, false, true, true, true, false]
noncomputable def n72_5 (x4 : Int) (x5 : List Int) (x7 : List (List Int)) (x14 : Int) (x15 : Int) (x16 : Int) : St := ⟨189, lookA [(4, .dat (.int .i64) x4), (5, .own 0), (7, .own 1), (14, .dat (.int .i64) x14), (15, .dat (.int .i64) x15), (16, .dat (.int .i64) x16)], Go.V.look [(0, .flat 2 (.int .i64) x5), (1, .flat 29 (.list (.int .i64)) x7)]⟩
def p72_5 : List Bool := [true, true, true, true, true, true, true, true, true, true, false, true, false]
theorem r72_5 (k : Nat) (rec : St → Option (Int × Int)) (v : Int × (List Int) × (List (List Int)) × Int × Int × Int) : roundF (E72 k) (S72 k) Try.f72 p72_5 [] rec (n72_5 v.1 v.2.1 v.2.2.1 v.2.2.2.1 v.2.2.2.2.1 v.2.2.2.2.2) = spec_ShortestRound.s5 k (fun a0 a1 a2 a3 a4 a5 => rec (n72_5 a0 a1 a2 a3 a4 a5)) v.1 v.2.1 v.2.2.1 v.2.2.2.1 v.2.2.2.2.1 v.2.2.2.2.2 := by
  kernel_rfl
theorem q72_5 (k : Nat) (n : Nat) : ∀ v : Int × (List Int) × (List (List Int)) × Int × Int × Int, loopF (E72 k) (S72 k) Try.f72 p72_5 [] n (n72_5 v.1 v.2.1 v.2.2.1 v.2.2.2.1 v.2.2.2.2.1 v.2.2.2.2.2) = spec_ShortestRound.l5 k n v.1 v.2.1 v.2.2.1 v.2.2.2.1 v.2.2.2.2.1 v.2.2.2.2.2 :=
  loopF_eq (E72 k) (S72 k) Try.f72 p72_5 [] (fun v : Int × (List Int) × (List (List Int)) × Int × Int × Int => n72_5 v.1 v.2.1 v.2.2.1 v.2.2.2.1 v.2.2.2.2.1 v.2.2.2.2.2) (fun rec v => spec_ShortestRound.s5 k (fun a0 a1 a2 a3 a4 a5 => rec (a0, a1, a2, a3, a4, a5)) v.1 v.2.1 v.2.2.1 v.2.2.2.1 v.2.2.2.2.1 v.2.2.2.2.2) (fun n v => spec_ShortestRound.l5 k n v.1 v.2.1 v.2.2.1 v.2.2.2.1 v.2.2.2.2.1 v.2.2.2.2.2) (fun _ => rfl) (fun _ _ => rfl) (fun rec v => r72_5 k rec v) n
theorem r72_4 (k : Nat) (R2 : St → Option (Int × Int)) (R3 : St → Option (Int × Int)) (rec : St → Option (Int × Int)) (v : Int × (List Int) × (List (List Int)) × Int × Int × Int × Int) : roundF (E72 k) (S72 k) Try.f72 p72_4 [R2, R3] rec (n72_4 v.1 v.2.1 v.2.2.1 v.2.2.2.1 v.2.2.2.2.1 v.2.2.2.2.2.1 v.2.2.2.2.2.2) = spec_ShortestRound.s4 k (fun a0 a1 a2 a3 a4 => R3 (n72_3 a0 a1 a2 a3 a4)) (fun a0 a1 a2 a3 a4 a5 a6 => rec (n72_4 a0 a1 a2 a3 a4 a5 a6)) v.1 v.2.1 v.2.2.1 v.2.2.2.1 v.2.2.2.2.1 v.2.2.2.2.2.1 v.2.2.2.2.2.2 := by
  kernel_rfl
theorem q72_4 (k : Nat) (R2 : St → Option (Int × Int)) (R3 : St → Option (Int × Int)) (n : Nat) : ∀ v : Int × (List Int) × (List (List Int)) × Int × Int × Int × Int, loopF (E72 k) (S72 k) Try.f72 p72_4 [R2, R3] n (n72_4 v.1 v.2.1 v.2.2.1 v.2.2.2.1 v.2.2.2.2.1 v.2.2.2.2.2.1 v.2.2.2.2.2.2) = spec_ShortestRound.l4 k (fun a0 a1 a2 a3 => R2 (n72_2 a0 a1 a2 a3)) (fun a0 a1 a2 a3 a4 => R3 (n72_3 a0 a1 a2 a3 a4)) n v.1 v.2.1 v.2.2.1 v.2.2.2.1 v.2.2.2.2.1 v.2.2.2.2.2.1 v.2.2.2.2.2.2 :=
  loopF_eq (E72 k) (S72 k) Try.f72 p72_4 [R2, R3] (fun v : Int × (List Int) × (List (List Int)) × Int × Int × Int × Int => n72_4 v.1 v.2.1 v.2.2.1 v.2.2.2.1 v.2.2.2.2.1 v.2.2.2.2.2.1 v.2.2.2.2.2.2) (fun rec v => spec_ShortestRound.s4 k (fun a0 a1 a2 a3 a4 => R3 (n72_3 a0 a1 a2 a3 a4)) (fun a0 a1 a2 a3 a4 a5 a6 => rec (a0, a1, a2, a3, a4, a5, a6)) v.1 v.2.1 v.2.2.1 v.2.2.2.1 v.2.2.2.2.1 v.2.2.2.2.2.1 v.2.2.2.2.2.2) (fun n v => spec_ShortestRound.l4 k (fun a0 a1 a2 a3 => R2 (n72_2 a0 a1 a2 a3)) (fun a0 a1 a2 a3 a4 => R3 (n72_3 a0 a1 a2 a3 a4)) n v.1 v.2.1 v.2.2.1 v.2.2.2.1 v.2.2.2.2.1 v.2.2.2.2.2.1 v.2.2.2.2.2.2) (fun _ => rfl) (fun _ _ => rfl) (fun rec v => r72_4 k R2 R3 rec v) n
theorem r72_3 (k : Nat) (R2 : St → Option (Int × Int)) (rec : St → Option (Int × Int)) (G4 : Int → (List Int) → (List (List Int)) → Int → Int → Int → Int → Option (Int × Int)) (h4 : ∀ a0 a1 a2 a3 a4 a5 a6, loopF (E72 k) (S72 k) Try.f72 p72_4 [R2, rec] k (n72_4 a0 a1 a2 a3 a4 a5 a6) = G4 a0 a1 a2 a3 a4 a5 a6) (v : Int × (List Int) × (List (List Int)) × Int × Int) : roundF (E72 k) (S72 k) Try.f72 p72_3 [R2] rec (n72_3 v.1 v.2.1 v.2.2.1 v.2.2.2.1 v.2.2.2.2) = spec_ShortestRound.s3 k (fun a0 a1 a2 a3 => R2 (n72_2 a0 a1 a2 a3)) (fun a0 a1 a2 a3 a4 => rec (n72_3 a0 a1 a2 a3 a4)) G4 v.1 v.2.1 v.2.2.1 v.2.2.2.1 v.2.2.2.2 := by
  obtain rfl : (fun a0 a1 a2 a3 a4 a5 a6 => loopF (E72 k) (S72 k) Try.f72 p72_4 [R2, rec] k (n72_4 a0 a1 a2 a3 a4 a5 a6)) = G4 := funext fun a0 => funext fun a1 => funext fun a2 => funext fun a3 => funext fun a4 => funext fun a5 => funext fun a6 => h4 a0 a1 a2 a3 a4 a5 a6
  kernel_rfl
theorem q72_3 (k : Nat) (R2 : St → Option (Int × Int)) (n : Nat) : ∀ v : Int × (List Int) × (List (List Int)) × Int × Int, loopF (E72 k) (S72 k) Try.f72 p72_3 [R2] n (n72_3 v.1 v.2.1 v.2.2.1 v.2.2.2.1 v.2.2.2.2) = spec_ShortestRound.l3 k (fun a0 a1 a2 a3 => R2 (n72_2 a0 a1 a2 a3)) n v.1 v.2.1 v.2.2.1 v.2.2.2.1 v.2.2.2.2 :=
  loopF_eq (E72 k) (S72 k) Try.f72 p72_3 [R2] (fun v : Int × (List Int) × (List (List Int)) × Int × Int => n72_3 v.1 v.2.1 v.2.2.1 v.2.2.2.1 v.2.2.2.2) (fun rec v => spec_ShortestRound.s3 k (fun a0 a1 a2 a3 => R2 (n72_2 a0 a1 a2 a3)) (fun a0 a1 a2 a3 a4 => rec (a0, a1, a2, a3, a4)) (spec_ShortestRound.l4 k (fun a0 a1 a2 a3 => R2 (n72_2 a0 a1 a2 a3)) (fun a0 a1 a2 a3 a4 => rec (a0, a1, a2, a3, a4)) k) v.1 v.2.1 v.2.2.1 v.2.2.2.1 v.2.2.2.2) (fun n v => spec_ShortestRound.l3 k (fun a0 a1 a2 a3 => R2 (n72_2 a0 a1 a2 a3)) n v.1 v.2.1 v.2.2.1 v.2.2.2.1 v.2.2.2.2) (fun _ => rfl) (fun _ _ => rfl) (fun rec v => r72_3 k R2 rec _ (fun a0 a1 a2 a3 a4 a5 a6 => q72_4 k R2 rec k (a0, a1, a2, a3, a4, a5, a6)) v) n
theorem r72_2 (k : Nat) (rec : St → Option (Int × Int)) (G3 : Int → (List Int) → (List (List Int)) → Int → Int → Option (Int × Int)) (h3 : ∀ a0 a1 a2 a3 a4, loopF (E72 k) (S72 k) Try.f72 p72_3 [rec] k (n72_3 a0 a1 a2 a3 a4) = G3 a0 a1 a2 a3 a4) (G5 : Int → (List Int) → (List (List Int)) → Int → Int → Int → Option (Int × Int)) (h5 : ∀ a0 a1 a2 a3 a4 a5, loopF (E72 k) (S72 k) Try.f72 p72_5 [] k (n72_5 a0 a1 a2 a3 a4 a5) = G5 a0 a1 a2 a3 a4 a5) (v : Int × (List Int) × (List (List Int)) × Int) : roundF (E72 k) (S72 k) Try.f72 p72_2 [] rec (n72_2 v.1 v.2.1 v.2.2.1 v.2.2.2) = spec_ShortestRound.s2 k (fun a0 a1 a2 a3 => rec (n72_2 a0 a1 a2 a3)) G3 G5 v.1 v.2.1 v.2.2.1 v.2.2.2 := by
  obtain rfl : (fun a0 a1 a2 a3 a4 => loopF (E72 k) (S72 k) Try.f72 p72_3 [rec] k (n72_3 a0 a1 a2 a3 a4)) = G3 := funext fun a0 => funext fun a1 => funext fun a2 => funext fun a3 => funext fun a4 => h3 a0 a1 a2 a3 a4
  obtain rfl : (fun a0 a1 a2 a3 a4 a5 => loopF (E72 k) (S72 k) Try.f72 p72_5 [] k (n72_5 a0 a1 a2 a3 a4 a5)) = G5 := funext fun a0 => funext fun a1 => funext fun a2 => funext fun a3 => funext fun a4 => funext fun a5 => h5 a0 a1 a2 a3 a4 a5
  kernel_rfl
theorem q72_2 (k : Nat) (n : Nat) : ∀ v : Int × (List Int) × (List (List Int)) × Int, loopF (E72 k) (S72 k) Try.f72 p72_2 [] n (n72_2 v.1 v.2.1 v.2.2.1 v.2.2.2) = spec_ShortestRound.l2 k n v.1 v.2.1 v.2.2.1 v.2.2.2 :=
  loopF_eq (E72 k) (S72 k) Try.f72 p72_2 [] (fun v : Int × (List Int) × (List (List Int)) × Int => n72_2 v.1 v.2.1 v.2.2.1 v.2.2.2) (fun rec v => spec_ShortestRound.s2 k (fun a0 a1 a2 a3 => rec (a0, a1, a2, a3)) (spec_ShortestRound.l3 k (fun a0 a1 a2 a3 => rec (a0, a1, a2, a3)) k) (spec_ShortestRound.l5 k k) v.1 v.2.1 v.2.2.1 v.2.2.2) (fun n v => spec_ShortestRound.l2 k n v.1 v.2.1 v.2.2.1 v.2.2.2) (fun _ => rfl) (fun _ _ => rfl) (fun rec v => r72_2 k rec _ (fun a0 a1 a2 a3 a4 => q72_3 k rec k (a0, a1, a2, a3, a4)) _ (fun a0 a1 a2 a3 a4 a5 => q72_5 k k (a0, a1, a2, a3, a4, a5)) v) n
theorem r72_1 (k : Nat) (rec : St → Option (Int × Int)) (G2 : Int → (List Int) → (List (List Int)) → Int → Option (Int × Int)) (h2 : ∀ a0 a1 a2 a3, loopF (E72 k) (S72 k) Try.f72 p72_2 [] k (n72_2 a0 a1 a2 a3) = G2 a0 a1 a2 a3) (v : Int × Int × Int × (List Int) × (List (List Int)) × Int) : roundF (E72 k) (S72 k) Try.f72 p72_1 [] rec (n72_1 v.1 v.2.1 v.2.2.1 v.2.2.2.1 v.2.2.2.2.1 v.2.2.2.2.2) = spec_ShortestRound.s1 k (fun a0 a1 a2 a3 a4 a5 => rec (n72_1 a0 a1 a2 a3 a4 a5)) G2 v.1 v.2.1 v.2.2.1 v.2.2.2.1 v.2.2.2.2.1 v.2.2.2.2.2 := by
  obtain rfl : (fun a0 a1 a2 a3 => loopF (E72 k) (S72 k) Try.f72 p72_2 [] k (n72_2 a0 a1 a2 a3)) = G2 := funext fun a0 => funext fun a1 => funext fun a2 => funext fun a3 => h2 a0 a1 a2 a3
  kernel_rfl
theorem q72_1 (k : Nat) (n : Nat) : ∀ v : Int × Int × Int × (List Int) × (List (List Int)) × Int, loopF (E72 k) (S72 k) Try.f72 p72_1 [] n (n72_1 v.1 v.2.1 v.2.2.1 v.2.2.2.1 v.2.2.2.2.1 v.2.2.2.2.2) = spec_ShortestRound.l1 k n v.1 v.2.1 v.2.2.1 v.2.2.2.1 v.2.2.2.2.1 v.2.2.2.2.2 :=
  loopF_eq (E72 k) (S72 k) Try.f72 p72_1 [] (fun v : Int × Int × Int × (List Int) × (List (List Int)) × Int => n72_1 v.1 v.2.1 v.2.2.1 v.2.2.2.1 v.2.2.2.2.1 v.2.2.2.2.2) (fun rec v => spec_ShortestRound.s1 k (fun a0 a1 a2 a3 a4 a5 => rec (a0, a1, a2, a3, a4, a5)) (spec_ShortestRound.l2 k k) v.1 v.2.1 v.2.2.1 v.2.2.2.1 v.2.2.2.2.1 v.2.2.2.2.2) (fun n v => spec_ShortestRound.l1 k n v.1 v.2.1 v.2.2.1 v.2.2.2.1 v.2.2.2.2.1 v.2.2.2.2.2) (fun _ => rfl) (fun _ _ => rfl) (fun rec v => r72_1 k rec _ (fun a0 a1 a2 a3 => q72_2 k k (a0, a1, a2, a3)) v) n
theorem r72_0 (k : Nat) (rec : St → Option (Int × Int)) (G1 : Int → Int → Int → (List Int) → (List (List Int)) → Int → Option (Int × Int)) (h1 : ∀ a0 a1 a2 a3 a4 a5, loopF (E72 k) (S72 k) Try.f72 p72_1 [] k (n72_1 a0 a1 a2 a3 a4 a5) = G1 a0 a1 a2 a3 a4 a5) (v : Int × Int × Int × (List Int) × Int × Int) : roundF (E72 k) (S72 k) Try.f72 p72_0 [] rec (n72_0 v.1 v.2.1 v.2.2.1 v.2.2.2.1 v.2.2.2.2.1 v.2.2.2.2.2) = spec_ShortestRound.s0 k (fun a0 a1 a2 a3 a4 a5 => rec (n72_0 a0 a1 a2 a3 a4 a5)) G1 v.1 v.2.1 v.2.2.1 v.2.2.2.1 v.2.2.2.2.1 v.2.2.2.2.2 := by
  obtain rfl : (fun a0 a1 a2 a3 a4 a5 => loopF (E72 k) (S72 k) Try.f72 p72_1 [] k (n72_1 a0 a1 a2 a3 a4 a5)) = G1 := funext fun a0 => funext fun a1 => funext fun a2 => funext fun a3 => funext fun a4 => funext fun a5 => h1 a0 a1 a2 a3 a4 a5
  kernel_rfl
theorem q72_0 (k : Nat) (n : Nat) : ∀ v : Int × Int × Int × (List Int) × Int × Int, loopF (E72 k) (S72 k) Try.f72 p72_0 [] n (n72_0 v.1 v.2.1 v.2.2.1 v.2.2.2.1 v.2.2.2.2.1 v.2.2.2.2.2) = spec_ShortestRound.l0 k n v.1 v.2.1 v.2.2.1 v.2.2.2.1 v.2.2.2.2.1 v.2.2.2.2.2 :=
  loopF_eq (E72 k) (S72 k) Try.f72 p72_0 [] (fun v : Int × Int × Int × (List Int) × Int × Int => n72_0 v.1 v.2.1 v.2.2.1 v.2.2.2.1 v.2.2.2.2.1 v.2.2.2.2.2) (fun rec v => spec_ShortestRound.s0 k (fun a0 a1 a2 a3 a4 a5 => rec (a0, a1, a2, a3, a4, a5)) (spec_ShortestRound.l1 k k) v.1 v.2.1 v.2.2.1 v.2.2.2.1 v.2.2.2.2.1 v.2.2.2.2.2) (fun n v => spec_ShortestRound.l0 k n v.1 v.2.1 v.2.2.1 v.2.2.2.1 v.2.2.2.2.1 v.2.2.2.2.2) (fun _ => rfl) (fun _ _ => rfl) (fun rec v => r72_0 k rec _ (fun a0 a1 a2 a3 a4 a5 => q72_1 k k (a0, a1, a2, a3, a4, a5)) v) n
theorem e72 (k : Nat) (x : dens (flatC (S72 k).ps)) : funK (E72 k) (S72 k) Try.f72 x = (S72 k).fn x := by
  have h : funK (E72 k) (S72 k) Try.f72 x = spec_ShortestRound.g k (fun a0 a1 a2 a3 a4 a5 => loopF (E72 k) (S72 k) Try.f72 p72_0 [] k (n72_0 a0 a1 a2 a3 a4 a5)) x.1 x.2 := by kernel_rfl
  rw [h]
  rw [show (fun a0 a1 a2 a3 a4 a5 => loopF (E72 k) (S72 k) Try.f72 p72_0 [] k (n72_0 a0 a1 a2 a3 a4 a5)) = spec_ShortestRound.l0 k k from funext fun a0 => funext fun a1 => funext fun a2 => funext fun a3 => funext fun a4 => funext fun a5 => q72_0 k k (a0, a1, a2, a3, a4, a5)]
  rfl
theorem M72 (k : Nat) : Meets Try.prog 72 (S72 k) := meets_of Try.func72 (by kernel_rfl) tbOk (orc_cons (M101 k) (orc_cons (M174 k) orc_nil)) mixOk (fun x y h => (e72 k x).trans h) rfl

/-! spec_DrawAreNear: function 73 -/
noncomputable def spec_DrawAreNear.f (k : Nat) (l0 : List Int) : Option (Int × Int × Int × Int) := (spec_l01From.f k l0).bind fun t1 => (spec_l09Draw.f k (t1.1, t1.2.1, t1.2.2)).bind fun t2 => (spec_l01Near.f (t2.2.2.1, t2.2.2.2.1, t2.2.2.2.2) (wrap64 (t2.1 - 1))).bind fun t3 => (spec_l01Near.f (t3.2.1, t3.2.2.1, t3.2.2.2) (wrap64 (t2.1 - 1))).bind fun t4 => (spec_l09Bad.f (t4.2.1, t4.2.2.1, t4.2.2.2) t2.1 t2.2.1).bind fun t5 => some (t5.1, t5.2.1, t3.1, t4.1)
noncomputable def S73 (k : Nat) : Does := ⟨[(false, [.dat (.list (.int .u8))])], [(true, [.dat (.int .i64), .dat (.int .i64)]), (false, [.dat (.int .i64)]), (false, [.dat (.int .i64)])], fun x => spec_DrawAreNear.f k x⟩
noncomputable def E73 (k : Nat) : En := ⟨tb, orcOf [(135, S135 k), (170, S170 k), (137, S137 k), (171, S171 k)], lvOf [], k, 0, lvOf [], [1073939136]⟩
theorem e73 (k : Nat) (x : dens (flatC (S73 k).ps)) : funK (E73 k) (S73 k) Try.f73 x = (S73 k).fn x := by
  kernel_rfl
theorem M73 (k : Nat) : Meets Try.prog 73 (S73 k) := meets_of Try.func73 (by kernel_rfl) tbOk (orc_cons (M135 k) (orc_cons (M170 k) (orc_cons (M137 k) (orc_cons (M171 k) orc_nil)))) mixOk (fun x y h => (e73 k x).trans h) rfl

/-! spec_AreNear: function 74 -/
noncomputable def spec_AreNear.f (k : Nat) (a0_0 : Int) (a0_1 : Int) (a1 : Int) (a2 : Int) : Option (Bool × Int) := (spec_l09Places.f k a0_0 a0_1 [a1, a2]).bind fun t1 => if t1 = 0 then ((spec_l09Near.f a0_0 a0_1 a1 a2).bind fun t2 => some (t2, 0)) else (some (false, t1))
noncomputable def S74 (k : Nat) : Does := ⟨[(true, [.dat (.int .i64), .dat (.int .i64)]), (false, [.dat (.int .i64)]), (false, [.dat (.int .i64)])], [(false, [.dat .bool]), (false, [.dat (.int .i64)])], fun x => spec_AreNear.f k x.1 x.2.1 x.2.2.1 x.2.2.2⟩
noncomputable def E74 (k : Nat) : En := ⟨tb, orcOf [(173, S173 k), (177, S177 k)], lvOf [], k, 0, lvOf [], []⟩
theorem e74 (k : Nat) (x : dens (flatC (S74 k).ps)) : funK (E74 k) (S74 k) Try.f74 x = (S74 k).fn x := by
  kernel_rfl
theorem M74 (k : Nat) : Meets Try.prog 74 (S74 k) := meets_of Try.func74 (by kernel_rfl) tbOk (orc_cons (M173 k) (orc_cons (M177 k) orc_nil)) mixOk (fun x y h => (e74 k x).trans h) rfl

/-! laws_FnGrounds: function 9 -/
noncomputable def laws_FnGrounds.s0 (k : Nat) (r0 : (List Int) → Int → Int → Int → (List Int) → Int → Int → Option (Bool)) (x0 : List Int) (x22_0 : Int) (x22_1 : Int) (x23 : Int) (x24 : List Int) (x194 : Int) (x195 : Int) : Option (Bool) := if x195 < x194 then ((impl_DistancesFrom.f k x22_0 x22_1 x195).bind fun t18 => (impl_AreNear.f x22_0 x22_1 x23 x195).bind fun t19 => if t18.2 = 0 then (if t19.2 = 0 then (if (t18.1.length : Int) = x22_0 then (if 0 ≤ x23 then (if x23 < (t18.1.length : Int) then (if 0 ≤ x195 then (if x195 < (x24.length : Int) then (if (rd t18.1 x23) = (rd x24 x195) then (if 0 ≤ x195 then (if x195 < (x24.length : Int) then (if (rd x24 x195) = 0 then (if t19.1 = true then (r0 x0 x22_0 x22_1 x23 x24 x194 (wrap64 (x195 + 1))) else (some false)) else (if 0 ≤ x195 then (if x195 < (x24.length : Int) then (if t19.1 = (decide ((rd x24 x195) = 1)) then (r0 x0 x22_0 x22_1 x23 x24 x194 (wrap64 (x195 + 1))) else (some false)) else (none)) else (none))) else (none)) else (none)) else (some false)) else (none)) else (none)) else (none)) else (none)) else (some false)) else (some false)) else (some false)) else ((spec_DrawLeastEqualGap.f k x0).bind fun t20 => (impl_LeastEqualGap.f k t20.1 t20.2.1 t20.2.2).bind fun t21 => (spec_LeastEqualGap.f k t20.1 t20.2.1 t20.2.2).bind fun t22 => (impl_ShortestRound.f k t20.1 t20.2.1).bind fun t23 => (spec_ShortestRound.f k t20.1 t20.2.1).bind fun t24 => if t21.2 = t22.2 then (if t21.1 = t22.1 then (if t23.2 = t24.2 then (if t23.1 = t24.1 then (if t23.2 = 0 then (if t21.2 = 3 then ((spec_DrawAreNear.f k x0).bind fun t25 => (impl_AreNear.f t25.1 t25.2.1 t25.2.2.1 t25.2.2.2).bind fun t26 => (spec_AreNear.f k t25.1 t25.2.1 t25.2.2.1 t25.2.2.2).bind fun t27 => if t26.2 = t27.2 then (some (decide (t26.1 = t27.1))) else (some false)) else (if t21.2 = 2 then ((spec_DrawAreNear.f k x0).bind fun t28 => (impl_AreNear.f t28.1 t28.2.1 t28.2.2.1 t28.2.2.2).bind fun t29 => (spec_AreNear.f k t28.1 t28.2.1 t28.2.2.1 t28.2.2.2).bind fun t30 => if t29.2 = t30.2 then (some (decide (t29.1 = t30.1))) else (some false)) else (if (maxV t23.1 1) ≤ t20.2.2 then (if t21.2 = 0 then (if (maxV t23.1 1) < t21.1 then (some false) else ((spec_DrawAreNear.f k x0).bind fun t31 => (impl_AreNear.f t31.1 t31.2.1 t31.2.2.1 t31.2.2.2).bind fun t32 => (spec_AreNear.f k t31.1 t31.2.1 t31.2.2.1 t31.2.2.2).bind fun t33 => if t32.2 = t33.2 then (some (decide (t32.1 = t33.1))) else (some false))) else (some false)) else ((spec_DrawAreNear.f k x0).bind fun t34 => (impl_AreNear.f t34.1 t34.2.1 t34.2.2.1 t34.2.2.2).bind fun t35 => (spec_AreNear.f k t34.1 t34.2.1 t34.2.2.1 t34.2.2.2).bind fun t36 => if t35.2 = t36.2 then (some (decide (t35.1 = t36.1))) else (some false))))) else ((spec_DrawAreNear.f k x0).bind fun t37 => (impl_AreNear.f t37.1 t37.2.1 t37.2.2.1 t37.2.2.2).bind fun t38 => (spec_AreNear.f k t37.1 t37.2.1 t37.2.2.1 t37.2.2.2).bind fun t39 => if t38.2 = t39.2 then (some (decide (t38.1 = t39.1))) else (some false))) else (some false)) else (some false)) else (some false)) else (some false))
noncomputable def laws_FnGrounds.l0 (k : Nat) : Nat → (List Int) → Int → Int → Int → (List Int) → Int → Int → Option (Bool)
  | 0, _, _, _, _, _, _, _ => none
  | n + 1, x0, x1, x2, x3, x4, x5, x6 => laws_FnGrounds.s0 k (laws_FnGrounds.l0 k n) x0 x1 x2 x3 x4 x5 x6
noncomputable def laws_FnGrounds.g (k : Nat) (r0 : (List Int) → Int → Int → Int → (List Int) → Int → Int → Option (Bool)) (l0 : List Int) : Option (Bool) := (laws_big.f l0).bind fun t1 => if t1 = true then (some true) else ((spec_DrawLineGround.f k l0).bind fun t2 => (impl_LineGround.f k t2).bind fun t3 => (spec_LineGround.f k t2).bind fun t4 => (impl_StarGround.f k t2).bind fun t5 => (spec_StarGround.f k t2).bind fun t6 => (impl_RingGround.f k t2).bind fun t7 => (spec_RingGround.f k t2).bind fun t8 => if t3.2.2 = t4.2.2 then (if (!(eqI t3.1 t4.1 && (eqI t3.2.1 t4.2.1 && true))) = true then (some false) else (if t5.2.2 = t6.2.2 then (if (!(eqI t5.1 t6.1 && (eqI t5.2.1 t6.2.1 && true))) = true then (some false) else (if t7.2.2 = t8.2.2 then (if (!(eqI t7.1 t8.1 && (eqI t7.2.1 t8.2.1 && true))) = true then (some false) else (if t3.2.2 = 0 then ((impl_ShortestRound.f k t3.1 t3.2.1).bind fun t9 => (impl_ShortestRound.f k t5.1 t5.2.1).bind fun t10 => if t9.2 = 0 then (if t10.2 = 0 then (if t9.1 = (wrap64 ((wrap64 (2 * t2)) - 2)) then (if t10.1 = (wrap64 ((wrap64 (2 * t2)) - 2)) then (if t7.2.2 = 0 then ((impl_ShortestRound.f k t7.1 t7.2.1).bind fun t11 => if t11.2 = 0 then (if t11.1 = t2 then ((spec_DrawDistancesFrom.f k l0).bind fun t12 => (impl_DistancesFrom.f k t12.1 t12.2.1 t12.2.2).bind fun t13 => (spec_DistancesFrom.f k t12.1 t12.2.1 t12.2.2).bind fun t14 => if t13.2 = t14.2 then ((laws_likeInts.f k t13.1 t14.1).bind fun t15 => if t15 = true then ((impl_IsGround.f t12.1 t12.2.1).bind fun t16 => (spec_IsGround.f t12.1 t12.2.1).bind fun t17 => if t16 = t17 then (if t13.2 = 0 then (r0 l0 t12.1 t12.2.1 t12.2.2 t13.1 (t13.1.length : Int) 0) else ((spec_DrawLeastEqualGap.f k l0).bind fun t40 => (impl_LeastEqualGap.f k t40.1 t40.2.1 t40.2.2).bind fun t41 => (spec_LeastEqualGap.f k t40.1 t40.2.1 t40.2.2).bind fun t42 => (impl_ShortestRound.f k t40.1 t40.2.1).bind fun t43 => (spec_ShortestRound.f k t40.1 t40.2.1).bind fun t44 => if t41.2 = t42.2 then (if t41.1 = t42.1 then (if t43.2 = t44.2 then (if t43.1 = t44.1 then (if t43.2 = 0 then (if t41.2 = 3 then ((spec_DrawAreNear.f k l0).bind fun t45 => (impl_AreNear.f t45.1 t45.2.1 t45.2.2.1 t45.2.2.2).bind fun t46 => (spec_AreNear.f k t45.1 t45.2.1 t45.2.2.1 t45.2.2.2).bind fun t47 => if t46.2 = t47.2 then (some (decide (t46.1 = t47.1))) else (some false)) else (if t41.2 = 2 then ((spec_DrawAreNear.f k l0).bind fun t48 => (impl_AreNear.f t48.1 t48.2.1 t48.2.2.1 t48.2.2.2).bind fun t49 => (spec_AreNear.f k t48.1 t48.2.1 t48.2.2.1 t48.2.2.2).bind fun t50 => if t49.2 = t50.2 then (some (decide (t49.1 = t50.1))) else (some false)) else (if (maxV t43.1 1) ≤ t40.2.2 then (if t41.2 = 0 then (if (maxV t43.1 1) < t41.1 then (some false) else ((spec_DrawAreNear.f k l0).bind fun t51 => (impl_AreNear.f t51.1 t51.2.1 t51.2.2.1 t51.2.2.2).bind fun t52 => (spec_AreNear.f k t51.1 t51.2.1 t51.2.2.1 t51.2.2.2).bind fun t53 => if t52.2 = t53.2 then (some (decide (t52.1 = t53.1))) else (some false))) else (some false)) else ((spec_DrawAreNear.f k l0).bind fun t54 => (impl_AreNear.f t54.1 t54.2.1 t54.2.2.1 t54.2.2.2).bind fun t55 => (spec_AreNear.f k t54.1 t54.2.1 t54.2.2.1 t54.2.2.2).bind fun t56 => if t55.2 = t56.2 then (some (decide (t55.1 = t56.1))) else (some false))))) else ((spec_DrawAreNear.f k l0).bind fun t57 => (impl_AreNear.f t57.1 t57.2.1 t57.2.2.1 t57.2.2.2).bind fun t58 => (spec_AreNear.f k t57.1 t57.2.1 t57.2.2.1 t57.2.2.2).bind fun t59 => if t58.2 = t59.2 then (some (decide (t58.1 = t59.1))) else (some false))) else (some false)) else (some false)) else (some false)) else (some false))) else (some false)) else (some false)) else (some false)) else (some false)) else (some false)) else ((spec_DrawDistancesFrom.f k l0).bind fun t60 => (impl_DistancesFrom.f k t60.1 t60.2.1 t60.2.2).bind fun t61 => (spec_DistancesFrom.f k t60.1 t60.2.1 t60.2.2).bind fun t62 => if t61.2 = t62.2 then ((laws_likeInts.f k t61.1 t62.1).bind fun t63 => if t63 = true then ((impl_IsGround.f t60.1 t60.2.1).bind fun t64 => (spec_IsGround.f t60.1 t60.2.1).bind fun t65 => if t64 = t65 then (if t61.2 = 0 then (r0 l0 t60.1 t60.2.1 t60.2.2 t61.1 (t61.1.length : Int) 0) else ((spec_DrawLeastEqualGap.f k l0).bind fun t66 => (impl_LeastEqualGap.f k t66.1 t66.2.1 t66.2.2).bind fun t67 => (spec_LeastEqualGap.f k t66.1 t66.2.1 t66.2.2).bind fun t68 => (impl_ShortestRound.f k t66.1 t66.2.1).bind fun t69 => (spec_ShortestRound.f k t66.1 t66.2.1).bind fun t70 => if t67.2 = t68.2 then (if t67.1 = t68.1 then (if t69.2 = t70.2 then (if t69.1 = t70.1 then (if t69.2 = 0 then (if t67.2 = 3 then ((spec_DrawAreNear.f k l0).bind fun t71 => (impl_AreNear.f t71.1 t71.2.1 t71.2.2.1 t71.2.2.2).bind fun t72 => (spec_AreNear.f k t71.1 t71.2.1 t71.2.2.1 t71.2.2.2).bind fun t73 => if t72.2 = t73.2 then (some (decide (t72.1 = t73.1))) else (some false)) else (if t67.2 = 2 then ((spec_DrawAreNear.f k l0).bind fun t74 => (impl_AreNear.f t74.1 t74.2.1 t74.2.2.1 t74.2.2.2).bind fun t75 => (spec_AreNear.f k t74.1 t74.2.1 t74.2.2.1 t74.2.2.2).bind fun t76 => if t75.2 = t76.2 then (some (decide (t75.1 = t76.1))) else (some false)) else (if (maxV t69.1 1) ≤ t66.2.2 then (if t67.2 = 0 then (if (maxV t69.1 1) < t67.1 then (some false) else ((spec_DrawAreNear.f k l0).bind fun t77 => (impl_AreNear.f t77.1 t77.2.1 t77.2.2.1 t77.2.2.2).bind fun t78 => (spec_AreNear.f k t77.1 t77.2.1 t77.2.2.1 t77.2.2.2).bind fun t79 => if t78.2 = t79.2 then (some (decide (t78.1 = t79.1))) else (some false))) else (some false)) else ((spec_DrawAreNear.f k l0).bind fun t80 => (impl_AreNear.f t80.1 t80.2.1 t80.2.2.1 t80.2.2.2).bind fun t81 => (spec_AreNear.f k t80.1 t80.2.1 t80.2.2.1 t80.2.2.2).bind fun t82 => if t81.2 = t82.2 then (some (decide (t81.1 = t82.1))) else (some false))))) else ((spec_DrawAreNear.f k l0).bind fun t83 => (impl_AreNear.f t83.1 t83.2.1 t83.2.2.1 t83.2.2.2).bind fun t84 => (spec_AreNear.f k t83.1 t83.2.1 t83.2.2.1 t83.2.2.2).bind fun t85 => if t84.2 = t85.2 then (some (decide (t84.1 = t85.1))) else (some false))) else (some false)) else (some false)) else (some false)) else (some false))) else (some false)) else (some false)) else (some false))) else (some false)) else (some false)) else (some false)) else (some false)) else (if t7.2.2 = 0 then ((impl_ShortestRound.f k t7.1 t7.2.1).bind fun t86 => if t86.2 = 0 then (if t86.1 = t2 then ((spec_DrawDistancesFrom.f k l0).bind fun t87 => (impl_DistancesFrom.f k t87.1 t87.2.1 t87.2.2).bind fun t88 => (spec_DistancesFrom.f k t87.1 t87.2.1 t87.2.2).bind fun t89 => if t88.2 = t89.2 then ((laws_likeInts.f k t88.1 t89.1).bind fun t90 => if t90 = true then ((impl_IsGround.f t87.1 t87.2.1).bind fun t91 => (spec_IsGround.f t87.1 t87.2.1).bind fun t92 => if t91 = t92 then (if t88.2 = 0 then (r0 l0 t87.1 t87.2.1 t87.2.2 t88.1 (t88.1.length : Int) 0) else ((spec_DrawLeastEqualGap.f k l0).bind fun t93 => (impl_LeastEqualGap.f k t93.1 t93.2.1 t93.2.2).bind fun t94 => (spec_LeastEqualGap.f k t93.1 t93.2.1 t93.2.2).bind fun t95 => (impl_ShortestRound.f k t93.1 t93.2.1).bind fun t96 => (spec_ShortestRound.f k t93.1 t93.2.1).bind fun t97 => if t94.2 = t95.2 then (if t94.1 = t95.1 then (if t96.2 = t97.2 then (if t96.1 = t97.1 then (if t96.2 = 0 then (if t94.2 = 3 then ((spec_DrawAreNear.f k l0).bind fun t98 => (impl_AreNear.f t98.1 t98.2.1 t98.2.2.1 t98.2.2.2).bind fun t99 => (spec_AreNear.f k t98.1 t98.2.1 t98.2.2.1 t98.2.2.2).bind fun t100 => if t99.2 = t100.2 then (some (decide (t99.1 = t100.1))) else (some false)) else (if t94.2 = 2 then ((spec_DrawAreNear.f k l0).bind fun t101 => (impl_AreNear.f t101.1 t101.2.1 t101.2.2.1 t101.2.2.2).bind fun t102 => (spec_AreNear.f k t101.1 t101.2.1 t101.2.2.1 t101.2.2.2).bind fun t103 => if t102.2 = t103.2 then (some (decide (t102.1 = t103.1))) else (some false)) else (if (maxV t96.1 1) ≤ t93.2.2 then (if t94.2 = 0 then (if (maxV t96.1 1) < t94.1 then (some false) else ((spec_DrawAreNear.f k l0).bind fun t104 => (impl_AreNear.f t104.1 t104.2.1 t104.2.2.1 t104.2.2.2).bind fun t105 => (spec_AreNear.f k t104.1 t104.2.1 t104.2.2.1 t104.2.2.2).bind fun t106 => if t105.2 = t106.2 then (some (decide (t105.1 = t106.1))) else (some false))) else (some false)) else ((spec_DrawAreNear.f k l0).bind fun t107 => (impl_AreNear.f t107.1 t107.2.1 t107.2.2.1 t107.2.2.2).bind fun t108 => (spec_AreNear.f k t107.1 t107.2.1 t107.2.2.1 t107.2.2.2).bind fun t109 => if t108.2 = t109.2 then (some (decide (t108.1 = t109.1))) else (some false))))) else ((spec_DrawAreNear.f k l0).bind fun t110 => (impl_AreNear.f t110.1 t110.2.1 t110.2.2.1 t110.2.2.2).bind fun t111 => (spec_AreNear.f k t110.1 t110.2.1 t110.2.2.1 t110.2.2.2).bind fun t112 => if t111.2 = t112.2 then (some (decide (t111.1 = t112.1))) else (some false))) else (some false)) else (some false)) else (some false)) else (some false))) else (some false)) else (some false)) else (some false)) else (some false)) else (some false)) else ((spec_DrawDistancesFrom.f k l0).bind fun t113 => (impl_DistancesFrom.f k t113.1 t113.2.1 t113.2.2).bind fun t114 => (spec_DistancesFrom.f k t113.1 t113.2.1 t113.2.2).bind fun t115 => if t114.2 = t115.2 then ((laws_likeInts.f k t114.1 t115.1).bind fun t116 => if t116 = true then ((impl_IsGround.f t113.1 t113.2.1).bind fun t117 => (spec_IsGround.f t113.1 t113.2.1).bind fun t118 => if t117 = t118 then (if t114.2 = 0 then (r0 l0 t113.1 t113.2.1 t113.2.2 t114.1 (t114.1.length : Int) 0) else ((spec_DrawLeastEqualGap.f k l0).bind fun t119 => (impl_LeastEqualGap.f k t119.1 t119.2.1 t119.2.2).bind fun t120 => (spec_LeastEqualGap.f k t119.1 t119.2.1 t119.2.2).bind fun t121 => (impl_ShortestRound.f k t119.1 t119.2.1).bind fun t122 => (spec_ShortestRound.f k t119.1 t119.2.1).bind fun t123 => if t120.2 = t121.2 then (if t120.1 = t121.1 then (if t122.2 = t123.2 then (if t122.1 = t123.1 then (if t122.2 = 0 then (if t120.2 = 3 then ((spec_DrawAreNear.f k l0).bind fun t124 => (impl_AreNear.f t124.1 t124.2.1 t124.2.2.1 t124.2.2.2).bind fun t125 => (spec_AreNear.f k t124.1 t124.2.1 t124.2.2.1 t124.2.2.2).bind fun t126 => if t125.2 = t126.2 then (some (decide (t125.1 = t126.1))) else (some false)) else (if t120.2 = 2 then ((spec_DrawAreNear.f k l0).bind fun t127 => (impl_AreNear.f t127.1 t127.2.1 t127.2.2.1 t127.2.2.2).bind fun t128 => (spec_AreNear.f k t127.1 t127.2.1 t127.2.2.1 t127.2.2.2).bind fun t129 => if t128.2 = t129.2 then (some (decide (t128.1 = t129.1))) else (some false)) else (if (maxV t122.1 1) ≤ t119.2.2 then (if t120.2 = 0 then (if (maxV t122.1 1) < t120.1 then (some false) else ((spec_DrawAreNear.f k l0).bind fun t130 => (impl_AreNear.f t130.1 t130.2.1 t130.2.2.1 t130.2.2.2).bind fun t131 => (spec_AreNear.f k t130.1 t130.2.1 t130.2.2.1 t130.2.2.2).bind fun t132 => if t131.2 = t132.2 then (some (decide (t131.1 = t132.1))) else (some false))) else (some false)) else ((spec_DrawAreNear.f k l0).bind fun t133 => (impl_AreNear.f t133.1 t133.2.1 t133.2.2.1 t133.2.2.2).bind fun t134 => (spec_AreNear.f k t133.1 t133.2.1 t133.2.2.1 t133.2.2.2).bind fun t135 => if t134.2 = t135.2 then (some (decide (t134.1 = t135.1))) else (some false))))) else ((spec_DrawAreNear.f k l0).bind fun t136 => (impl_AreNear.f t136.1 t136.2.1 t136.2.2.1 t136.2.2.2).bind fun t137 => (spec_AreNear.f k t136.1 t136.2.1 t136.2.2.1 t136.2.2.2).bind fun t138 => if t137.2 = t138.2 then (some (decide (t137.1 = t138.1))) else (some false))) else (some false)) else (some false)) else (some false)) else (some false))) else (some false)) else (some false)) else (some false))))) else (some false))) else (some false))) else (some false))
noncomputable def laws_FnGrounds.f (k : Nat) (l0 : List Int) : Option (Bool) := laws_FnGrounds.g k (laws_FnGrounds.l0 k k) l0
noncomputable def S9 (k : Nat) : Does := ⟨[(false, [.dat (.list (.int .u8))])], [(false, [.dat .bool])], fun x => laws_FnGrounds.f k x⟩
noncomputable def E9 (k : Nat) : En := ⟨tb, orcOf [(28, S28 k), (57, S57 k), (58, S58 k), (59, S59 k), (60, S60 k), (61, S61 k), (62, S62 k), (63, S63 k), (64, S64 k), (65, S65 k), (66, S66 k), (67, S67 k), (32, S32 k), (68, S68 k), (69, S69 k), (70, S70 k), (71, S71 k), (14, S14 k), (12, S12 k), (72, S72 k), (73, S73 k), (74, S74 k)], lvOf [(0, [(0, []), (22, []), (23, []), (24, []), (194, []), (195, [])])], k, 0, lvOf [], []⟩
noncomputable def n9_0 (x0 : List Int) (x22_0 : Int) (x22_1 : Int) (x23 : Int) (x24 : List Int) (x194 : Int) (x195 : Int) : St := ⟨351, lookA [(0, .dat (.list (.int .u8)) x0), (22, .box 0 0), (23, .dat (.int .i64) x23), (24, .own 1), (194, .dat (.int .i64) x194), (195, .dat (.int .i64) x195)], Go.V.look [(0, .cells [.dat (.int .i64) x22_0, .dat (.int .i64) x22_1]), (1, .flat 2 (.int .i64) x24)]⟩
def p9_0 : List Bool := [true, true, true, true, true, true, true, true, true, true, true, true, true, true, true, true, false, true, false, true, false]
theorem r9_0 (k : Nat) (rec : St → Option (Bool)) (v : (List Int) × Int × Int × Int × (List Int) × Int × Int) : roundF (E9 k) (S9 k) Try.f9 p9_0 [] rec (n9_0 v.1 v.2.1 v.2.2.1 v.2.2.2.1 v.2.2.2.2.1 v.2.2.2.2.2.1 v.2.2.2.2.2.2) = laws_FnGrounds.s0 k (fun a0 a1 a2 a3 a4 a5 a6 => rec (n9_0 a0 a1 a2 a3 a4 a5 a6)) v.1 v.2.1 v.2.2.1 v.2.2.2.1 v.2.2.2.2.1 v.2.2.2.2.2.1 v.2.2.2.2.2.2 := by
  kernel_rfl
theorem q9_0 (k : Nat) (n : Nat) : ∀ v : (List Int) × Int × Int × Int × (List Int) × Int × Int, loopF (E9 k) (S9 k) Try.f9 p9_0 [] n (n9_0 v.1 v.2.1 v.2.2.1 v.2.2.2.1 v.2.2.2.2.1 v.2.2.2.2.2.1 v.2.2.2.2.2.2) = laws_FnGrounds.l0 k n v.1 v.2.1 v.2.2.1 v.2.2.2.1 v.2.2.2.2.1 v.2.2.2.2.2.1 v.2.2.2.2.2.2 :=
  loopF_eq (E9 k) (S9 k) Try.f9 p9_0 [] (fun v : (List Int) × Int × Int × Int × (List Int) × Int × Int => n9_0 v.1 v.2.1 v.2.2.1 v.2.2.2.1 v.2.2.2.2.1 v.2.2.2.2.2.1 v.2.2.2.2.2.2) (fun rec v => laws_FnGrounds.s0 k (fun a0 a1 a2 a3 a4 a5 a6 => rec (a0, a1, a2, a3, a4, a5, a6)) v.1 v.2.1 v.2.2.1 v.2.2.2.1 v.2.2.2.2.1 v.2.2.2.2.2.1 v.2.2.2.2.2.2) (fun n v => laws_FnGrounds.l0 k n v.1 v.2.1 v.2.2.1 v.2.2.2.1 v.2.2.2.2.1 v.2.2.2.2.2.1 v.2.2.2.2.2.2) (fun _ => rfl) (fun _ _ => rfl) (fun rec v => r9_0 k rec v) n
theorem e9 (k : Nat) (x : dens (flatC (S9 k).ps)) : funK (E9 k) (S9 k) Try.f9 x = (S9 k).fn x := by
  have h : funK (E9 k) (S9 k) Try.f9 x = laws_FnGrounds.g k (fun a0 a1 a2 a3 a4 a5 a6 => loopF (E9 k) (S9 k) Try.f9 p9_0 [] k (n9_0 a0 a1 a2 a3 a4 a5 a6)) x := by kernel_rfl
  rw [h]
  rw [show (fun a0 a1 a2 a3 a4 a5 a6 => loopF (E9 k) (S9 k) Try.f9 p9_0 [] k (n9_0 a0 a1 a2 a3 a4 a5 a6)) = laws_FnGrounds.l0 k k from funext fun a0 => funext fun a1 => funext fun a2 => funext fun a3 => funext fun a4 => funext fun a5 => funext fun a6 => q9_0 k k (a0, a1, a2, a3, a4, a5, a6)]
  rfl
theorem M9 (k : Nat) : Meets Try.prog 9 (S9 k) := meets_of Try.func9 (by kernel_rfl) tbOk (orc_cons (M28 k) (orc_cons (M57 k) (orc_cons (M58 k) (orc_cons (M59 k) (orc_cons (M60 k) (orc_cons (M61 k) (orc_cons (M62 k) (orc_cons (M63 k) (orc_cons (M64 k) (orc_cons (M65 k) (orc_cons (M66 k) (orc_cons (M67 k) (orc_cons (M32 k) (orc_cons (M68 k) (orc_cons (M69 k) (orc_cons (M70 k) (orc_cons (M71 k) (orc_cons (M14 k) (orc_cons (M12 k) (orc_cons (M72 k) (orc_cons (M73 k) (orc_cons (M74 k) orc_nil)))))))))))))))))))))) mixOk (fun x y h => (e9 k x).trans h) rfl



end Go.Proofs.Ytcbhhbkghbnljaa.Vf
