/- What the functions of program, reference and laws give, as plain functions, and that they meet them (part 1). Conditions: none. Written by a program of my own (vp.py). -/
import Derived.Test.YtcbhhbkghbnljaaVc
import Derived.Test.YtcbhhbkghbnljaaProg
set_option linter.unusedVariables false
set_option maxRecDepth 100000
namespace Go.Proofs.Ytcbhhbkghbnljaa.Vf
open Go Go.V Go.RowKit Go.Proofs
def tbl : List (Nat × TI) := [(1, ⟨.fn, 1, 8, [.nilFunc]⟩), (2, ⟨.int .i64, 1, 8, [.int .i64 0]⟩), (3, ⟨.int .i64, 1, 8, [.int .i64 0]⟩), (4, ⟨.bool, 1, 1, [.bool false]⟩), (5, ⟨.int .u8, 1, 1, [.int .u8 0]⟩), (6, ⟨.int .u8, 1, 1, [.int .u8 0]⟩), (7, ⟨.struct [(0, 2), (1, 3), (2, 4), (3, 6)], 4, 24, [.int .i64 0, .int .i64 0, .bool false, .int .u8 0]⟩), (8, ⟨.struct [(0, 2), (1, 3), (2, 4), (3, 6)], 4, 24, [.int .i64 0, .int .i64 0, .bool false, .int .u8 0]⟩), (9, ⟨.str, 1, 16, [.string ByteArray.empty]⟩), (10, ⟨.str, 1, 16, [.string ByteArray.empty]⟩), (11, ⟨.str, 1, 16, [.string ByteArray.empty]⟩), (12, ⟨.int .u64, 1, 8, [.int .u64 0]⟩), (13, ⟨.struct [(0, 9), (1, 12)], 2, 24, [.string ByteArray.empty, .int .u64 0]⟩), (14, ⟨.struct [(0, 9), (1, 12)], 2, 24, [.string ByteArray.empty, .int .u64 0]⟩), (15, ⟨.ptr 212, 1, 8, [.pointer none]⟩), (16, ⟨.ptr 215, 1, 8, [.pointer none]⟩), (17, ⟨.ptr 224, 1, 8, [.pointer none]⟩), (18, ⟨.struct [(0, 17)], 1, 8, [.pointer none]⟩), (19, ⟨.struct [(0, 17)], 1, 8, [.pointer none]⟩), (21, ⟨.int .i32, 1, 4, [.int .i32 0]⟩), (22, ⟨.struct [(0, 2), (1, 2)], 2, 16, [.int .i64 0, .int .i64 0]⟩), (23, ⟨.struct [(0, 2), (1, 2)], 2, 16, [.int .i64 0, .int .i64 0]⟩), (25, ⟨.fn, 1, 8, [.nilFunc]⟩), (26, ⟨.struct [(0, 2), (1, 2)], 2, 16, [.int .i64 0, .int .i64 0]⟩), (27, ⟨.fn, 1, 8, [.nilFunc]⟩), (28, ⟨.fn, 1, 8, [.nilFunc]⟩), (29, ⟨.slice 2, 1, 24, [.slice none 0 0]⟩), (30, ⟨.struct [(0, 29)], 1, 24, [.slice none 0 0]⟩), (31, ⟨.struct [(0, 29)], 1, 24, [.slice none 0 0]⟩), (32, ⟨.fn, 1, 8, [.nilFunc]⟩), (34, ⟨.fn, 1, 8, [.nilFunc]⟩), (35, ⟨.struct [(0, 29)], 1, 24, [.slice none 0 0]⟩), (36, ⟨.fn, 1, 8, [.nilFunc]⟩), (37, ⟨.fn, 1, 8, [.nilFunc]⟩), (38, ⟨.fn, 1, 8, [.nilFunc]⟩), (39, ⟨.fn, 1, 8, [.nilFunc]⟩), (40, ⟨.fn, 1, 8, [.nilFunc]⟩), (42, ⟨.fn, 1, 8, [.nilFunc]⟩), (43, ⟨.fn, 1, 8, [.nilFunc]⟩), (44, ⟨.fn, 1, 8, [.nilFunc]⟩), (45, ⟨.fn, 1, 8, [.nilFunc]⟩), (46, ⟨.slice 5, 1, 24, [.slice none 0 0]⟩), (47, ⟨.fn, 1, 8, [.nilFunc]⟩), (49, ⟨.fn, 1, 8, [.nilFunc]⟩), (51, ⟨.fn, 1, 8, [.nilFunc]⟩), (52, ⟨.fn, 1, 8, [.nilFunc]⟩), (54, ⟨.fn, 1, 8, [.nilFunc]⟩), (55, ⟨.fn, 1, 8, [.nilFunc]⟩), (56, ⟨.fn, 1, 8, [.nilFunc]⟩), (58, ⟨.fn, 1, 8, [.nilFunc]⟩), (59, ⟨.fn, 1, 8, [.nilFunc]⟩), (60, ⟨.fn, 1, 8, [.nilFunc]⟩), (61, ⟨.fn, 1, 8, [.nilFunc]⟩), (63, ⟨.fn, 1, 8, [.nilFunc]⟩), (64, ⟨.fn, 1, 8, [.nilFunc]⟩), (65, ⟨.fn, 1, 8, [.nilFunc]⟩), (67, ⟨.fn, 1, 8, [.nilFunc]⟩), (68, ⟨.fn, 1, 8, [.nilFunc]⟩), (69, ⟨.fn, 1, 8, [.nilFunc]⟩), (70, ⟨.fn, 1, 8, [.nilFunc]⟩), (71, ⟨.fn, 1, 8, [.nilFunc]⟩), (72, ⟨.fn, 1, 8, [.nilFunc]⟩), (74, ⟨.fn, 1, 8, [.nilFunc]⟩), (76, ⟨.fn, 1, 8, [.nilFunc]⟩), (77, ⟨.fn, 1, 8, [.nilFunc]⟩), (78, ⟨.fn, 1, 8, [.nilFunc]⟩), (79, ⟨.fn, 1, 8, [.nilFunc]⟩), (80, ⟨.fn, 1, 8, [.nilFunc]⟩), (81, ⟨.fn, 1, 8, [.nilFunc]⟩), (83, ⟨.fn, 1, 8, [.nilFunc]⟩), (85, ⟨.fn, 1, 8, [.nilFunc]⟩), (86, ⟨.slice 29, 1, 24, [.slice none 0 0]⟩), (88, ⟨.fn, 1, 8, [.nilFunc]⟩), (89, ⟨.fn, 1, 8, [.nilFunc]⟩), (91, ⟨.fn, 1, 8, [.nilFunc]⟩), (92, ⟨.fn, 1, 8, [.nilFunc]⟩), (94, ⟨.fn, 1, 8, [.nilFunc]⟩), (95, ⟨.fn, 1, 8, [.nilFunc]⟩), (96, ⟨.fn, 1, 8, [.nilFunc]⟩), (97, ⟨.fn, 1, 8, [.nilFunc]⟩), (98, ⟨.fn, 1, 8, [.nilFunc]⟩), (99, ⟨.fn, 1, 8, [.nilFunc]⟩), (100, ⟨.fn, 1, 8, [.nilFunc]⟩), (101, ⟨.slice 4, 1, 24, [.slice none 0 0]⟩), (102, ⟨.fn, 1, 8, [.nilFunc]⟩), (103, ⟨.fn, 1, 8, [.nilFunc]⟩), (104, ⟨.fn, 1, 8, [.nilFunc]⟩), (105, ⟨.fn, 1, 8, [.nilFunc]⟩), (106, ⟨.fn, 1, 8, [.nilFunc]⟩), (107, ⟨.fn, 1, 8, [.nilFunc]⟩), (108, ⟨.fn, 1, 8, [.nilFunc]⟩), (109, ⟨.fn, 1, 8, [.nilFunc]⟩), (110, ⟨.fn, 1, 8, [.nilFunc]⟩), (111, ⟨.ptr 188, 1, 8, [.pointer none]⟩), (112, ⟨.fn, 1, 8, [.nilFunc]⟩), (113, ⟨.fn, 1, 8, [.nilFunc]⟩), (114, ⟨.fn, 1, 8, [.nilFunc]⟩), (115, ⟨.fn, 1, 8, [.nilFunc]⟩), (117, ⟨.fn, 1, 8, [.nilFunc]⟩), (118, ⟨.map 2 3, 1, 8, [.map none]⟩), (119, ⟨.fn, 1, 8, [.nilFunc]⟩), (121, ⟨.struct [(0, 2), (1, 2)], 2, 16, [.int .i64 0, .int .i64 0]⟩), (122, ⟨.struct [(0, 2), (1, 2)], 2, 16, [.int .i64 0, .int .i64 0]⟩), (124, ⟨.fn, 1, 8, [.nilFunc]⟩), (125, ⟨.fn, 1, 8, [.nilFunc]⟩), (126, ⟨.ptr 130, 1, 8, [.pointer none]⟩), (127, ⟨.fn, 1, 8, [.nilFunc]⟩), (128, ⟨.slice 145, 1, 24, [.slice none 0 0]⟩), (129, ⟨.struct [(0, 35), (1, 128), (2, 101)], 3, 72, [.slice none 0 0, .slice none 0 0, .slice none 0 0]⟩), (130, ⟨.struct [(0, 35), (1, 128), (2, 101)], 3, 72, [.slice none 0 0, .slice none 0 0, .slice none 0 0]⟩), (131, ⟨.fn, 1, 8, [.nilFunc]⟩), (132, ⟨.fn, 1, 8, [.nilFunc]⟩), (133, ⟨.fn, 1, 8, [.nilFunc]⟩), (134, ⟨.fn, 1, 8, [.nilFunc]⟩), (135, ⟨.ptr 193, 1, 8, [.pointer none]⟩), (136, ⟨.fn, 1, 8, [.nilFunc]⟩), (137, ⟨.fn, 1, 8, [.nilFunc]⟩), (138, ⟨.fn, 1, 8, [.nilFunc]⟩), (140, ⟨.fn, 1, 8, [.nilFunc]⟩), (141, ⟨.fn, 1, 8, [.nilFunc]⟩), (142, ⟨.fn, 1, 8, [.nilFunc]⟩), (143, ⟨.fn, 1, 8, [.nilFunc]⟩), (145, ⟨.map 2 2, 1, 8, [.map none]⟩), (146, ⟨.fn, 1, 8, [.nilFunc]⟩), (148, ⟨.fn, 1, 8, [.nilFunc]⟩), (149, ⟨.fn, 1, 8, [.nilFunc]⟩), (150, ⟨.fn, 1, 8, [.nilFunc]⟩), (151, ⟨.fn, 1, 8, [.nilFunc]⟩), (152, ⟨.fn, 1, 8, [.nilFunc]⟩), (153, ⟨.fn, 1, 8, [.nilFunc]⟩), (154, ⟨.fn, 1, 8, [.nilFunc]⟩), (155, ⟨.fn, 1, 8, [.nilFunc]⟩), (156, ⟨.fn, 1, 8, [.nilFunc]⟩), (157, ⟨.fn, 1, 8, [.nilFunc]⟩), (158, ⟨.fn, 1, 8, [.nilFunc]⟩), (159, ⟨.fn, 1, 8, [.nilFunc]⟩), (160, ⟨.fn, 1, 8, [.nilFunc]⟩), (161, ⟨.fn, 1, 8, [.nilFunc]⟩), (162, ⟨.int .u64, 1, 8, [.int .u64 0]⟩), (163, ⟨.fn, 1, 8, [.nilFunc]⟩), (164, ⟨.ptr 170, 1, 8, [.pointer none]⟩), (166, ⟨.fn, 1, 8, [.nilFunc]⟩), (167, ⟨.fn, 1, 8, [.nilFunc]⟩), (168, ⟨.fn, 1, 8, [.nilFunc]⟩), (169, ⟨.struct [(0, 26), (2, 35), (3, 86), (4, 101)], 5, 88, [.int .i64 0, .int .i64 0, .slice none 0 0, .slice none 0 0, .slice none 0 0]⟩), (170, ⟨.struct [(0, 26), (2, 35), (3, 86), (4, 101)], 5, 88, [.int .i64 0, .int .i64 0, .slice none 0 0, .slice none 0 0, .slice none 0 0]⟩), (171, ⟨.fn, 1, 8, [.nilFunc]⟩), (172, ⟨.fn, 1, 8, [.nilFunc]⟩), (173, ⟨.fn, 1, 8, [.nilFunc]⟩), (174, ⟨.fn, 1, 8, [.nilFunc]⟩), (175, ⟨.fn, 1, 8, [.nilFunc]⟩), (176, ⟨.fn, 1, 8, [.nilFunc]⟩), (177, ⟨.fn, 1, 8, [.nilFunc]⟩), (178, ⟨.fn, 1, 8, [.nilFunc]⟩), (179, ⟨.fn, 1, 8, [.nilFunc]⟩), (180, ⟨.fn, 1, 8, [.nilFunc]⟩), (181, ⟨.slice 3, 1, 24, [.slice none 0 0]⟩), (182, ⟨.fn, 1, 8, [.nilFunc]⟩), (183, ⟨.int .u64, 1, 8, [.int .u64 0]⟩), (185, ⟨.fn, 1, 8, [.nilFunc]⟩), (186, ⟨.slice 189, 1, 24, [.slice none 0 0]⟩), (187, ⟨.struct [(0, 186), (1, 101)], 2, 48, [.slice none 0 0, .slice none 0 0]⟩), (188, ⟨.struct [(0, 186), (1, 101)], 2, 48, [.slice none 0 0, .slice none 0 0]⟩), (189, ⟨.slice 122, 1, 24, [.slice none 0 0]⟩), (190, ⟨.fn, 1, 8, [.nilFunc]⟩), (191, ⟨.fn, 1, 8, [.nilFunc]⟩), (192, ⟨.struct [(0, 46), (1, 3), (2, 162)], 3, 40, [.slice none 0 0, .int .i64 0, .int .u64 0]⟩), (193, ⟨.struct [(0, 46), (1, 3), (2, 162)], 3, 40, [.slice none 0 0, .int .i64 0, .int .u64 0]⟩), (194, ⟨.fn, 1, 8, [.nilFunc]⟩), (195, ⟨.fn, 1, 8, [.nilFunc]⟩), (196, ⟨.fn, 1, 8, [.nilFunc]⟩), (197, ⟨.fn, 1, 8, [.nilFunc]⟩), (198, ⟨.fn, 1, 8, [.nilFunc]⟩), (199, ⟨.fn, 1, 8, [.nilFunc]⟩), (200, ⟨.int .u32, 1, 4, [.int .u32 0]⟩), (202, ⟨.fn, 1, 8, [.nilFunc]⟩), (204, ⟨.fn, 1, 8, [.nilFunc]⟩), (205, ⟨.fn, 1, 8, [.nilFunc]⟩), (206, ⟨.fn, 1, 8, [.nilFunc]⟩), (207, ⟨.fn, 1, 8, [.nilFunc]⟩), (208, ⟨.fn, 1, 8, [.nilFunc]⟩), (209, ⟨.fn, 1, 8, [.nilFunc]⟩), (210, ⟨.fn, 1, 8, [.nilFunc]⟩), (211, ⟨.struct [(0, 17), (1, 17), (2, 17), (3, 9)], 4, 40, [.pointer none, .pointer none, .pointer none, .string ByteArray.empty]⟩), (212, ⟨.struct [(0, 17), (1, 17), (2, 17), (3, 9)], 4, 40, [.pointer none, .pointer none, .pointer none, .string ByteArray.empty]⟩), (214, ⟨.struct [(0, 213)], 0, 0, []⟩), (215, ⟨.struct [(0, 213)], 0, 0, []⟩), (216, ⟨.fn, 1, 8, [.nilFunc]⟩), (217, ⟨.int .u8, 1, 1, [.int .u8 0]⟩), (218, ⟨.int .u8, 1, 1, [.int .u8 0]⟩), (219, ⟨.fn, 1, 8, [.nilFunc]⟩), (220, ⟨.ptr 5, 1, 8, [.pointer none]⟩), (221, ⟨.int .i32, 1, 4, [.int .i32 0]⟩), (222, ⟨.int .i32, 1, 4, [.int .i32 0]⟩), (223, ⟨.struct [(0, 12), (1, 12), (2, 200), (3, 217), (4, 5), (5, 5), (6, 218), (7, 219), (8, 220), (9, 221), (10, 222)], 11, 48, [.int .u64 0, .int .u64 0, .int .u32 0, .int .u8 0, .int .u8 0, .int .u8 0, .int .u8 0, .nilFunc, .pointer none, .int .i32 0, .int .i32 0]⟩), (224, ⟨.struct [(0, 12), (1, 12), (2, 200), (3, 217), (4, 5), (5, 5), (6, 218), (7, 219), (8, 220), (9, 221), (10, 222)], 11, 48, [.int .u64 0, .int .u64 0, .int .u32 0, .int .u8 0, .int .u8 0, .int .u8 0, .int .u8 0, .nilFunc, .pointer none, .int .i32 0, .int .i32 0]⟩)]
def tb : TypeId → Option TI := Go.V.look tbl
theorem tbEq : tbl.map (fun p => entryOf Try.prog p.1) = tbl.map (fun p => some p.2) := by kernel_rfl
theorem tbOk : TbOK Try.prog tb := tb_of tbEq
theorem mixOk : Try.prog.follows .mixedOrders = true := by kernel_rfl

/-! laws_big: function 28 -/
noncomputable def laws_big.f (l0 : List Int) : Option (Bool) := some (decide (4096 < (l0.length : Int)))
noncomputable def S28 (k : Nat) : Does := ⟨[(false, [.dat (.list (.int .u8))])], [(false, [.dat .bool])], fun x => laws_big.f x⟩
noncomputable def E28 (k : Nat) : En := ⟨tb, orcOf [], lvOf [], k, 0, lvOf [], []⟩
theorem e28 (k : Nat) (x : dens (flatC (S28 k).ps)) : funK (E28 k) (S28 k) Try.f28 x = (S28 k).fn x := by
  kernel_rfl
theorem M28 (k : Nat) : Meets Try.prog 28 (S28 k) := meets_of Try.func28 (by kernel_rfl) tbOk orc_nil mixOk (fun x y h => (e28 k x).trans h) rfl

/-! spec_l01From: function 135 -/
noncomputable def spec_l01From.s0 (k : Nat) (r0 : (List Int) → (List Int) → Int → Int → Int → Option (((List Int) × Int × Int))) (x0 : List Int) (x3_0 : List Int) (x3_1 : Int) (x3_2 : Int) (x4 : Int) : Option (((List Int) × Int × Int)) := if x4 < (x0.length : Int) then (if x4 < 4096 then (if 0 ≤ x4 then (if x4 < (x0.length : Int) then (r0 x0 x3_0 x3_1 (IntKind.wrap .u64 ((IntKind.wrap .u64 ((IntKind.wrap .u64 (x3_2 * 1099511628211)) + (IntKind.wrap .u64 ((rd x0 x4))))) + 241)) (wrap64 (x4 + 1))) else (none)) else (none)) else (some (x3_0, x3_1, x3_2))) else (some (x3_0, x3_1, x3_2))
noncomputable def spec_l01From.l0 (k : Nat) : Nat → (List Int) → (List Int) → Int → Int → Int → Option (((List Int) × Int × Int))
  | 0, _, _, _, _, _ => none
  | n + 1, x0, x1, x2, x3, x4 => spec_l01From.s0 k (spec_l01From.l0 k n) x0 x1 x2 x3 x4
noncomputable def spec_l01From.g (k : Nat) (r0 : (List Int) → (List Int) → Int → Int → Int → Option (((List Int) × Int × Int))) (l0 : List Int) : Option (((List Int) × Int × Int)) := r0 l0 l0 0 (IntKind.wrap .u64 (14041 + (IntKind.wrap .u64 ((l0.length : Int))))) 0
noncomputable def spec_l01From.f (k : Nat) (l0 : List Int) : Option (((List Int) × Int × Int)) := spec_l01From.g k (spec_l01From.l0 k k) l0
noncomputable def S135 (k : Nat) : Does := ⟨[(false, [.dat (.list (.int .u8))])], [(false, [.cel (.struct (.pair (.list (.int .u8)) (.pair (.int .i64) (.int .u64))))])], fun x => spec_l01From.f k x⟩
noncomputable def E135 (k : Nat) : En := ⟨tb, orcOf [], lvOf [(0, [(0, []), (3, []), (4, [])])], k, 0, lvOf [], []⟩
noncomputable def n135_0 (x0 : List Int) (x3_0 : List Int) (x3_1 : Int) (x3_2 : Int) (x4 : Int) : St := ⟨38, lookA [(0, .dat (.list (.int .u8)) x0), (3, .box 0 0), (4, .dat (.int .i64) x4)], Go.V.look [(0, .cells [.dat (.list (.int .u8)) x3_0, .dat (.int .i64) x3_1, .dat (.int .u64) x3_2])]⟩
def p135_0 : List Bool := [true, true, false, true, false]
theorem r135_0 (k : Nat) (rec : St → Option (((List Int) × Int × Int))) (v : (List Int) × (List Int) × Int × Int × Int) : roundF (E135 k) (S135 k) Try.f135 p135_0 [] rec (n135_0 v.1 v.2.1 v.2.2.1 v.2.2.2.1 v.2.2.2.2) = spec_l01From.s0 k (fun a0 a1 a2 a3 a4 => rec (n135_0 a0 a1 a2 a3 a4)) v.1 v.2.1 v.2.2.1 v.2.2.2.1 v.2.2.2.2 := by
  kernel_rfl
theorem q135_0 (k : Nat) (n : Nat) : ∀ v : (List Int) × (List Int) × Int × Int × Int, loopF (E135 k) (S135 k) Try.f135 p135_0 [] n (n135_0 v.1 v.2.1 v.2.2.1 v.2.2.2.1 v.2.2.2.2) = spec_l01From.l0 k n v.1 v.2.1 v.2.2.1 v.2.2.2.1 v.2.2.2.2 :=
  loopF_eq (E135 k) (S135 k) Try.f135 p135_0 [] (fun v : (List Int) × (List Int) × Int × Int × Int => n135_0 v.1 v.2.1 v.2.2.1 v.2.2.2.1 v.2.2.2.2) (fun rec v => spec_l01From.s0 k (fun a0 a1 a2 a3 a4 => rec (a0, a1, a2, a3, a4)) v.1 v.2.1 v.2.2.1 v.2.2.2.1 v.2.2.2.2) (fun n v => spec_l01From.l0 k n v.1 v.2.1 v.2.2.1 v.2.2.2.1 v.2.2.2.2) (fun _ => rfl) (fun _ _ => rfl) (fun rec v => r135_0 k rec v) n
theorem e135 (k : Nat) (x : dens (flatC (S135 k).ps)) : funK (E135 k) (S135 k) Try.f135 x = (S135 k).fn x := by
  have h : funK (E135 k) (S135 k) Try.f135 x = spec_l01From.g k (fun a0 a1 a2 a3 a4 => loopF (E135 k) (S135 k) Try.f135 p135_0 [] k (n135_0 a0 a1 a2 a3 a4)) x := by kernel_rfl
  rw [h]
  rw [show (fun a0 a1 a2 a3 a4 => loopF (E135 k) (S135 k) Try.f135 p135_0 [] k (n135_0 a0 a1 a2 a3 a4)) = spec_l01From.l0 k k from funext fun a0 => funext fun a1 => funext fun a2 => funext fun a3 => funext fun a4 => q135_0 k k (a0, a1, a2, a3, a4)]
  rfl
theorem M135 (k : Nat) : Meets Try.prog 135 (S135 k) := meets_of Try.func135 (by kernel_rfl) tbOk orc_nil mixOk (fun x y h => (e135 k x).trans h) rfl

/-! spec_l01Next: function 147 -/
noncomputable def spec_l01Next.f (a0 : (List Int) × Int × Int) (a1 : Int) : Option (Int × ((List Int) × Int × Int)) := if a1 < 1 then (some (0, a0.1, a0.2.1, a0.2.2)) else (if a0.2.1 < (a0.1.length : Int) then (if 0 ≤ a0.2.1 then (if a0.2.1 < (a0.1.length : Int) then (if a1 = 0 then (none) else (some ((Int.tmod (wrap64 ((wrap64 ((andV .u64 (shrV .u64 (IntKind.wrap .u64 ((IntKind.wrap .u64 (a0.2.2 * 6364136223846793005)) + 1442695040888963407)) 33) 16777215))) + (wrap64 ((rd a0.1 a0.2.1))))) a1), a0.1, (wrap64 (a0.2.1 + 1)), (IntKind.wrap .u64 ((IntKind.wrap .u64 (a0.2.2 * 6364136223846793005)) + 1442695040888963407))))) else (none)) else (none)) else (if a1 = 0 then (none) else (some ((Int.tmod (wrap64 ((andV .u64 (shrV .u64 (IntKind.wrap .u64 ((IntKind.wrap .u64 (a0.2.2 * 6364136223846793005)) + 1442695040888963407)) 33) 16777215))) a1), a0.1, a0.2.1, (IntKind.wrap .u64 ((IntKind.wrap .u64 (a0.2.2 * 6364136223846793005)) + 1442695040888963407))))))
noncomputable def S147 (k : Nat) : Does := ⟨[(false, [.cel (.struct (.pair (.list (.int .u8)) (.pair (.int .i64) (.int .u64))))]), (false, [.dat (.int .i64)])], [(false, [.dat (.int .i64)])], fun x => spec_l01Next.f x.1 x.2⟩
noncomputable def E147 (k : Nat) : En := ⟨tb, orcOf [], lvOf [], k, 1, lvOf [], []⟩
theorem e147 (k : Nat) (x : dens (flatC (S147 k).ps)) : funK (E147 k) (S147 k) Try.f147 x = (S147 k).fn x := by
  kernel_rfl
theorem M147 (k : Nat) : Meets Try.prog 147 (S147 k) := meets_of Try.func147 (by kernel_rfl) tbOk orc_nil mixOk (fun x y h => (e147 k x).trans h) rfl

/-! spec_l01Own: function 120 -/
noncomputable def spec_l01Own.f (l0 : List Int) : Option ((List Int)) := if 0 + l0.length ≤ 1099511627776 then (some ([] ++ l0)) else (none)
noncomputable def S120 (k : Nat) : Does := ⟨[(false, [.dat (.list (.int .i64))])], [(false, [.own 2 (.int .i64)])], fun x => spec_l01Own.f x⟩
noncomputable def E120 (k : Nat) : En := ⟨tb, orcOf [], lvOf [], k, 0, lvOf [], []⟩
theorem e120 (k : Nat) (x : dens (flatC (S120 k).ps)) : funK (E120 k) (S120 k) Try.f120 x = (S120 k).fn x := by
  kernel_rfl
theorem M120 (k : Nat) : Meets Try.prog 120 (S120 k) := meets_of Try.func120 (by kernel_rfl) tbOk orc_nil mixOk (fun x y h => (e120 k x).trans h) rfl

/-! spec_l01K: function 142 -/
noncomputable def spec_l01K.f (l0_0 : List Int) : Option (Int) := some (l0_0.length : Int)
noncomputable def S142 (k : Nat) : Does := ⟨[(true, [.dat (.list (.int .i64))])], [(false, [.dat (.int .i64)])], fun x => spec_l01K.f x⟩
noncomputable def E142 (k : Nat) : En := ⟨tb, orcOf [], lvOf [], k, 0, lvOf [], []⟩
theorem e142 (k : Nat) (x : dens (flatC (S142 k).ps)) : funK (E142 k) (S142 k) Try.f142 x = (S142 k).fn x := by
  kernel_rfl
theorem M142 (k : Nat) : Meets Try.prog 142 (S142 k) := meets_of Try.func142 (by kernel_rfl) tbOk orc_nil mixOk (fun x y h => (e142 k x).trans h) rfl

/-! spec_l01Pick: function 136 -/
noncomputable def spec_l01Pick.f (a0 : (List Int) × Int × Int) (l1 : List Int) : Option (Int × ((List Int) × Int × Int)) := (spec_l01Next.f (a0.1, a0.2.1, a0.2.2) (l1.length : Int)).bind fun t1 => if 0 ≤ t1.1 then (if t1.1 < (l1.length : Int) then (some ((rd l1 t1.1), t1.2.1, t1.2.2.1, t1.2.2.2)) else (none)) else (none)
noncomputable def S136 (k : Nat) : Does := ⟨[(false, [.cel (.struct (.pair (.list (.int .u8)) (.pair (.int .i64) (.int .u64))))]), (false, [.dat (.list (.int .i64))])], [(false, [.dat (.int .i64)])], fun x => spec_l01Pick.f x.1 x.2⟩
noncomputable def E136 (k : Nat) : En := ⟨tb, orcOf [(147, S147 k)], lvOf [], k, 1, lvOf [], []⟩
theorem e136 (k : Nat) (x : dens (flatC (S136 k).ps)) : funK (E136 k) (S136 k) Try.f136 x = (S136 k).fn x := by
  kernel_rfl
theorem M136 (k : Nat) : Meets Try.prog 136 (S136 k) := meets_of Try.func136 (by kernel_rfl) tbOk (orc_cons (M147 k) orc_nil) mixOk (fun x y h => (e136 k x).trans h) rfl

/-! spec_l01DrawTurns: function 243 -/
noncomputable def spec_l01DrawTurns.s0 (k : Nat) (r0 : (List Int) → Int → Int → Int → (List Int) → Int → Int → Option ((List Int) × ((List Int) × Int × Int))) (x0_0 : List Int) (x0_1 : Int) (x0_2 : Int) (x1 : Int) (x5 : List Int) (x6 : Int) (x7 : Int) : Option ((List Int) × ((List Int) × Int × Int)) := if 0 < x7 then ((spec_l01Next.f (x0_0, x0_1, x0_2) x1).bind fun t4 => (spec_l01Next.f (t4.2.1, t4.2.2.1, t4.2.2.2) (wrap64 (x6 + 3))).bind fun t5 => if t5.1 = 0 then (if x5.length + 1 ≤ 1099511627776 then (r0 t5.2.1 t5.2.2.1 t5.2.2.2 x1 (x5 ++ [(-1)]) x6 (wrap64 (x7 - 1))) else (none)) else (if x5.length + 1 ≤ 1099511627776 then (r0 t5.2.1 t5.2.2.1 t5.2.2.2 x1 (x5 ++ [t4.1]) x6 (wrap64 (x7 - 1))) else (none))) else (some (x5, x0_0, x0_1, x0_2))
noncomputable def spec_l01DrawTurns.l0 (k : Nat) : Nat → (List Int) → Int → Int → Int → (List Int) → Int → Int → Option ((List Int) × ((List Int) × Int × Int))
  | 0, _, _, _, _, _, _, _ => none
  | n + 1, x0, x1, x2, x3, x4, x5, x6 => spec_l01DrawTurns.s0 k (spec_l01DrawTurns.l0 k n) x0 x1 x2 x3 x4 x5 x6
noncomputable def spec_l01DrawTurns.g (k : Nat) (r0 : (List Int) → Int → Int → Int → (List Int) → Int → Int → Option ((List Int) × ((List Int) × Int × Int))) (a0 : (List Int) × Int × Int) (a1 : Int) : Option ((List Int) × ((List Int) × Int × Int)) := (spec_l01Pick.f (a0.1, a0.2.1, a0.2.2) [1, 4, 20]).bind fun t1 => (spec_l01Pick.f (t1.2.1, t1.2.2.1, t1.2.2.2) [6, 12, 40, 120]).bind fun t2 => (spec_l01Next.f (t2.2.1, t2.2.2.1, t2.2.2.2) t2.1).bind fun t3 => r0 t3.2.1 t3.2.2.1 t3.2.2.2 a1 [] t1.1 (wrap64 (1 + t3.1))
noncomputable def spec_l01DrawTurns.f (k : Nat) (a0 : (List Int) × Int × Int) (a1 : Int) : Option ((List Int) × ((List Int) × Int × Int)) := spec_l01DrawTurns.g k (spec_l01DrawTurns.l0 k k) a0 a1
noncomputable def S243 (k : Nat) : Does := ⟨[(false, [.cel (.struct (.pair (.list (.int .u8)) (.pair (.int .i64) (.int .u64))))]), (false, [.dat (.int .i64)])], [(false, [.own 2 (.int .i64)])], fun x => spec_l01DrawTurns.f k x.1 x.2⟩
noncomputable def E243 (k : Nat) : En := ⟨tb, orcOf [(136, S136 k), (147, S147 k)], lvOf [(0, [(0, []), (1, []), (5, []), (6, []), (7, [])])], k, 1, lvOf [], []⟩
noncomputable def n243_0 (x0_0 : List Int) (x0_1 : Int) (x0_2 : Int) (x1 : Int) (x5 : List Int) (x6 : Int) (x7 : Int) : St := ⟨36, lookA [(0, .box 0 0), (1, .dat (.int .i64) x1), (5, .own 1), (6, .dat (.int .i64) x6), (7, .dat (.int .i64) x7)], Go.V.look [(0, .cells [.dat (.list (.int .u8)) x0_0, .dat (.int .i64) x0_1, .dat (.int .u64) x0_2]), (1, .flat 2 (.int .i64) x5)]⟩
def p243_0 : List Bool := [true, true, false, true, false]
theorem r243_0 (k : Nat) (rec : St → Option ((List Int) × ((List Int) × Int × Int))) (v : (List Int) × Int × Int × Int × (List Int) × Int × Int) : roundF (E243 k) (S243 k) Try.f243 p243_0 [] rec (n243_0 v.1 v.2.1 v.2.2.1 v.2.2.2.1 v.2.2.2.2.1 v.2.2.2.2.2.1 v.2.2.2.2.2.2) = spec_l01DrawTurns.s0 k (fun a0 a1 a2 a3 a4 a5 a6 => rec (n243_0 a0 a1 a2 a3 a4 a5 a6)) v.1 v.2.1 v.2.2.1 v.2.2.2.1 v.2.2.2.2.1 v.2.2.2.2.2.1 v.2.2.2.2.2.2 := by
  kernel_rfl
theorem q243_0 (k : Nat) (n : Nat) : ∀ v : (List Int) × Int × Int × Int × (List Int) × Int × Int, loopF (E243 k) (S243 k) Try.f243 p243_0 [] n (n243_0 v.1 v.2.1 v.2.2.1 v.2.2.2.1 v.2.2.2.2.1 v.2.2.2.2.2.1 v.2.2.2.2.2.2) = spec_l01DrawTurns.l0 k n v.1 v.2.1 v.2.2.1 v.2.2.2.1 v.2.2.2.2.1 v.2.2.2.2.2.1 v.2.2.2.2.2.2 :=
  loopF_eq (E243 k) (S243 k) Try.f243 p243_0 [] (fun v : (List Int) × Int × Int × Int × (List Int) × Int × Int => n243_0 v.1 v.2.1 v.2.2.1 v.2.2.2.1 v.2.2.2.2.1 v.2.2.2.2.2.1 v.2.2.2.2.2.2) (fun rec v => spec_l01DrawTurns.s0 k (fun a0 a1 a2 a3 a4 a5 a6 => rec (a0, a1, a2, a3, a4, a5, a6)) v.1 v.2.1 v.2.2.1 v.2.2.2.1 v.2.2.2.2.1 v.2.2.2.2.2.1 v.2.2.2.2.2.2) (fun n v => spec_l01DrawTurns.l0 k n v.1 v.2.1 v.2.2.1 v.2.2.2.1 v.2.2.2.2.1 v.2.2.2.2.2.1 v.2.2.2.2.2.2) (fun _ => rfl) (fun _ _ => rfl) (fun rec v => r243_0 k rec v) n
theorem e243 (k : Nat) (x : dens (flatC (S243 k).ps)) : funK (E243 k) (S243 k) Try.f243 x = (S243 k).fn x := by
  have h : funK (E243 k) (S243 k) Try.f243 x = spec_l01DrawTurns.g k (fun a0 a1 a2 a3 a4 a5 a6 => loopF (E243 k) (S243 k) Try.f243 p243_0 [] k (n243_0 a0 a1 a2 a3 a4 a5 a6)) x.1 x.2 := by kernel_rfl
  rw [h]
  rw [show (fun a0 a1 a2 a3 a4 a5 a6 => loopF (E243 k) (S243 k) Try.f243 p243_0 [] k (n243_0 a0 a1 a2 a3 a4 a5 a6)) = spec_l01DrawTurns.l0 k k from funext fun a0 => funext fun a1 => funext fun a2 => funext fun a3 => funext fun a4 => funext fun a5 => funext fun a6 => q243_0 k k (a0, a1, a2, a3, a4, a5, a6)]
  rfl
theorem M243 (k : Nat) : Meets Try.prog 243 (S243 k) := meets_of Try.func243 (by kernel_rfl) tbOk (orc_cons (M136 k) (orc_cons (M147 k) orc_nil)) mixOk (fun x y h => (e243 k x).trans h) rfl

/-! spec_l01Waits: function 222 -/
noncomputable def spec_l01Waits.s0 (k : Nat) (r0 : (List Int) → Int → (List Int) → Int → Int → Int → Option ((List Int))) (x0 : List Int) (x1 : Int) (x5 : List Int) (x6 : Int) (x7 : Int) (x8 : Int) : Option ((List Int)) := if x8 < (x0.length : Int) then (if 0 ≤ x8 then (if x8 < (x0.length : Int) then (if (rd x0 x8) = x1 then (if x6 < 0 then (r0 x0 x1 x5 x8 x8 (wrap64 (x8 + 1))) else (if x5.length + 1 ≤ 1099511627776 then (r0 x0 x1 (x5 ++ [(wrap64 (x8 - x7))]) x6 x8 (wrap64 (x8 + 1))) else (none))) else (r0 x0 x1 x5 x6 x7 (wrap64 (x8 + 1)))) else (none)) else (none)) else (if 0 ≤ x6 then (if x5.length + 1 ≤ 1099511627776 then (some (x5 ++ [(wrap64 ((wrap64 ((x0.length : Int) - x7)) + x6))])) else (none)) else (some x5))
noncomputable def spec_l01Waits.l0 (k : Nat) : Nat → (List Int) → Int → (List Int) → Int → Int → Int → Option ((List Int))
  | 0, _, _, _, _, _, _ => none
  | n + 1, x0, x1, x2, x3, x4, x5 => spec_l01Waits.s0 k (spec_l01Waits.l0 k n) x0 x1 x2 x3 x4 x5
noncomputable def spec_l01Waits.g (k : Nat) (r0 : (List Int) → Int → (List Int) → Int → Int → Int → Option ((List Int))) (l0 : List Int) (a1 : Int) : Option ((List Int)) := r0 l0 a1 [] (-1) (-1) 0
noncomputable def spec_l01Waits.f (k : Nat) (l0 : List Int) (a1 : Int) : Option ((List Int)) := spec_l01Waits.g k (spec_l01Waits.l0 k k) l0 a1
noncomputable def S222 (k : Nat) : Does := ⟨[(false, [.dat (.list (.int .i64))]), (false, [.dat (.int .i64)])], [(false, [.own 2 (.int .i64)])], fun x => spec_l01Waits.f k x.1 x.2⟩
noncomputable def E222 (k : Nat) : En := ⟨tb, orcOf [], lvOf [(0, [(0, []), (1, []), (5, []), (6, []), (7, []), (8, [])])], k, 0, lvOf [], []⟩
noncomputable def n222_0 (x0 : List Int) (x1 : Int) (x5 : List Int) (x6 : Int) (x7 : Int) (x8 : Int) : St := ⟨44, lookA [(0, .dat (.list (.int .i64)) x0), (1, .dat (.int .i64) x1), (5, .own 0), (6, .dat (.int .i64) x6), (7, .dat (.int .i64) x7), (8, .dat (.int .i64) x8)], Go.V.look [(0, .flat 2 (.int .i64) x5)]⟩
def p222_0 : List Bool := [true, true, false, true, false]
theorem r222_0 (k : Nat) (rec : St → Option ((List Int))) (v : (List Int) × Int × (List Int) × Int × Int × Int) : roundF (E222 k) (S222 k) Try.f222 p222_0 [] rec (n222_0 v.1 v.2.1 v.2.2.1 v.2.2.2.1 v.2.2.2.2.1 v.2.2.2.2.2) = spec_l01Waits.s0 k (fun a0 a1 a2 a3 a4 a5 => rec (n222_0 a0 a1 a2 a3 a4 a5)) v.1 v.2.1 v.2.2.1 v.2.2.2.1 v.2.2.2.2.1 v.2.2.2.2.2 := by
  kernel_rfl
theorem q222_0 (k : Nat) (n : Nat) : ∀ v : (List Int) × Int × (List Int) × Int × Int × Int, loopF (E222 k) (S222 k) Try.f222 p222_0 [] n (n222_0 v.1 v.2.1 v.2.2.1 v.2.2.2.1 v.2.2.2.2.1 v.2.2.2.2.2) = spec_l01Waits.l0 k n v.1 v.2.1 v.2.2.1 v.2.2.2.1 v.2.2.2.2.1 v.2.2.2.2.2 :=
  loopF_eq (E222 k) (S222 k) Try.f222 p222_0 [] (fun v : (List Int) × Int × (List Int) × Int × Int × Int => n222_0 v.1 v.2.1 v.2.2.1 v.2.2.2.1 v.2.2.2.2.1 v.2.2.2.2.2) (fun rec v => spec_l01Waits.s0 k (fun a0 a1 a2 a3 a4 a5 => rec (a0, a1, a2, a3, a4, a5)) v.1 v.2.1 v.2.2.1 v.2.2.2.1 v.2.2.2.2.1 v.2.2.2.2.2) (fun n v => spec_l01Waits.l0 k n v.1 v.2.1 v.2.2.1 v.2.2.2.1 v.2.2.2.2.1 v.2.2.2.2.2) (fun _ => rfl) (fun _ _ => rfl) (fun rec v => r222_0 k rec v) n
theorem e222 (k : Nat) (x : dens (flatC (S222 k).ps)) : funK (E222 k) (S222 k) Try.f222 x = (S222 k).fn x := by
  have h : funK (E222 k) (S222 k) Try.f222 x = spec_l01Waits.g k (fun a0 a1 a2 a3 a4 a5 => loopF (E222 k) (S222 k) Try.f222 p222_0 [] k (n222_0 a0 a1 a2 a3 a4 a5)) x.1 x.2 := by kernel_rfl
  rw [h]
  rw [show (fun a0 a1 a2 a3 a4 a5 => loopF (E222 k) (S222 k) Try.f222 p222_0 [] k (n222_0 a0 a1 a2 a3 a4 a5)) = spec_l01Waits.l0 k k from funext fun a0 => funext fun a1 => funext fun a2 => funext fun a3 => funext fun a4 => funext fun a5 => q222_0 k k (a0, a1, a2, a3, a4, a5)]
  rfl
theorem M222 (k : Nat) : Meets Try.prog 222 (S222 k) := meets_of Try.func222 (by kernel_rfl) tbOk orc_nil mixOk (fun x y h => (e222 k x).trans h) rfl

/-! spec_l01Greatest: function 189 -/
noncomputable def spec_l01Greatest.s0 (k : Nat) (r0 : (List Int) → Int → Int → Option (Int)) (x5 : List Int) (x6 : Int) (x7 : Int) : Option (Int) := if x7 < (x5.length : Int) then (if 0 ≤ x7 then (if x7 < (x5.length : Int) then (r0 x5 (maxV x6 (rd x5 x7)) (wrap64 (x7 + 1))) else (none)) else (none)) else (some x6)
noncomputable def spec_l01Greatest.l0 (k : Nat) : Nat → (List Int) → Int → Int → Option (Int)
  | 0, _, _, _ => none
  | n + 1, x0, x1, x2 => spec_l01Greatest.s0 k (spec_l01Greatest.l0 k n) x0 x1 x2
noncomputable def spec_l01Greatest.g (k : Nat) (r0 : (List Int) → Int → Int → Option (Int)) (l0 : List Int) (a1 : Int) : Option (Int) := (spec_l01Waits.f k l0 a1).bind fun t1 => r0 t1 0 0
noncomputable def spec_l01Greatest.f (k : Nat) (l0 : List Int) (a1 : Int) : Option (Int) := spec_l01Greatest.g k (spec_l01Greatest.l0 k k) l0 a1
noncomputable def S189 (k : Nat) : Does := ⟨[(false, [.dat (.list (.int .i64))]), (false, [.dat (.int .i64)])], [(false, [.dat (.int .i64)])], fun x => spec_l01Greatest.f k x.1 x.2⟩
noncomputable def E189 (k : Nat) : En := ⟨tb, orcOf [(222, S222 k)], lvOf [(0, [(5, []), (6, []), (7, [])])], k, 0, lvOf [], []⟩
noncomputable def n189_0 (x5 : List Int) (x6 : Int) (x7 : Int) : St := ⟨24, lookA [(5, .own 0), (6, .dat (.int .i64) x6), (7, .dat (.int .i64) x7)], Go.V.look [(0, .flat 2 (.int .i64) x5)]⟩
def p189_0 : List Bool := [true, true, false, true, false]
theorem r189_0 (k : Nat) (rec : St → Option (Int)) (v : (List Int) × Int × Int) : roundF (E189 k) (S189 k) Try.f189 p189_0 [] rec (n189_0 v.1 v.2.1 v.2.2) = spec_l01Greatest.s0 k (fun a0 a1 a2 => rec (n189_0 a0 a1 a2)) v.1 v.2.1 v.2.2 := by
  kernel_rfl
theorem q189_0 (k : Nat) (n : Nat) : ∀ v : (List Int) × Int × Int, loopF (E189 k) (S189 k) Try.f189 p189_0 [] n (n189_0 v.1 v.2.1 v.2.2) = spec_l01Greatest.l0 k n v.1 v.2.1 v.2.2 :=
  loopF_eq (E189 k) (S189 k) Try.f189 p189_0 [] (fun v : (List Int) × Int × Int => n189_0 v.1 v.2.1 v.2.2) (fun rec v => spec_l01Greatest.s0 k (fun a0 a1 a2 => rec (a0, a1, a2)) v.1 v.2.1 v.2.2) (fun n v => spec_l01Greatest.l0 k n v.1 v.2.1 v.2.2) (fun _ => rfl) (fun _ _ => rfl) (fun rec v => r189_0 k rec v) n
theorem e189 (k : Nat) (x : dens (flatC (S189 k).ps)) : funK (E189 k) (S189 k) Try.f189 x = (S189 k).fn x := by
  have h : funK (E189 k) (S189 k) Try.f189 x = spec_l01Greatest.g k (fun a0 a1 a2 => loopF (E189 k) (S189 k) Try.f189 p189_0 [] k (n189_0 a0 a1 a2)) x.1 x.2 := by kernel_rfl
  rw [h]
  rw [show (fun a0 a1 a2 => loopF (E189 k) (S189 k) Try.f189 p189_0 [] k (n189_0 a0 a1 a2)) = spec_l01Greatest.l0 k k from funext fun a0 => funext fun a1 => funext fun a2 => q189_0 k k (a0, a1, a2)]
  rfl
theorem M189 (k : Nat) : Meets Try.prog 189 (S189 k) := meets_of Try.func189 (by kernel_rfl) tbOk (orc_cons (M222 k) orc_nil) mixOk (fun x y h => (e189 k x).trans h) rfl

/-! spec_l01DrawServed: function 241 -/
noncomputable def spec_l01DrawServed.s1 (k : Nat) (r1 : (List Int) → Int → Int → Int → (List Int) → (List Int) → Int → Option ((List Int) × (List Int) × ((List Int) × Int × Int))) (x0_0 : List Int) (x0_1 : Int) (x0_2 : Int) (x4 : Int) (x5 : List Int) (x7_0 : List Int) (x8 : Int) : Option ((List Int) × (List Int) × ((List Int) × Int × Int)) := if x8 < x4 then ((spec_l01Greatest.f k x5 x8).bind fun t5 => if t5 = 0 then ((spec_l01Next.f (x0_0, x0_1, x0_2) 4).bind fun t6 => if t6.1 = 0 then ((spec_l01Next.f (t6.2.1, t6.2.2.1, t6.2.2.2) 4).bind fun t7 => if x7_0.length + 1 ≤ 1099511627776 then (r1 t7.2.1 t7.2.2.1 t7.2.2.2 x4 x5 (x7_0 ++ [(maxV (minV (wrap64 ((wrap64 (40 + t7.1)) - 1)) 40) 1)]) (wrap64 (x8 + 1))) else (none)) else (if x7_0.length + 1 ≤ 1099511627776 then (r1 t6.2.1 t6.2.2.1 t6.2.2.2 x4 x5 (x7_0 ++ [(maxV (minV 40 40) 1)]) (wrap64 (x8 + 1))) else (none))) else ((spec_l01Next.f (x0_0, x0_1, x0_2) 4).bind fun t8 => if t8.1 = 0 then ((spec_l01Next.f (t8.2.1, t8.2.2.1, t8.2.2.2) 4).bind fun t9 => if x7_0.length + 1 ≤ 1099511627776 then (r1 t9.2.1 t9.2.2.1 t9.2.2.2 x4 x5 (x7_0 ++ [(maxV (minV (wrap64 ((wrap64 (t5 + t9.1)) - 1)) 40) 1)]) (wrap64 (x8 + 1))) else (none)) else (if x7_0.length + 1 ≤ 1099511627776 then (r1 t8.2.1 t8.2.2.1 t8.2.2.2 x4 x5 (x7_0 ++ [(maxV (minV t5 40) 1)]) (wrap64 (x8 + 1))) else (none)))) else (some (x7_0, x5, x0_0, x0_1, x0_2))
noncomputable def spec_l01DrawServed.l1 (k : Nat) : Nat → (List Int) → Int → Int → Int → (List Int) → (List Int) → Int → Option ((List Int) × (List Int) × ((List Int) × Int × Int))
  | 0, _, _, _, _, _, _, _ => none
  | n + 1, x0, x1, x2, x3, x4, x5, x6 => spec_l01DrawServed.s1 k (spec_l01DrawServed.l1 k n) x0 x1 x2 x3 x4 x5 x6
noncomputable def spec_l01DrawServed.s0 (k : Nat) (r0 : (List Int) → Int → Int → Int → (List Int) → Int → Option ((List Int) × (List Int) × ((List Int) × Int × Int))) (r1 : (List Int) → Int → Int → Int → (List Int) → (List Int) → Int → Option ((List Int) × (List Int) × ((List Int) × Int × Int))) (x0_0 : List Int) (x0_1 : Int) (x0_2 : Int) (x4 : Int) (x5 : List Int) (x6 : Int) : Option ((List Int) × (List Int) × ((List Int) × Int × Int)) := if x6 < x4 then (if x6 < (x5.length : Int) then ((spec_l01Greatest.f k x5 x6).bind fun t4 => if t4 = 0 then (if 0 ≤ x6 then (if x6 < (x5.length : Int) then (r0 x0_0 x0_1 x0_2 x4 (x5.set x6.toNat x6) (wrap64 (x6 + 1))) else (none)) else (none)) else (r0 x0_0 x0_1 x0_2 x4 x5 (wrap64 (x6 + 1)))) else (r1 x0_0 x0_1 x0_2 x4 x5 [] 0)) else (r1 x0_0 x0_1 x0_2 x4 x5 [] 0)
noncomputable def spec_l01DrawServed.l0 (k : Nat) : Nat → (List Int) → Int → Int → Int → (List Int) → Int → Option ((List Int) × (List Int) × ((List Int) × Int × Int))
  | 0, _, _, _, _, _, _ => none
  | n + 1, x0, x1, x2, x3, x4, x5 => spec_l01DrawServed.s0 k (spec_l01DrawServed.l0 k n) (spec_l01DrawServed.l1 k k) x0 x1 x2 x3 x4 x5
noncomputable def spec_l01DrawServed.g (k : Nat) (r0 : (List Int) → Int → Int → Int → (List Int) → Int → Option ((List Int) × (List Int) × ((List Int) × Int × Int))) (a0 : (List Int) × Int × Int) : Option ((List Int) × (List Int) × ((List Int) × Int × Int)) := (spec_l01Pick.f (a0.1, a0.2.1, a0.2.2) [3, 5, 8]).bind fun t1 => (spec_l01Next.f (t1.2.1, t1.2.2.1, t1.2.2.2) t1.1).bind fun t2 => (spec_l01DrawTurns.f k (t2.2.1, t2.2.2.1, t2.2.2.2) (wrap64 (1 + t2.1))).bind fun t3 => r0 t3.2.1 t3.2.2.1 t3.2.2.2 (wrap64 (1 + t2.1)) t3.1 0
noncomputable def spec_l01DrawServed.f (k : Nat) (a0 : (List Int) × Int × Int) : Option ((List Int) × (List Int) × ((List Int) × Int × Int)) := spec_l01DrawServed.g k (spec_l01DrawServed.l0 k k) a0
noncomputable def S241 (k : Nat) : Does := ⟨[(false, [.cel (.struct (.pair (.list (.int .u8)) (.pair (.int .i64) (.int .u64))))])], [(true, [.own 2 (.int .i64)]), (false, [.own 2 (.int .i64)])], fun x => spec_l01DrawServed.f k x⟩
noncomputable def E241 (k : Nat) : En := ⟨tb, orcOf [(136, S136 k), (147, S147 k), (243, S243 k), (189, S189 k)], lvOf [(0, [(0, []), (2, []), (4, []), (5, []), (6, [])]), (2, [(0, []), (2, []), (4, []), (5, []), (7, []), (8, [])])], k, 1, lvOf [], []⟩
noncomputable def n241_0 (x0_0 : List Int) (x0_1 : Int) (x0_2 : Int) (x4 : Int) (x5 : List Int) (x6 : Int) : St := ⟨68, lookA [(0, .box 0 0), (2, .box 1 0), (4, .dat (.int .i64) x4), (5, .own 2), (6, .dat (.int .i64) x6)], Go.V.look [(0, .cells [.dat (.list (.int .u8)) x0_0, .dat (.int .i64) x0_1, .dat (.int .u64) x0_2]), (1, .cells [.nil]), (2, .flat 2 (.int .i64) x5)]⟩
def p241_0 : List Bool := [true, true, true, false, true, false]
noncomputable def n241_1 (x0_0 : List Int) (x0_1 : Int) (x0_2 : Int) (x4 : Int) (x5 : List Int) (x7_0 : List Int) (x8 : Int) : St := ⟨68, lookA [(0, .box 0 0), (2, .box 1 0), (4, .dat (.int .i64) x4), (5, .own 2), (7, .box 3 0), (8, .dat (.int .i64) x8)], Go.V.look [(0, .cells [.dat (.list (.int .u8)) x0_0, .dat (.int .i64) x0_1, .dat (.int .u64) x0_2]), (1, .cells [.nil]), (2, .flat 2 (.int .i64) x5), (3, .cells [.own 4]), (4, .flat 2 (.int .i64) x7_0)]⟩
def p241_1 : List Bool := [true, true, true, true, true, false, true, false]
theorem r241_1 (k : Nat) (rec : St → Option ((List Int) × (List Int) × ((List Int) × Int × Int))) (v : (List Int) × Int × Int × Int × (List Int) × (List Int) × Int) : roundF (E241 k) (S241 k) Try.f241 p241_1 [] rec (n241_1 v.1 v.2.1 v.2.2.1 v.2.2.2.1 v.2.2.2.2.1 v.2.2.2.2.2.1 v.2.2.2.2.2.2) = spec_l01DrawServed.s1 k (fun a0 a1 a2 a3 a4 a5 a6 => rec (n241_1 a0 a1 a2 a3 a4 a5 a6)) v.1 v.2.1 v.2.2.1 v.2.2.2.1 v.2.2.2.2.1 v.2.2.2.2.2.1 v.2.2.2.2.2.2 := by
  kernel_rfl
theorem q241_1 (k : Nat) (n : Nat) : ∀ v : (List Int) × Int × Int × Int × (List Int) × (List Int) × Int, loopF (E241 k) (S241 k) Try.f241 p241_1 [] n (n241_1 v.1 v.2.1 v.2.2.1 v.2.2.2.1 v.2.2.2.2.1 v.2.2.2.2.2.1 v.2.2.2.2.2.2) = spec_l01DrawServed.l1 k n v.1 v.2.1 v.2.2.1 v.2.2.2.1 v.2.2.2.2.1 v.2.2.2.2.2.1 v.2.2.2.2.2.2 :=
  loopF_eq (E241 k) (S241 k) Try.f241 p241_1 [] (fun v : (List Int) × Int × Int × Int × (List Int) × (List Int) × Int => n241_1 v.1 v.2.1 v.2.2.1 v.2.2.2.1 v.2.2.2.2.1 v.2.2.2.2.2.1 v.2.2.2.2.2.2) (fun rec v => spec_l01DrawServed.s1 k (fun a0 a1 a2 a3 a4 a5 a6 => rec (a0, a1, a2, a3, a4, a5, a6)) v.1 v.2.1 v.2.2.1 v.2.2.2.1 v.2.2.2.2.1 v.2.2.2.2.2.1 v.2.2.2.2.2.2) (fun n v => spec_l01DrawServed.l1 k n v.1 v.2.1 v.2.2.1 v.2.2.2.1 v.2.2.2.2.1 v.2.2.2.2.2.1 v.2.2.2.2.2.2) (fun _ => rfl) (fun _ _ => rfl) (fun rec v => r241_1 k rec v) n
theorem r241_0 (k : Nat) (rec : St → Option ((List Int) × (List Int) × ((List Int) × Int × Int))) (G1 : (List Int) → Int → Int → Int → (List Int) → (List Int) → Int → Option ((List Int) × (List Int) × ((List Int) × Int × Int))) (h1 : ∀ a0 a1 a2 a3 a4 a5 a6, loopF (E241 k) (S241 k) Try.f241 p241_1 [] k (n241_1 a0 a1 a2 a3 a4 a5 a6) = G1 a0 a1 a2 a3 a4 a5 a6) (v : (List Int) × Int × Int × Int × (List Int) × Int) : roundF (E241 k) (S241 k) Try.f241 p241_0 [] rec (n241_0 v.1 v.2.1 v.2.2.1 v.2.2.2.1 v.2.2.2.2.1 v.2.2.2.2.2) = spec_l01DrawServed.s0 k (fun a0 a1 a2 a3 a4 a5 => rec (n241_0 a0 a1 a2 a3 a4 a5)) G1 v.1 v.2.1 v.2.2.1 v.2.2.2.1 v.2.2.2.2.1 v.2.2.2.2.2 := by
  obtain rfl : (fun a0 a1 a2 a3 a4 a5 a6 => loopF (E241 k) (S241 k) Try.f241 p241_1 [] k (n241_1 a0 a1 a2 a3 a4 a5 a6)) = G1 := funext fun a0 => funext fun a1 => funext fun a2 => funext fun a3 => funext fun a4 => funext fun a5 => funext fun a6 => h1 a0 a1 a2 a3 a4 a5 a6
  kernel_rfl
theorem q241_0 (k : Nat) (n : Nat) : ∀ v : (List Int) × Int × Int × Int × (List Int) × Int, loopF (E241 k) (S241 k) Try.f241 p241_0 [] n (n241_0 v.1 v.2.1 v.2.2.1 v.2.2.2.1 v.2.2.2.2.1 v.2.2.2.2.2) = spec_l01DrawServed.l0 k n v.1 v.2.1 v.2.2.1 v.2.2.2.1 v.2.2.2.2.1 v.2.2.2.2.2 :=
  loopF_eq (E241 k) (S241 k) Try.f241 p241_0 [] (fun v : (List Int) × Int × Int × Int × (List Int) × Int => n241_0 v.1 v.2.1 v.2.2.1 v.2.2.2.1 v.2.2.2.2.1 v.2.2.2.2.2) (fun rec v => spec_l01DrawServed.s0 k (fun a0 a1 a2 a3 a4 a5 => rec (a0, a1, a2, a3, a4, a5)) (spec_l01DrawServed.l1 k k) v.1 v.2.1 v.2.2.1 v.2.2.2.1 v.2.2.2.2.1 v.2.2.2.2.2) (fun n v => spec_l01DrawServed.l0 k n v.1 v.2.1 v.2.2.1 v.2.2.2.1 v.2.2.2.2.1 v.2.2.2.2.2) (fun _ => rfl) (fun _ _ => rfl) (fun rec v => r241_0 k rec _ (fun a0 a1 a2 a3 a4 a5 a6 => q241_1 k k (a0, a1, a2, a3, a4, a5, a6)) v) n
theorem e241 (k : Nat) (x : dens (flatC (S241 k).ps)) : funK (E241 k) (S241 k) Try.f241 x = (S241 k).fn x := by
  have h : funK (E241 k) (S241 k) Try.f241 x = spec_l01DrawServed.g k (fun a0 a1 a2 a3 a4 a5 => loopF (E241 k) (S241 k) Try.f241 p241_0 [] k (n241_0 a0 a1 a2 a3 a4 a5)) x := by kernel_rfl
  rw [h]
  rw [show (fun a0 a1 a2 a3 a4 a5 => loopF (E241 k) (S241 k) Try.f241 p241_0 [] k (n241_0 a0 a1 a2 a3 a4 a5)) = spec_l01DrawServed.l0 k k from funext fun a0 => funext fun a1 => funext fun a2 => funext fun a3 => funext fun a4 => funext fun a5 => q241_0 k k (a0, a1, a2, a3, a4, a5)]
  rfl
theorem M241 (k : Nat) : Meets Try.prog 241 (S241 k) := meets_of Try.func241 (by kernel_rfl) tbOk (orc_cons (M136 k) (orc_cons (M147 k) (orc_cons (M243 k) (orc_cons (M189 k) orc_nil)))) mixOk (fun x y h => (e241 k x).trans h) rfl

/-! spec_l01DrawOf: function 242 -/
noncomputable def spec_l01DrawOf.s0 (k : Nat) (r0 : (List Int) → Int → Int → Int → (List Int) → Int → Option ((List Int) × ((List Int) × Int × Int))) (x0_0 : List Int) (x0_1 : Int) (x0_2 : Int) (x1 : Int) (x5_0 : List Int) (x6 : Int) : Option ((List Int) × ((List Int) × Int × Int)) := if x6 < x1 then ((spec_l01Pick.f (x0_0, x0_1, x0_2) [4, 8, 12, 40]).bind fun t1 => (spec_l01Next.f (t1.2.1, t1.2.2.1, t1.2.2.2) t1.1).bind fun t2 => if x5_0.length + 1 ≤ 1099511627776 then (r0 t2.2.1 t2.2.2.1 t2.2.2.2 x1 (x5_0 ++ [(wrap64 (1 + t2.1))]) (wrap64 (x6 + 1))) else (none)) else (some (x5_0, x0_0, x0_1, x0_2))
noncomputable def spec_l01DrawOf.l0 (k : Nat) : Nat → (List Int) → Int → Int → Int → (List Int) → Int → Option ((List Int) × ((List Int) × Int × Int))
  | 0, _, _, _, _, _, _ => none
  | n + 1, x0, x1, x2, x3, x4, x5 => spec_l01DrawOf.s0 k (spec_l01DrawOf.l0 k n) x0 x1 x2 x3 x4 x5
noncomputable def spec_l01DrawOf.g (k : Nat) (r0 : (List Int) → Int → Int → Int → (List Int) → Int → Option ((List Int) × ((List Int) × Int × Int))) (a0 : (List Int) × Int × Int) (a1 : Int) : Option ((List Int) × ((List Int) × Int × Int)) := r0 a0.1 a0.2.1 a0.2.2 a1 [] 0
noncomputable def spec_l01DrawOf.f (k : Nat) (a0 : (List Int) × Int × Int) (a1 : Int) : Option ((List Int) × ((List Int) × Int × Int)) := spec_l01DrawOf.g k (spec_l01DrawOf.l0 k k) a0 a1
noncomputable def S242 (k : Nat) : Does := ⟨[(false, [.cel (.struct (.pair (.list (.int .u8)) (.pair (.int .i64) (.int .u64))))]), (false, [.dat (.int .i64)])], [(true, [.own 2 (.int .i64)])], fun x => spec_l01DrawOf.f k x.1 x.2⟩
noncomputable def E242 (k : Nat) : En := ⟨tb, orcOf [(136, S136 k), (147, S147 k)], lvOf [(0, [(0, []), (1, []), (4, []), (5, []), (6, [])])], k, 1, lvOf [], [1074069504, 1074070720]⟩
noncomputable def n242_0 (x0_0 : List Int) (x0_1 : Int) (x0_2 : Int) (x1 : Int) (x5_0 : List Int) (x6 : Int) : St := ⟨26, lookA [(0, .box 0 0), (1, .dat (.int .i64) x1), (4, .box 1 0), (5, .box 2 0), (6, .dat (.int .i64) x6)], Go.V.look [(0, .cells [.dat (.list (.int .u8)) x0_0, .dat (.int .i64) x0_1, .dat (.int .u64) x0_2]), (1, .cells [.nil]), (2, .cells [.own 3]), (3, .flat 2 (.int .i64) x5_0)]⟩
def p242_0 : List Bool := [true, true, false, true, false]
theorem r242_0 (k : Nat) (rec : St → Option ((List Int) × ((List Int) × Int × Int))) (v : (List Int) × Int × Int × Int × (List Int) × Int) : roundF (E242 k) (S242 k) Try.f242 p242_0 [] rec (n242_0 v.1 v.2.1 v.2.2.1 v.2.2.2.1 v.2.2.2.2.1 v.2.2.2.2.2) = spec_l01DrawOf.s0 k (fun a0 a1 a2 a3 a4 a5 => rec (n242_0 a0 a1 a2 a3 a4 a5)) v.1 v.2.1 v.2.2.1 v.2.2.2.1 v.2.2.2.2.1 v.2.2.2.2.2 := by
  kernel_rfl
theorem q242_0 (k : Nat) (n : Nat) : ∀ v : (List Int) × Int × Int × Int × (List Int) × Int, loopF (E242 k) (S242 k) Try.f242 p242_0 [] n (n242_0 v.1 v.2.1 v.2.2.1 v.2.2.2.1 v.2.2.2.2.1 v.2.2.2.2.2) = spec_l01DrawOf.l0 k n v.1 v.2.1 v.2.2.1 v.2.2.2.1 v.2.2.2.2.1 v.2.2.2.2.2 :=
  loopF_eq (E242 k) (S242 k) Try.f242 p242_0 [] (fun v : (List Int) × Int × Int × Int × (List Int) × Int => n242_0 v.1 v.2.1 v.2.2.1 v.2.2.2.1 v.2.2.2.2.1 v.2.2.2.2.2) (fun rec v => spec_l01DrawOf.s0 k (fun a0 a1 a2 a3 a4 a5 => rec (a0, a1, a2, a3, a4, a5)) v.1 v.2.1 v.2.2.1 v.2.2.2.1 v.2.2.2.2.1 v.2.2.2.2.2) (fun n v => spec_l01DrawOf.l0 k n v.1 v.2.1 v.2.2.1 v.2.2.2.1 v.2.2.2.2.1 v.2.2.2.2.2) (fun _ => rfl) (fun _ _ => rfl) (fun rec v => r242_0 k rec v) n
theorem e242 (k : Nat) (x : dens (flatC (S242 k).ps)) : funK (E242 k) (S242 k) Try.f242 x = (S242 k).fn x := by
  have h : funK (E242 k) (S242 k) Try.f242 x = spec_l01DrawOf.g k (fun a0 a1 a2 a3 a4 a5 => loopF (E242 k) (S242 k) Try.f242 p242_0 [] k (n242_0 a0 a1 a2 a3 a4 a5)) x.1 x.2 := by kernel_rfl
  rw [h]
  rw [show (fun a0 a1 a2 a3 a4 a5 => loopF (E242 k) (S242 k) Try.f242 p242_0 [] k (n242_0 a0 a1 a2 a3 a4 a5)) = spec_l01DrawOf.l0 k k from funext fun a0 => funext fun a1 => funext fun a2 => funext fun a3 => funext fun a4 => funext fun a5 => q242_0 k k (a0, a1, a2, a3, a4, a5)]
  rfl
theorem M242 (k : Nat) : Meets Try.prog 242 (S242 k) := meets_of Try.func242 (by kernel_rfl) tbOk (orc_cons (M136 k) (orc_cons (M147 k) orc_nil)) mixOk (fun x y h => (e242 k x).trans h) rfl

/-! spec_l01Draw: function 234 -/
noncomputable def spec_l01Draw.f (k : Nat) (a0 : (List Int) × Int × Int) : Option ((List Int) × ((List Int) × Int × Int)) := (spec_l01Next.f (a0.1, a0.2.1, a0.2.2) 2).bind fun t1 => if t1.1 = 0 then ((spec_l01DrawServed.f k (t1.2.1, t1.2.2.1, t1.2.2.2)).bind fun t2 => some (t2.1, t2.2.2.1, t2.2.2.2.1, t2.2.2.2.2)) else ((spec_l01Pick.f (t1.2.1, t1.2.2.1, t1.2.2.2) [3, 5, 8]).bind fun t3 => (spec_l01Next.f (t3.2.1, t3.2.2.1, t3.2.2.2) t3.1).bind fun t4 => (spec_l01DrawOf.f k (t4.2.1, t4.2.2.1, t4.2.2.2) (wrap64 (1 + t4.1))).bind fun t5 => some (t5.1, t5.2.1, t5.2.2.1, t5.2.2.2))
noncomputable def S234 (k : Nat) : Does := ⟨[(false, [.cel (.struct (.pair (.list (.int .u8)) (.pair (.int .i64) (.int .u64))))])], [(true, [.own 2 (.int .i64)])], fun x => spec_l01Draw.f k x⟩
noncomputable def E234 (k : Nat) : En := ⟨tb, orcOf [(147, S147 k), (241, S241 k), (136, S136 k), (242, S242 k)], lvOf [], k, 1, lvOf [], []⟩
theorem e234 (k : Nat) (x : dens (flatC (S234 k).ps)) : funK (E234 k) (S234 k) Try.f234 x = (S234 k).fn x := by
  kernel_rfl
theorem M234 (k : Nat) : Meets Try.prog 234 (S234 k) := meets_of Try.func234 (by kernel_rfl) tbOk (orc_cons (M147 k) (orc_cons (M241 k) (orc_cons (M136 k) (orc_cons (M242 k) orc_nil)))) mixOk (fun x y h => (e234 k x).trans h) rfl

/-! spec_l02DrawOf: function 213 -/
noncomputable def spec_l02DrawOf.f (k : Nat) (a0 : (List Int) × Int × Int) : Option ((List Int) × ((List Int) × Int × Int)) := (spec_l01Next.f (a0.1, a0.2.1, a0.2.2) 16).bind fun t1 => if 0 ≤ t1.1 then (if t1.1 < 16 then ((spec_l01Own.f (rdOf ([] : List Int) [[1], [2, 2], [2, 3], [2, 4, 4], [3, 3, 3], [2, 3, 6], [3, 4, 4], [3, 4, 5], [2, 5, 6], [4, 4, 4, 4], [3, 4, 6, 6], [2, 4, 8, 8], [1, 2], [3, 5, 5, 5], [4, 5, 5, 5], [2, 6, 7]] t1.1)).bind fun t2 => (spec_l01Next.f (t1.2.1, t1.2.2.1, t1.2.2.2) 4).bind fun t3 => if t3.1 = 0 then ((spec_l01K.f t2).bind fun t4 => (spec_l01Next.f (t3.2.1, t3.2.2.1, t3.2.2.2) t4).bind fun t5 => if 0 ≤ t5.1 then (if t5.1 < (t2.length : Int) then ((spec_l01Next.f (t5.2.1, t5.2.2.1, t5.2.2.2) 3).bind fun t6 => if 0 ≤ t5.1 then (if t5.1 < (t2.length : Int) then ((spec_l01Next.f (t6.2.1, t6.2.2.1, t6.2.2.2) 24).bind fun t7 => if t7.1 = 0 then ((spec_l01Draw.f k (t7.2.1, t7.2.2.1, t7.2.2.2)).bind fun t8 => some (t8.1, t8.2.1, t8.2.2.1, t8.2.2.2)) else (some ((t2.set t5.1.toNat (maxV (wrap64 ((wrap64 ((rd t2 t5.1) + t6.1)) - 1)) 1)), t7.2.1, t7.2.2.1, t7.2.2.2))) else (none)) else (none)) else (none)) else (none)) else ((spec_l01Next.f (t3.2.1, t3.2.2.1, t3.2.2.2) 24).bind fun t9 => if t9.1 = 0 then ((spec_l01Draw.f k (t9.2.1, t9.2.2.1, t9.2.2.2)).bind fun t10 => some (t10.1, t10.2.1, t10.2.2.1, t10.2.2.2)) else (some (t2, t9.2.1, t9.2.2.1, t9.2.2.2)))) else (none)) else (none)
noncomputable def S213 (k : Nat) : Does := ⟨[(false, [.cel (.struct (.pair (.list (.int .u8)) (.pair (.int .i64) (.int .u64))))])], [(true, [.own 2 (.int .i64)])], fun x => spec_l02DrawOf.f k x⟩
noncomputable def E213 (k : Nat) : En := ⟨tb, orcOf [(147, S147 k), (120, S120 k), (142, S142 k), (234, S234 k)], lvOf [], k, 1, lvOf [], [1074135040]⟩
theorem e213 (k : Nat) (x : dens (flatC (S213 k).ps)) : funK (E213 k) (S213 k) Try.f213 x = (S213 k).fn x := by
  kernel_rfl
theorem M213 (k : Nat) : Meets Try.prog 213 (S213 k) := meets_of Try.func213 (by kernel_rfl) tbOk (orc_cons (M147 k) (orc_cons (M120 k) (orc_cons (M142 k) (orc_cons (M234 k) orc_nil)))) mixOk (fun x y h => (e213 k x).trans h) rfl

/-! spec_l01Bad: function 190 -/
noncomputable def spec_l01Bad.s0 (k : Nat) (r0 : (List Int) → (List Int) → Int → Int → Option ((List Int) × ((List Int) × Int × Int))) (x5_0 : List Int) (b0_0 : List Int) (b0_1 : Int) (b0_2 : Int) : Option ((List Int) × ((List Int) × Int × Int)) := if (x5_0.length : Int) ≤ 8 then (if x5_0.length + 1 ≤ 1099511627776 then (r0 (x5_0 ++ [9]) b0_0 b0_1 b0_2) else (none)) else (some (x5_0, b0_0, b0_1, b0_2))
noncomputable def spec_l01Bad.l0 (k : Nat) : Nat → (List Int) → (List Int) → Int → Int → Option ((List Int) × ((List Int) × Int × Int))
  | 0, _, _, _, _ => none
  | n + 1, x0, x1, x2, x3 => spec_l01Bad.s0 k (spec_l01Bad.l0 k n) x0 x1 x2 x3
noncomputable def spec_l01Bad.g (k : Nat) (r0 : (List Int) → (List Int) → Int → Int → Option ((List Int) × ((List Int) × Int × Int))) (a0 : (List Int) × Int × Int) (l1_0 : List Int) : Option ((List Int) × ((List Int) × Int × Int)) := (spec_l01Own.f l1_0).bind fun t1 => (spec_l01Next.f (a0.1, a0.2.1, a0.2.2) 50).bind fun t2 => if (decide (t2.1 = 0)) = true then (some ([], t2.2.1, t2.2.2.1, t2.2.2.2)) else (if (decide (t2.1 = 1)) = true then ((spec_l01K.f l1_0).bind fun t3 => (spec_l01Next.f (t2.2.1, t2.2.2.1, t2.2.2.2) t3).bind fun t4 => (spec_l01Pick.f (t4.2.1, t4.2.2.1, t4.2.2.2) [0, 41, (-1), 1099511627776]).bind fun t5 => if 0 ≤ t4.1 then (if t4.1 < (t1.length : Int) then (some ((t1.set t4.1.toNat t5.1), t5.2.1, t5.2.2.1, t5.2.2.2)) else (none)) else (none)) else (if (decide (t2.1 = 2)) = true then (r0 t1 t2.2.1 t2.2.2.1 t2.2.2.2) else (some (l1_0, t2.2.1, t2.2.2.1, t2.2.2.2))))
noncomputable def spec_l01Bad.f (k : Nat) (a0 : (List Int) × Int × Int) (l1_0 : List Int) : Option ((List Int) × ((List Int) × Int × Int)) := spec_l01Bad.g k (spec_l01Bad.l0 k k) a0 l1_0
noncomputable def S190 (k : Nat) : Does := ⟨[(false, [.cel (.struct (.pair (.list (.int .u8)) (.pair (.int .i64) (.int .u64))))]), (true, [.dat (.list (.int .i64))])], [(true, [.dat (.list (.int .i64))])], fun x => spec_l01Bad.f k x.1 x.2⟩
noncomputable def E190 (k : Nat) : En := ⟨tb, orcOf [(120, S120 k), (147, S147 k), (142, S142 k), (136, S136 k)], lvOf [(1, [(4, []), (5, [])])], k, 1, lvOf [], [1074135040, 1074136640]⟩
noncomputable def n190_0 (x5_0 : List Int) (b0_0 : List Int) (b0_1 : Int) (b0_2 : Int) : St := ⟨41, lookA [(4, .box 1 0), (5, .box 2 0)], Go.V.look [(0, .cells [.dat (.list (.int .u8)) b0_0, .dat (.int .i64) b0_1, .dat (.int .u64) b0_2]), (1, .cells [.nil]), (2, .cells [.own 3]), (3, .flat 2 (.int .i64) x5_0)]⟩
def p190_0 : List Bool := [true, true, false, true, false, true, true, true, true, true, false, false, false]
theorem r190_0 (k : Nat) (rec : St → Option ((List Int) × ((List Int) × Int × Int))) (v : (List Int) × (List Int) × Int × Int) : roundF (E190 k) (S190 k) Try.f190 p190_0 [] rec (n190_0 v.1 v.2.1 v.2.2.1 v.2.2.2) = spec_l01Bad.s0 k (fun a0 a1 a2 a3 => rec (n190_0 a0 a1 a2 a3)) v.1 v.2.1 v.2.2.1 v.2.2.2 := by
  kernel_rfl
theorem q190_0 (k : Nat) (n : Nat) : ∀ v : (List Int) × (List Int) × Int × Int, loopF (E190 k) (S190 k) Try.f190 p190_0 [] n (n190_0 v.1 v.2.1 v.2.2.1 v.2.2.2) = spec_l01Bad.l0 k n v.1 v.2.1 v.2.2.1 v.2.2.2 :=
  loopF_eq (E190 k) (S190 k) Try.f190 p190_0 [] (fun v : (List Int) × (List Int) × Int × Int => n190_0 v.1 v.2.1 v.2.2.1 v.2.2.2) (fun rec v => spec_l01Bad.s0 k (fun a0 a1 a2 a3 => rec (a0, a1, a2, a3)) v.1 v.2.1 v.2.2.1 v.2.2.2) (fun n v => spec_l01Bad.l0 k n v.1 v.2.1 v.2.2.1 v.2.2.2) (fun _ => rfl) (fun _ _ => rfl) (fun rec v => r190_0 k rec v) n
theorem e190 (k : Nat) (x : dens (flatC (S190 k).ps)) : funK (E190 k) (S190 k) Try.f190 x = (S190 k).fn x := by
  have h : funK (E190 k) (S190 k) Try.f190 x = spec_l01Bad.g k (fun a0 a1 a2 a3 => loopF (E190 k) (S190 k) Try.f190 p190_0 [] k (n190_0 a0 a1 a2 a3)) x.1 x.2 := by kernel_rfl
  rw [h]
  rw [show (fun a0 a1 a2 a3 => loopF (E190 k) (S190 k) Try.f190 p190_0 [] k (n190_0 a0 a1 a2 a3)) = spec_l01Bad.l0 k k from funext fun a0 => funext fun a1 => funext fun a2 => funext fun a3 => q190_0 k k (a0, a1, a2, a3)]
  rfl
theorem M190 (k : Nat) : Meets Try.prog 190 (S190 k) := meets_of Try.func190 (by kernel_rfl) tbOk (orc_cons (M120 k) (orc_cons (M147 k) (orc_cons (M142 k) (orc_cons (M136 k) orc_nil)))) mixOk (fun x y h => (e190 k x).trans h) rfl

/-! spec_l02Draw: function 145 -/
noncomputable def spec_l02Draw.f (k : Nat) (l0 : List Int) : Option ((List Int)) := (spec_l01From.f k l0).bind fun t1 => (spec_l02DrawOf.f k (t1.1, t1.2.1, t1.2.2)).bind fun t2 => (spec_l01Bad.f k (t2.2.1, t2.2.2.1, t2.2.2.2) t2.1).bind fun t3 => some t3.1
noncomputable def S145 (k : Nat) : Does := ⟨[(false, [.dat (.list (.int .u8))])], [(true, [.dat (.list (.int .i64))])], fun x => spec_l02Draw.f k x⟩
noncomputable def E145 (k : Nat) : En := ⟨tb, orcOf [(135, S135 k), (213, S213 k), (190, S190 k)], lvOf [], k, 0, lvOf [], []⟩
theorem e145 (k : Nat) (x : dens (flatC (S145 k).ps)) : funK (E145 k) (S145 k) Try.f145 x = (S145 k).fn x := by
  kernel_rfl
theorem M145 (k : Nat) : Meets Try.prog 145 (S145 k) := meets_of Try.func145 (by kernel_rfl) tbOk (orc_cons (M135 k) (orc_cons (M213 k) (orc_cons (M190 k) orc_nil))) mixOk (fun x y h => (e145 k x).trans h) rfl

/-! spec_DrawLeastPlay: function 47 -/
noncomputable def spec_DrawLeastPlay.f (k : Nat) (l0 : List Int) : Option ((List Int)) := (spec_l02Draw.f k l0).bind fun t1 => some t1
noncomputable def S47 (k : Nat) : Does := ⟨[(false, [.dat (.list (.int .u8))])], [(true, [.dat (.list (.int .i64))])], fun x => spec_DrawLeastPlay.f k x⟩
noncomputable def E47 (k : Nat) : En := ⟨tb, orcOf [(145, S145 k)], lvOf [], k, 0, lvOf [], []⟩
theorem e47 (k : Nat) (x : dens (flatC (S47 k).ps)) : funK (E47 k) (S47 k) Try.f47 x = (S47 k).fn x := by
  kernel_rfl
theorem M47 (k : Nat) : Meets Try.prog 47 (S47 k) := meets_of Try.func47 (by kernel_rfl) tbOk (orc_cons (M145 k) orc_nil) mixOk (fun x y h => (e47 k x).trans h) rfl

/-! impl_length_int64: function 149 -/
noncomputable def impl_length_int64.f (l0 : List Int) : Option (Int) := some (l0.length : Int)
noncomputable def S149 (k : Nat) : Does := ⟨[(false, [.dat (.list (.int .i64))])], [(false, [.dat (.int .i64)])], fun x => impl_length_int64.f x⟩
noncomputable def E149 (k : Nat) : En := ⟨tb, orcOf [], lvOf [], k, 0, lvOf [], []⟩
theorem e149 (k : Nat) (x : dens (flatC (S149 k).ps)) : funK (E149 k) (S149 k) Try.f149 x = (S149 k).fn x := by
  kernel_rfl
theorem M149 (k : Nat) : Meets Try.prog 149 (S149 k) := meets_of Try.func149 (by kernel_rfl) tbOk orc_nil mixOk (fun x y h => (e149 k x).trans h) rfl

/-! impl_within: function 108 -/
noncomputable def impl_within.f (a0 : Int) (a1 : Int) (a2 : Int) : Option (Bool) := if a1 ≤ a0 then (some (decide (a0 ≤ a2))) else (some false)
noncomputable def S108 (k : Nat) : Does := ⟨[(false, [.dat (.int .i64)]), (false, [.dat (.int .i64)]), (false, [.dat (.int .i64)])], [(false, [.dat .bool])], fun x => impl_within.f x.1 x.2.1 x.2.2⟩
noncomputable def E108 (k : Nat) : En := ⟨tb, orcOf [], lvOf [], k, 0, lvOf [], []⟩
theorem e108 (k : Nat) (x : dens (flatC (S108 k).ps)) : funK (E108 k) (S108 k) Try.f108 x = (S108 k).fn x := by
  kernel_rfl
theorem M108 (k : Nat) : Meets Try.prog 108 (S108 k) := meets_of Try.func108 (by kernel_rfl) tbOk orc_nil mixOk (fun x y h => (e108 k x).trans h) rfl

/-! impl_IsTasks_1: function 235 -/
noncomputable def impl_IsTasks_1.f (a0 : Int) : Option (Bool) := (impl_within.f a0 1 40).bind fun t1 => some t1
noncomputable def S235 (k : Nat) : Does := ⟨[(false, [.dat (.int .i64)])], [(false, [.dat .bool])], fun x => impl_IsTasks_1.f x⟩
noncomputable def E235 (k : Nat) : En := ⟨tb, orcOf [(108, S108 k)], lvOf [], k, 0, lvOf [], []⟩
theorem e235 (k : Nat) (x : dens (flatC (S235 k).ps)) : funK (E235 k) (S235 k) Try.f235 x = (S235 k).fn x := by
  kernel_rfl
theorem M235 (k : Nat) : Meets Try.prog 235 (S235 k) := meets_of Try.func235 (by kernel_rfl) tbOk (orc_cons (M108 k) orc_nil) mixOk (fun x y h => (e235 k x).trans h) rfl

/-! impl_areAll_int64_1_impl_IsTasks_1: function 217 -/
noncomputable def impl_areAll_int64_1_impl_IsTasks_1.f (a0 : Int) (a1 : Unit) : Option (Bool) := (impl_IsTasks_1.f a0).bind fun t1 => some (!decide (t1 = true))
noncomputable def S217_c235 (k : Nat) : Does := ⟨[(false, [.dat (.int .i64)]), (false, [.dat (.ptr (.clo 235 .unit))])], [(false, [.dat .bool])], fun x => impl_areAll_int64_1_impl_IsTasks_1.f x.1 x.2⟩
noncomputable def E217_c235 (k : Nat) : En := ⟨tb, orcOf [(235, S235 k)], lvOf [], k, 0, lvOf [], []⟩
theorem e217_c235 (k : Nat) (x : dens (flatC (S217_c235 k).ps)) : funK (E217_c235 k) (S217_c235 k) Try.f217 x = (S217_c235 k).fn x := by
  kernel_rfl
theorem M217_c235 (k : Nat) : Meets Try.prog 217 (S217_c235 k) := meets_of Try.func217 (by kernel_rfl) tbOk (orc_cons (M235 k) orc_nil) mixOk (fun x y h => (e217_c235 k x).trans h) rfl

/-! slices_IndexFunc_int64_int64_impl_areAll_int64_1_impl_IsTasks_1: function 236 -/
noncomputable def slices_IndexFunc_int64_int64_impl_areAll_int64_1_impl_IsTasks_1.s0 (k : Nat) (r0 : (List Int) → Unit → Int → Int → Option (Int)) (x0 : List Int) (x1 : Unit) (x7 : Int) (x8 : Int) : Option (Int) := if x8 < x7 then (if 0 ≤ x8 then (if x8 < (x0.length : Int) then ((impl_areAll_int64_1_impl_IsTasks_1.f (rd x0 x8) x1).bind fun t1 => if t1 = true then (some x8) else (r0 x0 x1 x7 (wrap64 (x8 + 1)))) else (none)) else (none)) else (some (-1))
noncomputable def slices_IndexFunc_int64_int64_impl_areAll_int64_1_impl_IsTasks_1.l0 (k : Nat) : Nat → (List Int) → Unit → Int → Int → Option (Int)
  | 0, _, _, _, _ => none
  | n + 1, x0, x1, x2, x3 => slices_IndexFunc_int64_int64_impl_areAll_int64_1_impl_IsTasks_1.s0 k (slices_IndexFunc_int64_int64_impl_areAll_int64_1_impl_IsTasks_1.l0 k n) x0 x1 x2 x3
noncomputable def slices_IndexFunc_int64_int64_impl_areAll_int64_1_impl_IsTasks_1.g (k : Nat) (r0 : (List Int) → Unit → Int → Int → Option (Int)) (l0 : List Int) (a1 : Unit) : Option (Int) := r0 l0 a1 (l0.length : Int) 0
noncomputable def slices_IndexFunc_int64_int64_impl_areAll_int64_1_impl_IsTasks_1.f (k : Nat) (l0 : List Int) (a1 : Unit) : Option (Int) := slices_IndexFunc_int64_int64_impl_areAll_int64_1_impl_IsTasks_1.g k (slices_IndexFunc_int64_int64_impl_areAll_int64_1_impl_IsTasks_1.l0 k k) l0 a1
noncomputable def S236_c217c235 (k : Nat) : Does := ⟨[(false, [.dat (.list (.int .i64))]), (false, [.dat (.clo 217 (.ptr (.clo 235 .unit)))])], [(false, [.dat (.int .i64)])], fun x => slices_IndexFunc_int64_int64_impl_areAll_int64_1_impl_IsTasks_1.f k x.1 x.2⟩
noncomputable def E236_c217c235 (k : Nat) : En := ⟨tb, orcOf [(217, S217_c235 k)], lvOf [(0, [(0, []), (1, []), (7, []), (8, [])])], k, 0, lvOf [], []⟩
noncomputable def n236_c217c235_0 (x0 : List Int) (x1 : Unit) (x7 : Int) (x8 : Int) : St := ⟨19, lookA [(0, .dat (.list (.int .i64)) x0), (1, .dat (.clo 217 (.ptr (.clo 235 .unit))) x1), (7, .dat (.int .i64) x7), (8, .dat (.int .i64) x8)], Go.V.look []⟩
def p236_c217c235_0 : List Bool := [true, false, true, false]
theorem r236_c217c235_0 (k : Nat) (rec : St → Option (Int)) (v : (List Int) × Unit × Int × Int) : roundF (E236_c217c235 k) (S236_c217c235 k) Try.f236 p236_c217c235_0 [] rec (n236_c217c235_0 v.1 v.2.1 v.2.2.1 v.2.2.2) = slices_IndexFunc_int64_int64_impl_areAll_int64_1_impl_IsTasks_1.s0 k (fun a0 a1 a2 a3 => rec (n236_c217c235_0 a0 a1 a2 a3)) v.1 v.2.1 v.2.2.1 v.2.2.2 := by
  kernel_rfl
theorem q236_c217c235_0 (k : Nat) (n : Nat) : ∀ v : (List Int) × Unit × Int × Int, loopF (E236_c217c235 k) (S236_c217c235 k) Try.f236 p236_c217c235_0 [] n (n236_c217c235_0 v.1 v.2.1 v.2.2.1 v.2.2.2) = slices_IndexFunc_int64_int64_impl_areAll_int64_1_impl_IsTasks_1.l0 k n v.1 v.2.1 v.2.2.1 v.2.2.2 :=
  loopF_eq (E236_c217c235 k) (S236_c217c235 k) Try.f236 p236_c217c235_0 [] (fun v : (List Int) × Unit × Int × Int => n236_c217c235_0 v.1 v.2.1 v.2.2.1 v.2.2.2) (fun rec v => slices_IndexFunc_int64_int64_impl_areAll_int64_1_impl_IsTasks_1.s0 k (fun a0 a1 a2 a3 => rec (a0, a1, a2, a3)) v.1 v.2.1 v.2.2.1 v.2.2.2) (fun n v => slices_IndexFunc_int64_int64_impl_areAll_int64_1_impl_IsTasks_1.l0 k n v.1 v.2.1 v.2.2.1 v.2.2.2) (fun _ => rfl) (fun _ _ => rfl) (fun rec v => r236_c217c235_0 k rec v) n
theorem e236_c217c235 (k : Nat) (x : dens (flatC (S236_c217c235 k).ps)) : funK (E236_c217c235 k) (S236_c217c235 k) Try.f236 x = (S236_c217c235 k).fn x := by
  have h : funK (E236_c217c235 k) (S236_c217c235 k) Try.f236 x = slices_IndexFunc_int64_int64_impl_areAll_int64_1_impl_IsTasks_1.g k (fun a0 a1 a2 a3 => loopF (E236_c217c235 k) (S236_c217c235 k) Try.f236 p236_c217c235_0 [] k (n236_c217c235_0 a0 a1 a2 a3)) x.1 x.2 := by kernel_rfl
  rw [h]
  rw [show (fun a0 a1 a2 a3 => loopF (E236_c217c235 k) (S236_c217c235 k) Try.f236 p236_c217c235_0 [] k (n236_c217c235_0 a0 a1 a2 a3)) = slices_IndexFunc_int64_int64_impl_areAll_int64_1_impl_IsTasks_1.l0 k k from funext fun a0 => funext fun a1 => funext fun a2 => funext fun a3 => q236_c217c235_0 k k (a0, a1, a2, a3)]
  rfl
theorem M236_c217c235 (k : Nat) : Meets Try.prog 236 (S236_c217c235 k) := meets_of Try.func236 (by kernel_rfl) tbOk (orc_cons (M217_c235 k) orc_nil) mixOk (fun x y h => (e236_c217c235 k x).trans h) rfl

/-! slices_ContainsFunc_int64_int64_impl_areAll_int64_1_impl_IsTasks_1: function 216 -/
noncomputable def slices_ContainsFunc_int64_int64_impl_areAll_int64_1_impl_IsTasks_1.f (k : Nat) (l0 : List Int) (a1 : Unit) : Option (Bool) := (slices_IndexFunc_int64_int64_impl_areAll_int64_1_impl_IsTasks_1.f k l0 a1).bind fun t1 => some (decide (0 ≤ t1))
noncomputable def S216_c217c235 (k : Nat) : Does := ⟨[(false, [.dat (.list (.int .i64))]), (false, [.dat (.clo 217 (.ptr (.clo 235 .unit)))])], [(false, [.dat .bool])], fun x => slices_ContainsFunc_int64_int64_impl_areAll_int64_1_impl_IsTasks_1.f k x.1 x.2⟩
noncomputable def E216_c217c235 (k : Nat) : En := ⟨tb, orcOf [(236, S236_c217c235 k)], lvOf [], k, 0, lvOf [], []⟩
theorem e216_c217c235 (k : Nat) (x : dens (flatC (S216_c217c235 k).ps)) : funK (E216_c217c235 k) (S216_c217c235 k) Try.f216 x = (S216_c217c235 k).fn x := by
  kernel_rfl
theorem M216_c217c235 (k : Nat) : Meets Try.prog 216 (S216_c217c235 k) := meets_of Try.func216 (by kernel_rfl) tbOk (orc_cons (M236_c217c235 k) orc_nil) mixOk (fun x y h => (e216_c217c235 k x).trans h) rfl

/-! impl_areAll_int64_impl_IsTasks_1: function 148 -/
noncomputable def impl_areAll_int64_impl_IsTasks_1.f (k : Nat) (l0 : List Int) (a1 : Unit) : Option (Bool) := (slices_ContainsFunc_int64_int64_impl_areAll_int64_1_impl_IsTasks_1.f k l0 a1).bind fun t1 => some (!decide (t1 = true))
noncomputable def S148_c235 (k : Nat) : Does := ⟨[(false, [.dat (.list (.int .i64))]), (false, [.dat (.clo 235 .unit)])], [(false, [.dat .bool])], fun x => impl_areAll_int64_impl_IsTasks_1.f k x.1 x.2⟩
noncomputable def E148_c235 (k : Nat) : En := ⟨tb, orcOf [(216, S216_c217c235 k)], lvOf [], k, 0, lvOf [], []⟩
theorem e148_c235 (k : Nat) (x : dens (flatC (S148_c235 k).ps)) : funK (E148_c235 k) (S148_c235 k) Try.f148 x = (S148_c235 k).fn x := by
  kernel_rfl
theorem M148_c235 (k : Nat) : Meets Try.prog 148 (S148_c235 k) := meets_of Try.func148 (by kernel_rfl) tbOk (orc_cons (M216_c217c235 k) orc_nil) mixOk (fun x y h => (e148_c235 k x).trans h) rfl

/-! impl_IsTasks: function 214 -/
noncomputable def impl_IsTasks.f (k : Nat) (l0_0 : List Int) : Option (Bool) := (impl_length_int64.f l0_0).bind fun t1 => (impl_within.f t1 1 8).bind fun t2 => if t2 = true then ((impl_areAll_int64_impl_IsTasks_1.f k l0_0 ()).bind fun t3 => some t3) else (some false)
noncomputable def S214 (k : Nat) : Does := ⟨[(true, [.dat (.list (.int .i64))])], [(false, [.dat .bool])], fun x => impl_IsTasks.f k x⟩
noncomputable def E214 (k : Nat) : En := ⟨tb, orcOf [(149, S149 k), (108, S108 k), (148, S148_c235 k)], lvOf [], k, 0, lvOf [], []⟩
theorem e214 (k : Nat) (x : dens (flatC (S214 k).ps)) : funK (E214 k) (S214 k) Try.f214 x = (S214 k).fn x := by
  kernel_rfl
theorem M214 (k : Nat) : Meets Try.prog 214 (S214 k) := meets_of Try.func214 (by kernel_rfl) tbOk (orc_cons (M149 k) (orc_cons (M108 k) (orc_cons (M148_c235 k) orc_nil))) mixOk (fun x y h => (e214 k x).trans h) rfl

/-! impl_tasksCode: function 138 -/
noncomputable def impl_tasksCode.f (k : Nat) (l0_0 : List Int) (a1 : Bool) : Option (Int) := (impl_IsTasks.f k l0_0).bind fun t1 => if (!decide (t1 = true)) = true then (some 1) else (if (!decide (a1 = true)) = true then (some 2) else (some 0))
noncomputable def S138 (k : Nat) : Does := ⟨[(true, [.dat (.list (.int .i64))]), (false, [.dat .bool])], [(false, [.dat (.int .i64)])], fun x => impl_tasksCode.f k x.1 x.2⟩
noncomputable def E138 (k : Nat) : En := ⟨tb, orcOf [(214, S214 k)], lvOf [], k, 0, lvOf [], []⟩
theorem e138 (k : Nat) (x : dens (flatC (S138 k).ps)) : funK (E138 k) (S138 k) Try.f138 x = (S138 k).fn x := by
  kernel_rfl
theorem M138 (k : Nat) : Meets Try.prog 138 (S138 k) := meets_of Try.func138 (by kernel_rfl) tbOk (orc_cons (M214 k) orc_nil) mixOk (fun x y h => (e138 k x).trans h) rfl

/-! impl_Tasks_states: function 124 -/
noncomputable def impl_Tasks_states.s0 (k : Nat) (r0 : Int → (List Int) → Int → Int → Option (Int)) (x3 : Int) (x7 : List Int) (x8 : Int) (x9 : Int) : Option (Int) := if x9 < x8 then (if 0 ≤ x9 then (if x9 < (x7.length : Int) then (r0 (wrap64 (x3 * (rd x7 x9))) x7 x8 (wrap64 (x9 + 1))) else (none)) else (none)) else (some x3)
noncomputable def impl_Tasks_states.l0 (k : Nat) : Nat → Int → (List Int) → Int → Int → Option (Int)
  | 0, _, _, _, _ => none
  | n + 1, x0, x1, x2, x3 => impl_Tasks_states.s0 k (impl_Tasks_states.l0 k n) x0 x1 x2 x3
noncomputable def impl_Tasks_states.g (k : Nat) (r0 : Int → (List Int) → Int → Int → Option (Int)) (l0_0 : List Int) : Option (Int) := r0 1 l0_0 (l0_0.length : Int) 0
noncomputable def impl_Tasks_states.f (k : Nat) (l0_0 : List Int) : Option (Int) := impl_Tasks_states.g k (impl_Tasks_states.l0 k k) l0_0
noncomputable def S124 (k : Nat) : Does := ⟨[(true, [.dat (.list (.int .i64))])], [(false, [.dat (.int .i64)])], fun x => impl_Tasks_states.f k x⟩
noncomputable def E124 (k : Nat) : En := ⟨tb, orcOf [], lvOf [(0, [(3, []), (7, []), (8, []), (9, [])])], k, 0, lvOf [], []⟩
noncomputable def n124_0 (x3 : Int) (x7 : List Int) (x8 : Int) (x9 : Int) : St := ⟨18, lookA [(3, .dat (.int .i64) x3), (7, .dat (.list (.int .i64)) x7), (8, .dat (.int .i64) x8), (9, .dat (.int .i64) x9)], Go.V.look []⟩
def p124_0 : List Bool := [true, true, false, true, false]
theorem r124_0 (k : Nat) (rec : St → Option (Int)) (v : Int × (List Int) × Int × Int) : roundF (E124 k) (S124 k) Try.f124 p124_0 [] rec (n124_0 v.1 v.2.1 v.2.2.1 v.2.2.2) = impl_Tasks_states.s0 k (fun a0 a1 a2 a3 => rec (n124_0 a0 a1 a2 a3)) v.1 v.2.1 v.2.2.1 v.2.2.2 := by
  kernel_rfl
theorem q124_0 (k : Nat) (n : Nat) : ∀ v : Int × (List Int) × Int × Int, loopF (E124 k) (S124 k) Try.f124 p124_0 [] n (n124_0 v.1 v.2.1 v.2.2.1 v.2.2.2) = impl_Tasks_states.l0 k n v.1 v.2.1 v.2.2.1 v.2.2.2 :=
  loopF_eq (E124 k) (S124 k) Try.f124 p124_0 [] (fun v : Int × (List Int) × Int × Int => n124_0 v.1 v.2.1 v.2.2.1 v.2.2.2) (fun rec v => impl_Tasks_states.s0 k (fun a0 a1 a2 a3 => rec (a0, a1, a2, a3)) v.1 v.2.1 v.2.2.1 v.2.2.2) (fun n v => impl_Tasks_states.l0 k n v.1 v.2.1 v.2.2.1 v.2.2.2) (fun _ => rfl) (fun _ _ => rfl) (fun rec v => r124_0 k rec v) n
theorem e124 (k : Nat) (x : dens (flatC (S124 k).ps)) : funK (E124 k) (S124 k) Try.f124 x = (S124 k).fn x := by
  have h : funK (E124 k) (S124 k) Try.f124 x = impl_Tasks_states.g k (fun a0 a1 a2 a3 => loopF (E124 k) (S124 k) Try.f124 p124_0 [] k (n124_0 a0 a1 a2 a3)) x := by kernel_rfl
  rw [h]
  rw [show (fun a0 a1 a2 a3 => loopF (E124 k) (S124 k) Try.f124 p124_0 [] k (n124_0 a0 a1 a2 a3)) = impl_Tasks_states.l0 k k from funext fun a0 => funext fun a1 => funext fun a2 => funext fun a3 => q124_0 k k (a0, a1, a2, a3)]
  rfl
theorem M124 (k : Nat) : Meets Try.prog 124 (S124 k) := meets_of Try.func124 (by kernel_rfl) tbOk orc_nil mixOk (fun x y h => (e124 k x).trans h) rfl

/-! impl_statesCode: function 115 -/
noncomputable def impl_statesCode.f (k : Nat) (l0_0 : List Int) (a1 : Bool) : Option (Int) := (impl_tasksCode.f k l0_0 a1).bind fun t1 => if t1 = 0 then ((impl_Tasks_states.f k l0_0).bind fun t2 => if 4000 < t2 then (some 3) else (some 0)) else (some t1)
noncomputable def S115 (k : Nat) : Does := ⟨[(true, [.dat (.list (.int .i64))]), (false, [.dat .bool])], [(false, [.dat (.int .i64)])], fun x => impl_statesCode.f k x.1 x.2⟩
noncomputable def E115 (k : Nat) : En := ⟨tb, orcOf [(138, S138 k), (124, S124 k)], lvOf [], k, 0, lvOf [], []⟩
theorem e115 (k : Nat) (x : dens (flatC (S115 k).ps)) : funK (E115 k) (S115 k) Try.f115 x = (S115 k).fn x := by
  kernel_rfl
theorem M115 (k : Nat) : Meets Try.prog 115 (S115 k) := meets_of Try.func115 (by kernel_rfl) tbOk (orc_cons (M138 k) (orc_cons (M124 k) orc_nil)) mixOk (fun x y h => (e115 k x).trans h) rfl

/-! impl_Tasks_many: function 197 -/
noncomputable def impl_Tasks_many.f (l0_0 : List Int) : Option (Int) := (impl_length_int64.f l0_0).bind fun t1 => some t1
noncomputable def S197 (k : Nat) : Does := ⟨[(true, [.dat (.list (.int .i64))])], [(false, [.dat (.int .i64)])], fun x => impl_Tasks_many.f x⟩
noncomputable def E197 (k : Nat) : En := ⟨tb, orcOf [(149, S149 k)], lvOf [], k, 0, lvOf [], []⟩
theorem e197 (k : Nat) (x : dens (flatC (S197 k).ps)) : funK (E197 k) (S197 k) Try.f197 x = (S197 k).fn x := by
  kernel_rfl
theorem M197 (k : Nat) : Meets Try.prog 197 (S197 k) := meets_of Try.func197 (by kernel_rfl) tbOk (orc_cons (M149 k) orc_nil) mixOk (fun x y h => (e197 k x).trans h) rfl

/-! impl_Tasks_numbered: function 155 -/
noncomputable def impl_Tasks_numbered.s0 (k : Nat) (r0 : Int → (List Int) → (List Int) → Int → Option ((List Int))) (x1 : Int) (x2_0 : List Int) (x5 : List Int) (x6 : Int) : Option ((List Int)) := if 0 ≤ x6 then (if 0 ≤ x6 then (if x6 < (x2_0.length : Int) then (if (rd x2_0 x6) = 0 then (none) else (if 0 ≤ x6 then (if x6 < (x5.length : Int) then (if 0 ≤ x6 then (if x6 < (x2_0.length : Int) then (if (rd x2_0 x6) = 0 then (none) else (r0 (wrap64 (Int.tdiv x1 (rd x2_0 x6))) x2_0 (x5.set x6.toNat (wrap64 ((Int.tmod x1 (rd x2_0 x6)) + 1))) (wrap64 (x6 - 1)))) else (none)) else (none)) else (none)) else (none))) else (none)) else (none)) else (some x5)
noncomputable def impl_Tasks_numbered.l0 (k : Nat) : Nat → Int → (List Int) → (List Int) → Int → Option ((List Int))
  | 0, _, _, _, _ => none
  | n + 1, x0, x1, x2, x3 => impl_Tasks_numbered.s0 k (impl_Tasks_numbered.l0 k n) x0 x1 x2 x3
noncomputable def impl_Tasks_numbered.g (k : Nat) (r0 : Int → (List Int) → (List Int) → Int → Option ((List Int))) (l0_0 : List Int) (a1 : Int) : Option ((List Int)) := (impl_Tasks_many.f l0_0).bind fun t1 => if 0 ≤ t1 then (if t1 ≤ t1 then (if t1.toNat ≤ 1099511627776 then ((impl_Tasks_many.f l0_0).bind fun t2 => r0 a1 l0_0 (List.replicate t1.toNat (0 : Int)) (wrap64 (t2 - 1))) else (none)) else (none)) else (none)
noncomputable def impl_Tasks_numbered.f (k : Nat) (l0_0 : List Int) (a1 : Int) : Option ((List Int)) := impl_Tasks_numbered.g k (impl_Tasks_numbered.l0 k k) l0_0 a1
noncomputable def S155 (k : Nat) : Does := ⟨[(true, [.dat (.list (.int .i64))]), (false, [.dat (.int .i64)])], [(false, [.own 2 (.int .i64)])], fun x => impl_Tasks_numbered.f k x.1 x.2⟩
noncomputable def E155 (k : Nat) : En := ⟨tb, orcOf [(197, S197 k)], lvOf [(0, [(1, []), (2, []), (5, []), (6, [])])], k, 0, lvOf [], []⟩
noncomputable def n155_0 (x1 : Int) (x2_0 : List Int) (x5 : List Int) (x6 : Int) : St := ⟨36, lookA [(1, .dat (.int .i64) x1), (2, .box 0 0), (5, .own 1), (6, .dat (.int .i64) x6)], Go.V.look [(0, .cells [.dat (.list (.int .i64)) x2_0]), (1, .flat 2 (.int .i64) x5)]⟩
def p155_0 : List Bool := [true, true, false, true, false]
theorem r155_0 (k : Nat) (rec : St → Option ((List Int))) (v : Int × (List Int) × (List Int) × Int) : roundF (E155 k) (S155 k) Try.f155 p155_0 [] rec (n155_0 v.1 v.2.1 v.2.2.1 v.2.2.2) = impl_Tasks_numbered.s0 k (fun a0 a1 a2 a3 => rec (n155_0 a0 a1 a2 a3)) v.1 v.2.1 v.2.2.1 v.2.2.2 := by
  kernel_rfl
theorem q155_0 (k : Nat) (n : Nat) : ∀ v : Int × (List Int) × (List Int) × Int, loopF (E155 k) (S155 k) Try.f155 p155_0 [] n (n155_0 v.1 v.2.1 v.2.2.1 v.2.2.2) = impl_Tasks_numbered.l0 k n v.1 v.2.1 v.2.2.1 v.2.2.2 :=
  loopF_eq (E155 k) (S155 k) Try.f155 p155_0 [] (fun v : Int × (List Int) × (List Int) × Int => n155_0 v.1 v.2.1 v.2.2.1 v.2.2.2) (fun rec v => impl_Tasks_numbered.s0 k (fun a0 a1 a2 a3 => rec (a0, a1, a2, a3)) v.1 v.2.1 v.2.2.1 v.2.2.2) (fun n v => impl_Tasks_numbered.l0 k n v.1 v.2.1 v.2.2.1 v.2.2.2) (fun _ => rfl) (fun _ _ => rfl) (fun rec v => r155_0 k rec v) n
theorem e155 (k : Nat) (x : dens (flatC (S155 k).ps)) : funK (E155 k) (S155 k) Try.f155 x = (S155 k).fn x := by
  have h : funK (E155 k) (S155 k) Try.f155 x = impl_Tasks_numbered.g k (fun a0 a1 a2 a3 => loopF (E155 k) (S155 k) Try.f155 p155_0 [] k (n155_0 a0 a1 a2 a3)) x.1 x.2 := by kernel_rfl
  rw [h]
  rw [show (fun a0 a1 a2 a3 => loopF (E155 k) (S155 k) Try.f155 p155_0 [] k (n155_0 a0 a1 a2 a3)) = impl_Tasks_numbered.l0 k k from funext fun a0 => funext fun a1 => funext fun a2 => funext fun a3 => q155_0 k k (a0, a1, a2, a3)]
  rfl
theorem M155 (k : Nat) : Meets Try.prog 155 (S155 k) := meets_of Try.func155 (by kernel_rfl) tbOk (orc_cons (M197 k) orc_nil) mixOk (fun x y h => (e155 k x).trans h) rfl

/-! slices_Clone_int64_int64: function 125 -/
def slices_Clone_int64_int64.f (l : List Int) : Option (List Int) := if l.length = 0 then some [] else if 0 + l.length ≤ 1099511627776 then some ([] ++ l) else none
def S125 (k : Nat) : Does := ⟨[(false, [.dat (.list (.int .i64))])], [(false, [.own 2 (.int .i64)])], fun x => slices_Clone_int64_int64.f x⟩
def E125 : En := ⟨tb, orcOf [], lvOf [], 0, 0, lvOf [], []⟩
theorem slices_Clone_int64_int64.e (l : List Int) (h : l.length ≠ 0) : slices_Clone_int64_int64.f l = (if l.length = 0 then none else if 0 + l.length ≤ 1099511627776 then some ([] ++ l) else none) := by
  unfold slices_Clone_int64_int64.f; rw [if_neg h, if_neg h]
theorem M125 (k : Nat) : Meets Try.prog 125 (S125 k) := by
  refine meets_nil (E := E125) (t := (.int .i64)) (rs := [(false, [.own 2 (.int .i64)])]) (F := slices_Clone_int64_int64.f) Try.func125 (by kernel_rfl) tbOk orc_nil mixOk rfl rfl rfl (fun l hl => ?_) (by kernel_rfl) (by kernel_rfl)
  refine Eq.trans ?_ (slices_Clone_int64_int64.e l hl).symm
  kernel_rfl

/-! impl_Tasks_step: function 140 -/
noncomputable def impl_Tasks_step.s0 (k : Nat) (r0 : Int → (List Int) → (List Int) → Int → Int → Option ((List Int) × Bool)) (x2 : Int) (x3_0 : List Int) (x8 : List Int) (x13 : Int) (x14 : Int) : Option ((List Int) × Bool) := if x14 < x13 then (if (decide (x14 = x2)) = true then (if 0 ≤ x14 then (if x14 < (x3_0.length : Int) then (if 0 ≤ x14 then (if x14 < (x8.length : Int) then (r0 x2 x3_0 (x8.set x14.toNat (rd x3_0 x14)) x13 (wrap64 (x14 + 1))) else (none)) else (none)) else (none)) else (none)) else (if 0 ≤ x14 then (if x14 < (x8.length : Int) then (if (decide ((rd x8 x14) < 2)) = true then (some ([], false)) else (if 0 ≤ x14 then (if x14 < (x8.length : Int) then (if 0 ≤ x14 then (if x14 < (x8.length : Int) then (r0 x2 x3_0 (x8.set x14.toNat (wrap64 ((rd x8 x14) - 1))) x13 (wrap64 (x14 + 1))) else (none)) else (none)) else (none)) else (none))) else (none)) else (none))) else (some (x8, true))
noncomputable def impl_Tasks_step.l0 (k : Nat) : Nat → Int → (List Int) → (List Int) → Int → Int → Option ((List Int) × Bool)
  | 0, _, _, _, _, _ => none
  | n + 1, x0, x1, x2, x3, x4 => impl_Tasks_step.s0 k (impl_Tasks_step.l0 k n) x0 x1 x2 x3 x4
noncomputable def impl_Tasks_step.g (k : Nat) (r0 : Int → (List Int) → (List Int) → Int → Int → Option ((List Int) × Bool)) (l0_0 : List Int) (l1 : List Int) (a2 : Int) : Option ((List Int) × Bool) := (slices_Clone_int64_int64.f l1).bind fun t1 => r0 a2 l0_0 t1 (t1.length : Int) 0
noncomputable def impl_Tasks_step.f (k : Nat) (l0_0 : List Int) (l1 : List Int) (a2 : Int) : Option ((List Int) × Bool) := impl_Tasks_step.g k (impl_Tasks_step.l0 k k) l0_0 l1 a2
noncomputable def S140 (k : Nat) : Does := ⟨[(true, [.dat (.list (.int .i64))]), (false, [.dat (.list (.int .i64))]), (false, [.dat (.int .i64)])], [(false, [.own 2 (.int .i64)]), (false, [.dat .bool])], fun x => impl_Tasks_step.f k x.1 x.2.1 x.2.2⟩
noncomputable def E140 (k : Nat) : En := ⟨tb, orcOf [(125, S125 k)], lvOf [(0, [(2, []), (3, []), (8, []), (13, []), (14, [])])], k, 0, lvOf [], []⟩
noncomputable def n140_0 (x2 : Int) (x3_0 : List Int) (x8 : List Int) (x13 : Int) (x14 : Int) : St := ⟨43, lookA [(2, .dat (.int .i64) x2), (3, .box 0 0), (8, .own 1), (13, .dat (.int .i64) x13), (14, .dat (.int .i64) x14)], Go.V.look [(0, .cells [.dat (.list (.int .i64)) x3_0]), (1, .flat 2 (.int .i64) x8)]⟩
def p140_0 : List Bool := [true, true, false, true, false]
theorem r140_0 (k : Nat) (rec : St → Option ((List Int) × Bool)) (v : Int × (List Int) × (List Int) × Int × Int) : roundF (E140 k) (S140 k) Try.f140 p140_0 [] rec (n140_0 v.1 v.2.1 v.2.2.1 v.2.2.2.1 v.2.2.2.2) = impl_Tasks_step.s0 k (fun a0 a1 a2 a3 a4 => rec (n140_0 a0 a1 a2 a3 a4)) v.1 v.2.1 v.2.2.1 v.2.2.2.1 v.2.2.2.2 := by
  kernel_rfl
theorem q140_0 (k : Nat) (n : Nat) : ∀ v : Int × (List Int) × (List Int) × Int × Int, loopF (E140 k) (S140 k) Try.f140 p140_0 [] n (n140_0 v.1 v.2.1 v.2.2.1 v.2.2.2.1 v.2.2.2.2) = impl_Tasks_step.l0 k n v.1 v.2.1 v.2.2.1 v.2.2.2.1 v.2.2.2.2 :=
  loopF_eq (E140 k) (S140 k) Try.f140 p140_0 [] (fun v : Int × (List Int) × (List Int) × Int × Int => n140_0 v.1 v.2.1 v.2.2.1 v.2.2.2.1 v.2.2.2.2) (fun rec v => impl_Tasks_step.s0 k (fun a0 a1 a2 a3 a4 => rec (a0, a1, a2, a3, a4)) v.1 v.2.1 v.2.2.1 v.2.2.2.1 v.2.2.2.2) (fun n v => impl_Tasks_step.l0 k n v.1 v.2.1 v.2.2.1 v.2.2.2.1 v.2.2.2.2) (fun _ => rfl) (fun _ _ => rfl) (fun rec v => r140_0 k rec v) n
theorem e140 (k : Nat) (x : dens (flatC (S140 k).ps)) : funK (E140 k) (S140 k) Try.f140 x = (S140 k).fn x := by
  have h : funK (E140 k) (S140 k) Try.f140 x = impl_Tasks_step.g k (fun a0 a1 a2 a3 a4 => loopF (E140 k) (S140 k) Try.f140 p140_0 [] k (n140_0 a0 a1 a2 a3 a4)) x.1 x.2.1 x.2.2 := by kernel_rfl
  rw [h]
  rw [show (fun a0 a1 a2 a3 a4 => loopF (E140 k) (S140 k) Try.f140 p140_0 [] k (n140_0 a0 a1 a2 a3 a4)) = impl_Tasks_step.l0 k k from funext fun a0 => funext fun a1 => funext fun a2 => funext fun a3 => funext fun a4 => q140_0 k k (a0, a1, a2, a3, a4)]
  rfl
theorem M140 (k : Nat) : Meets Try.prog 140 (S140 k) := meets_of Try.func140 (by kernel_rfl) tbOk (orc_cons (M125 k) orc_nil) mixOk (fun x y h => (e140 k x).trans h) rfl

/-! impl_Tasks_number: function 130 -/
noncomputable def impl_Tasks_number.s0 (k : Nat) (r0 : (List Int) → Int → (List Int) → Int → Int → Option (Int)) (x2_0 : List Int) (x5 : Int) (x8 : List Int) (x9 : Int) (x10 : Int) : Option (Int) := if x10 < x9 then (if 0 ≤ x10 then (if x10 < (x8.length : Int) then (if 0 ≤ x10 then (if x10 < (x2_0.length : Int) then (r0 x2_0 (wrap64 ((wrap64 ((wrap64 (x5 * (rd x2_0 x10))) + (rd x8 x10))) - 1)) x8 x9 (wrap64 (x10 + 1))) else (none)) else (none)) else (none)) else (none)) else (some x5)
noncomputable def impl_Tasks_number.l0 (k : Nat) : Nat → (List Int) → Int → (List Int) → Int → Int → Option (Int)
  | 0, _, _, _, _, _ => none
  | n + 1, x0, x1, x2, x3, x4 => impl_Tasks_number.s0 k (impl_Tasks_number.l0 k n) x0 x1 x2 x3 x4
noncomputable def impl_Tasks_number.g (k : Nat) (r0 : (List Int) → Int → (List Int) → Int → Int → Option (Int)) (l0_0 : List Int) (l1 : List Int) : Option (Int) := r0 l0_0 0 l1 (l1.length : Int) 0
noncomputable def impl_Tasks_number.f (k : Nat) (l0_0 : List Int) (l1 : List Int) : Option (Int) := impl_Tasks_number.g k (impl_Tasks_number.l0 k k) l0_0 l1
noncomputable def S130 (k : Nat) : Does := ⟨[(true, [.dat (.list (.int .i64))]), (false, [.dat (.list (.int .i64))])], [(false, [.dat (.int .i64)])], fun x => impl_Tasks_number.f k x.1 x.2⟩
noncomputable def E130 (k : Nat) : En := ⟨tb, orcOf [], lvOf [(0, [(2, []), (5, []), (8, []), (9, []), (10, [])])], k, 0, lvOf [], []⟩
noncomputable def n130_0 (x2_0 : List Int) (x5 : Int) (x8 : List Int) (x9 : Int) (x10 : Int) : St := ⟨27, lookA [(2, .box 0 0), (5, .dat (.int .i64) x5), (8, .dat (.list (.int .i64)) x8), (9, .dat (.int .i64) x9), (10, .dat (.int .i64) x10)], Go.V.look [(0, .cells [.dat (.list (.int .i64)) x2_0])]⟩
def p130_0 : List Bool := [true, true, false, true, false]
theorem r130_0 (k : Nat) (rec : St → Option (Int)) (v : (List Int) × Int × (List Int) × Int × Int) : roundF (E130 k) (S130 k) Try.f130 p130_0 [] rec (n130_0 v.1 v.2.1 v.2.2.1 v.2.2.2.1 v.2.2.2.2) = impl_Tasks_number.s0 k (fun a0 a1 a2 a3 a4 => rec (n130_0 a0 a1 a2 a3 a4)) v.1 v.2.1 v.2.2.1 v.2.2.2.1 v.2.2.2.2 := by
  kernel_rfl
theorem q130_0 (k : Nat) (n : Nat) : ∀ v : (List Int) × Int × (List Int) × Int × Int, loopF (E130 k) (S130 k) Try.f130 p130_0 [] n (n130_0 v.1 v.2.1 v.2.2.1 v.2.2.2.1 v.2.2.2.2) = impl_Tasks_number.l0 k n v.1 v.2.1 v.2.2.1 v.2.2.2.1 v.2.2.2.2 :=
  loopF_eq (E130 k) (S130 k) Try.f130 p130_0 [] (fun v : (List Int) × Int × (List Int) × Int × Int => n130_0 v.1 v.2.1 v.2.2.1 v.2.2.2.1 v.2.2.2.2) (fun rec v => impl_Tasks_number.s0 k (fun a0 a1 a2 a3 a4 => rec (a0, a1, a2, a3, a4)) v.1 v.2.1 v.2.2.1 v.2.2.2.1 v.2.2.2.2) (fun n v => impl_Tasks_number.l0 k n v.1 v.2.1 v.2.2.1 v.2.2.2.1 v.2.2.2.2) (fun _ => rfl) (fun _ _ => rfl) (fun rec v => r130_0 k rec v) n
theorem e130 (k : Nat) (x : dens (flatC (S130 k).ps)) : funK (E130 k) (S130 k) Try.f130 x = (S130 k).fn x := by
  have h : funK (E130 k) (S130 k) Try.f130 x = impl_Tasks_number.g k (fun a0 a1 a2 a3 a4 => loopF (E130 k) (S130 k) Try.f130 p130_0 [] k (n130_0 a0 a1 a2 a3 a4)) x.1 x.2 := by kernel_rfl
  rw [h]
  rw [show (fun a0 a1 a2 a3 a4 => loopF (E130 k) (S130 k) Try.f130 p130_0 [] k (n130_0 a0 a1 a2 a3 a4)) = impl_Tasks_number.l0 k k from funext fun a0 => funext fun a1 => funext fun a2 => funext fun a3 => funext fun a4 => q130_0 k k (a0, a1, a2, a3, a4)]
  rfl
theorem M130 (k : Nat) : Meets Try.prog 130 (S130 k) := meets_of Try.func130 (by kernel_rfl) tbOk orc_nil mixOk (fun x y h => (e130 k x).trans h) rfl

/-! impl_graph_keeping: function 131 -/
noncomputable def impl_graph_keeping.s0 (k : Nat) (r0 : ((List Int) × (List (List (Int × Int))) × (List Bool)) → Int → (List Int) → Int → Option ((List Int))) (x0 : (List Int) × (List (List (Int × Int))) × (List Bool)) (x1 : Int) (x5 : List Int) (x6 : Int) : Option ((List Int)) := (impl_Tasks_many.f x0.1).bind fun t1 => if x6 < t1 then (if 0 ≤ x1 then (if x1 < (x0.2.1.length : Int) then (if (mgI (rdOf ([] : List (Int × Int)) x0.2.1 x1) x6).isSome = true then (if 0 ≤ ((mgI (rdOf ([] : List (Int × Int)) x0.2.1 x1) x6).getD 0) then (if ((mgI (rdOf ([] : List (Int × Int)) x0.2.1 x1) x6).getD 0) < (x0.2.2.length : Int) then (if (rdOf false x0.2.2 ((mgI (rdOf ([] : List (Int × Int)) x0.2.1 x1) x6).getD 0)) = true then (if x5.length + 1 ≤ 1099511627776 then (r0 x0 x1 (x5 ++ [x6]) (wrap64 (x6 + 1))) else (none)) else (r0 x0 x1 x5 (wrap64 (x6 + 1)))) else (none)) else (none)) else (r0 x0 x1 x5 (wrap64 (x6 + 1)))) else (none)) else (none)) else (some x5)
noncomputable def impl_graph_keeping.l0 (k : Nat) : Nat → ((List Int) × (List (List (Int × Int))) × (List Bool)) → Int → (List Int) → Int → Option ((List Int))
  | 0, _, _, _, _ => none
  | n + 1, x0, x1, x2, x3 => impl_graph_keeping.s0 k (impl_graph_keeping.l0 k n) x0 x1 x2 x3
noncomputable def impl_graph_keeping.g (k : Nat) (r0 : ((List Int) × (List (List (Int × Int))) × (List Bool)) → Int → (List Int) → Int → Option ((List Int))) (a0 : (List Int) × (List (List (Int × Int))) × (List Bool)) (a1 : Int) : Option ((List Int)) := r0 a0 a1 [] (-1)
noncomputable def impl_graph_keeping.f (k : Nat) (a0 : (List Int) × (List (List (Int × Int))) × (List Bool)) (a1 : Int) : Option ((List Int)) := impl_graph_keeping.g k (impl_graph_keeping.l0 k k) a0 a1
noncomputable def S131 (k : Nat) : Does := ⟨[(false, [.dat (.ptr (.struct (.pair (.struct (.list (.int .i64))) (.pair (.list (.map (.int .i64) (.int .i64))) (.list .bool)))))]), (false, [.dat (.int .i64)])], [(false, [.own 2 (.int .i64)])], fun x => impl_graph_keeping.f k x.1 x.2⟩
noncomputable def E131 (k : Nat) : En := ⟨tb, orcOf [(197, S197 k)], lvOf [(0, [(0, []), (1, []), (5, [.nil 2 (.int .i64)]), (6, [])])], k, 0, lvOf [], []⟩
noncomputable def n131_0 (x0 : (List Int) × (List (List (Int × Int))) × (List Bool)) (x1 : Int) (x5 : List Int) (x6 : Int) : St := ⟨45, lookA [(0, .dp (.struct (.pair (.struct (.list (.int .i64))) (.pair (.list (.map (.int .i64) (.int .i64))) (.list .bool)))) x0), (1, .dat (.int .i64) x1), (5, .own 0), (6, .dat (.int .i64) x6)], Go.V.look [(0, .flat 2 (.int .i64) x5)]⟩
def p131_0 : List Bool := [true, true, false, true, false]
theorem r131_0 (k : Nat) (rec : St → Option ((List Int))) (v : ((List Int) × (List (List (Int × Int))) × (List Bool)) × Int × (List Int) × Int) : roundF (E131 k) (S131 k) Try.f131 p131_0 [] rec (n131_0 v.1 v.2.1 v.2.2.1 v.2.2.2) = impl_graph_keeping.s0 k (fun a0 a1 a2 a3 => rec (n131_0 a0 a1 a2 a3)) v.1 v.2.1 v.2.2.1 v.2.2.2 := by
  kernel_rfl
theorem q131_0 (k : Nat) (n : Nat) : ∀ v : ((List Int) × (List (List (Int × Int))) × (List Bool)) × Int × (List Int) × Int, loopF (E131 k) (S131 k) Try.f131 p131_0 [] n (n131_0 v.1 v.2.1 v.2.2.1 v.2.2.2) = impl_graph_keeping.l0 k n v.1 v.2.1 v.2.2.1 v.2.2.2 :=
  loopF_eq (E131 k) (S131 k) Try.f131 p131_0 [] (fun v : ((List Int) × (List (List (Int × Int))) × (List Bool)) × Int × (List Int) × Int => n131_0 v.1 v.2.1 v.2.2.1 v.2.2.2) (fun rec v => impl_graph_keeping.s0 k (fun a0 a1 a2 a3 => rec (a0, a1, a2, a3)) v.1 v.2.1 v.2.2.1 v.2.2.2) (fun n v => impl_graph_keeping.l0 k n v.1 v.2.1 v.2.2.1 v.2.2.2) (fun _ => rfl) (fun _ _ => rfl) (fun rec v => r131_0 k rec v) n
theorem e131 (k : Nat) (x : dens (flatC (S131 k).ps)) : funK (E131 k) (S131 k) Try.f131 x = (S131 k).fn x := by
  have h : funK (E131 k) (S131 k) Try.f131 x = impl_graph_keeping.g k (fun a0 a1 a2 a3 => loopF (E131 k) (S131 k) Try.f131 p131_0 [] k (n131_0 a0 a1 a2 a3)) x.1 x.2 := by kernel_rfl
  rw [h]
  rw [show (fun a0 a1 a2 a3 => loopF (E131 k) (S131 k) Try.f131 p131_0 [] k (n131_0 a0 a1 a2 a3)) = impl_graph_keeping.l0 k k from funext fun a0 => funext fun a1 => funext fun a2 => funext fun a3 => q131_0 k k (a0, a1, a2, a3)]
  rfl
theorem M131 (k : Nat) : Meets Try.prog 131 (S131 k) := meets_of Try.func131 (by kernel_rfl) tbOk (orc_cons (M197 k) orc_nil) mixOk (fun x y h => (e131 k x).trans h) rfl

/-! impl_graphOf: function 129 -/
noncomputable def impl_graphOf.s3 (k : Nat) (r2 : (List Int) → (List (List (Int × Int))) → (List Bool) → Bool → Option (((List Int) × (List (List (Int × Int))) × (List Bool)))) (r3 : (List Int) → (List (List (Int × Int))) → (List Bool) → Bool → Int → Int → Option (((List Int) × (List (List (Int × Int))) × (List Bool)))) (x3_0 : List Int) (x3_1 : List (List (Int × Int))) (x3_2 : List Bool) (x9 : Bool) (x67 : Int) (x68 : Int) : Option (((List Int) × (List (List (Int × Int))) × (List Bool))) := if x68 < x67 then (if 0 ≤ x68 then (if x68 < (x3_2.length : Int) then (if (rdOf false x3_2 x68) = true then ((impl_graph_keeping.f k (x3_0, x3_1, x3_2) x68).bind fun t6 => if (t6.length : Int) = 0 then (if 0 ≤ x68 then (if x68 < (x3_2.length : Int) then (r3 x3_0 x3_1 (x3_2.set x68.toNat false) true x67 (wrap64 (x68 + 1))) else (none)) else (none)) else (r3 x3_0 x3_1 x3_2 x9 x67 (wrap64 (x68 + 1)))) else (r3 x3_0 x3_1 x3_2 x9 x67 (wrap64 (x68 + 1)))) else (none)) else (none)) else (r2 x3_0 x3_1 x3_2 x9)
noncomputable def impl_graphOf.l3 (k : Nat) (r2 : (List Int) → (List (List (Int × Int))) → (List Bool) → Bool → Option (((List Int) × (List (List (Int × Int))) × (List Bool)))) : Nat → (List Int) → (List (List (Int × Int))) → (List Bool) → Bool → Int → Int → Option (((List Int) × (List (List (Int × Int))) × (List Bool)))
  | 0, _, _, _, _, _, _ => none
  | n + 1, x0, x1, x2, x3, x4, x5 => impl_graphOf.s3 k r2 (impl_graphOf.l3 k r2 n) x0 x1 x2 x3 x4 x5
noncomputable def impl_graphOf.s2 (k : Nat) (r2 : (List Int) → (List (List (Int × Int))) → (List Bool) → Bool → Option (((List Int) × (List (List (Int × Int))) × (List Bool)))) (r3 : (List Int) → (List (List (Int × Int))) → (List Bool) → Bool → Int → Int → Option (((List Int) × (List (List (Int × Int))) × (List Bool)))) (x3_0 : List Int) (x3_1 : List (List (Int × Int))) (x3_2 : List Bool) (x9 : Bool) : Option (((List Int) × (List (List (Int × Int))) × (List Bool))) := if x9 = true then (r3 x3_0 x3_1 x3_2 false (x3_2.length : Int) 0) else (some (x3_0, x3_1, x3_2))
noncomputable def impl_graphOf.l2 (k : Nat) : Nat → (List Int) → (List (List (Int × Int))) → (List Bool) → Bool → Option (((List Int) × (List (List (Int × Int))) × (List Bool)))
  | 0, _, _, _, _ => none
  | n + 1, x0, x1, x2, x3 => impl_graphOf.s2 k (impl_graphOf.l2 k n) (impl_graphOf.l3 k (impl_graphOf.l2 k n) k) x0 x1 x2 x3
noncomputable def impl_graphOf.s1 (k : Nat) (r0 : (List Int) → (List Int) → (List (List (Int × Int))) → (List Bool) → Int → Int → Option (((List Int) × (List (List (Int × Int))) × (List Bool)))) (r1 : (List Int) → (List Int) → (List (List (Int × Int))) → (List Bool) → Int → (List (Int × Int)) → Int → Int → Int → Option (((List Int) × (List (List (Int × Int))) × (List Bool)))) (x1_0 : List Int) (x3_0 : List Int) (x3_1 : List (List (Int × Int))) (x3_2 : List Bool) (x4 : Int) (x5 : List (Int × Int)) (x6 : Int) (x16 : Int) (x17 : Int) : Option (((List Int) × (List (List (Int × Int))) × (List Bool))) := (impl_Tasks_many.f x1_0).bind fun t2 => if x6 < t2 then ((impl_Tasks_numbered.f k x1_0 x4).bind fun t3 => (impl_Tasks_step.f k x1_0 t3 x6).bind fun t4 => if t4.2 = true then ((impl_Tasks_number.f k x1_0 t4.1).bind fun t5 => r1 x1_0 x3_0 x3_1 x3_2 x4 (mpI x5 x6 t5) (wrap64 (x6 + 1)) x16 x17) else (r1 x1_0 x3_0 x3_1 x3_2 x4 x5 (wrap64 (x6 + 1)) x16 x17)) else (if x3_1.length + 1 ≤ 1099511627776 then (if x3_2.length + 1 ≤ 1099511627776 then (r0 x1_0 x3_0 (x3_1 ++ [x5]) (x3_2 ++ [true]) x16 (wrap64 (x17 + 1))) else (none)) else (none))
noncomputable def impl_graphOf.l1 (k : Nat) (r0 : (List Int) → (List Int) → (List (List (Int × Int))) → (List Bool) → Int → Int → Option (((List Int) × (List (List (Int × Int))) × (List Bool)))) : Nat → (List Int) → (List Int) → (List (List (Int × Int))) → (List Bool) → Int → (List (Int × Int)) → Int → Int → Int → Option (((List Int) × (List (List (Int × Int))) × (List Bool)))
  | 0, _, _, _, _, _, _, _, _, _ => none
  | n + 1, x0, x1, x2, x3, x4, x5, x6, x7, x8 => impl_graphOf.s1 k r0 (impl_graphOf.l1 k r0 n) x0 x1 x2 x3 x4 x5 x6 x7 x8
noncomputable def impl_graphOf.s0 (k : Nat) (r0 : (List Int) → (List Int) → (List (List (Int × Int))) → (List Bool) → Int → Int → Option (((List Int) × (List (List (Int × Int))) × (List Bool)))) (r1 : (List Int) → (List Int) → (List (List (Int × Int))) → (List Bool) → Int → (List (Int × Int)) → Int → Int → Int → Option (((List Int) × (List (List (Int × Int))) × (List Bool)))) (r2 : (List Int) → (List (List (Int × Int))) → (List Bool) → Bool → Option (((List Int) × (List (List (Int × Int))) × (List Bool)))) (x1_0 : List Int) (x3_0 : List Int) (x3_1 : List (List (Int × Int))) (x3_2 : List Bool) (x16 : Int) (x17 : Int) : Option (((List Int) × (List (List (Int × Int))) × (List Bool))) := if x17 < x16 then (r1 x1_0 x3_0 x3_1 x3_2 x17 [] (-1) x16 x17) else (r2 x3_0 x3_1 x3_2 true)
noncomputable def impl_graphOf.l0 (k : Nat) : Nat → (List Int) → (List Int) → (List (List (Int × Int))) → (List Bool) → Int → Int → Option (((List Int) × (List (List (Int × Int))) × (List Bool)))
  | 0, _, _, _, _, _, _ => none
  | n + 1, x0, x1, x2, x3, x4, x5 => impl_graphOf.s0 k (impl_graphOf.l0 k n) (impl_graphOf.l1 k (impl_graphOf.l0 k n) k) (impl_graphOf.l2 k k) x0 x1 x2 x3 x4 x5
noncomputable def impl_graphOf.g (k : Nat) (r0 : (List Int) → (List Int) → (List (List (Int × Int))) → (List Bool) → Int → Int → Option (((List Int) × (List (List (Int × Int))) × (List Bool)))) (l0_0 : List Int) : Option (((List Int) × (List (List (Int × Int))) × (List Bool))) := (impl_Tasks_states.f k l0_0).bind fun t1 => r0 l0_0 l0_0 [] [] t1 0
noncomputable def impl_graphOf.f (k : Nat) (l0_0 : List Int) : Option (((List Int) × (List (List (Int × Int))) × (List Bool))) := impl_graphOf.g k (impl_graphOf.l0 k k) l0_0
noncomputable def S129 (k : Nat) : Does := ⟨[(true, [.dat (.list (.int .i64))])], [(false, [.dat (.ptr (.struct (.pair (.struct (.list (.int .i64))) (.pair (.list (.map (.int .i64) (.int .i64))) (.list .bool)))))])], fun x => impl_graphOf.f k x⟩
noncomputable def E129 (k : Nat) : En := ⟨tb, orcOf [(124, S124 k), (197, S197 k), (155, S155 k), (140, S140 k), (130, S130 k), (131, S131 k)], lvOf [(0, [(1, []), (3, [.cell 1 145 (.map (.int .i64) (.int .i64)), .cell 2 4 .bool]), (16, []), (17, [])]), (2, [(1, []), (3, []), (4, []), (5, []), (6, []), (16, []), (17, [])]), (4, [(3, []), (9, [])]), (6, [(3, []), (9, []), (66, []), (67, []), (68, [])])], k, 0, lvOf [], []⟩
noncomputable def n129_0 (x1_0 : List Int) (x3_0 : List Int) (x3_1 : List (List (Int × Int))) (x3_2 : List Bool) (x16 : Int) (x17 : Int) : St := ⟨89, lookA [(1, .box 0 0), (3, .box 1 0), (16, .dat (.int .i64) x16), (17, .dat (.int .i64) x17)], Go.V.look [(0, .cells [.dat (.list (.int .i64)) x1_0]), (1, .cells [.dat (.list (.int .i64)) x3_0, .own 2, .own 3]), (2, .flat 145 (.map (.int .i64) (.int .i64)) x3_1), (3, .flat 4 .bool x3_2)]⟩
def p129_0 : List Bool := [true, true, false, true, false]
noncomputable def n129_1 (x1_0 : List Int) (x3_0 : List Int) (x3_1 : List (List (Int × Int))) (x3_2 : List Bool) (x4 : Int) (x5 : List (Int × Int)) (x6 : Int) (x16 : Int) (x17 : Int) : St := ⟨89, lookA [(1, .box 0 0), (3, .box 1 0), (4, .dat (.int .i64) x4), (5, .om 2), (6, .dat (.int .i64) x6), (16, .dat (.int .i64) x16), (17, .dat (.int .i64) x17)], Go.V.look [(0, .cells [.dat (.list (.int .i64)) x1_0]), (1, .cells [.dat (.list (.int .i64)) x3_0, .own 3, .own 4]), (2, .mp (.int .i64) (.int .i64) x5), (3, .flat 145 (.map (.int .i64) (.int .i64)) x3_1), (4, .flat 4 .bool x3_2)]⟩
def p129_1 : List Bool := [true, true, false, true, false, false, true, true, false, false, true, true, false, true, false]
noncomputable def n129_2 (x3_0 : List Int) (x3_1 : List (List (Int × Int))) (x3_2 : List Bool) (x9 : Bool) : St := ⟨89, lookA [(3, .box 0 0), (9, .dat .bool x9)], Go.V.look [(0, .cells [.dat (.list (.int .i64)) x3_0, .own 1, .own 2]), (1, .flat 145 (.map (.int .i64) (.int .i64)) x3_1), (2, .flat 4 .bool x3_2)]⟩
def p129_2 : List Bool := [true, true, true, false, true, false]
noncomputable def n129_3 (x3_0 : List Int) (x3_1 : List (List (Int × Int))) (x3_2 : List Bool) (x9 : Bool) (x67 : Int) (x68 : Int) : St := ⟨89, lookA [(3, .box 0 0), (9, .dat .bool x9), (66, .own 1), (67, .dat (.int .i64) x67), (68, .dat (.int .i64) x68)], Go.V.look [(0, .cells [.dat (.list (.int .i64)) x3_0, .own 2, .own 1]), (1, .flat 4 .bool x3_2), (2, .flat 145 (.map (.int .i64) (.int .i64)) x3_1)]⟩
def p129_3 : List Bool := [true, true, true, false, true, false, false, true, false, true, true, false]
theorem r129_3 (k : Nat) (R2 : St → Option (((List Int) × (List (List (Int × Int))) × (List Bool)))) (rec : St → Option (((List Int) × (List (List (Int × Int))) × (List Bool)))) (v : (List Int) × (List (List (Int × Int))) × (List Bool) × Bool × Int × Int) : roundF (E129 k) (S129 k) Try.f129 p129_3 [R2] rec (n129_3 v.1 v.2.1 v.2.2.1 v.2.2.2.1 v.2.2.2.2.1 v.2.2.2.2.2) = impl_graphOf.s3 k (fun a0 a1 a2 a3 => R2 (n129_2 a0 a1 a2 a3)) (fun a0 a1 a2 a3 a4 a5 => rec (n129_3 a0 a1 a2 a3 a4 a5)) v.1 v.2.1 v.2.2.1 v.2.2.2.1 v.2.2.2.2.1 v.2.2.2.2.2 := by
  kernel_rfl
theorem q129_3 (k : Nat) (R2 : St → Option (((List Int) × (List (List (Int × Int))) × (List Bool)))) (n : Nat) : ∀ v : (List Int) × (List (List (Int × Int))) × (List Bool) × Bool × Int × Int, loopF (E129 k) (S129 k) Try.f129 p129_3 [R2] n (n129_3 v.1 v.2.1 v.2.2.1 v.2.2.2.1 v.2.2.2.2.1 v.2.2.2.2.2) = impl_graphOf.l3 k (fun a0 a1 a2 a3 => R2 (n129_2 a0 a1 a2 a3)) n v.1 v.2.1 v.2.2.1 v.2.2.2.1 v.2.2.2.2.1 v.2.2.2.2.2 :=
  loopF_eq (E129 k) (S129 k) Try.f129 p129_3 [R2] (fun v : (List Int) × (List (List (Int × Int))) × (List Bool) × Bool × Int × Int => n129_3 v.1 v.2.1 v.2.2.1 v.2.2.2.1 v.2.2.2.2.1 v.2.2.2.2.2) (fun rec v => impl_graphOf.s3 k (fun a0 a1 a2 a3 => R2 (n129_2 a0 a1 a2 a3)) (fun a0 a1 a2 a3 a4 a5 => rec (a0, a1, a2, a3, a4, a5)) v.1 v.2.1 v.2.2.1 v.2.2.2.1 v.2.2.2.2.1 v.2.2.2.2.2) (fun n v => impl_graphOf.l3 k (fun a0 a1 a2 a3 => R2 (n129_2 a0 a1 a2 a3)) n v.1 v.2.1 v.2.2.1 v.2.2.2.1 v.2.2.2.2.1 v.2.2.2.2.2) (fun _ => rfl) (fun _ _ => rfl) (fun rec v => r129_3 k R2 rec v) n
theorem r129_2 (k : Nat) (rec : St → Option (((List Int) × (List (List (Int × Int))) × (List Bool)))) (G3 : (List Int) → (List (List (Int × Int))) → (List Bool) → Bool → Int → Int → Option (((List Int) × (List (List (Int × Int))) × (List Bool)))) (h3 : ∀ a0 a1 a2 a3 a4 a5, loopF (E129 k) (S129 k) Try.f129 p129_3 [rec] k (n129_3 a0 a1 a2 a3 a4 a5) = G3 a0 a1 a2 a3 a4 a5) (v : (List Int) × (List (List (Int × Int))) × (List Bool) × Bool) : roundF (E129 k) (S129 k) Try.f129 p129_2 [] rec (n129_2 v.1 v.2.1 v.2.2.1 v.2.2.2) = impl_graphOf.s2 k (fun a0 a1 a2 a3 => rec (n129_2 a0 a1 a2 a3)) G3 v.1 v.2.1 v.2.2.1 v.2.2.2 := by
  obtain rfl : (fun a0 a1 a2 a3 a4 a5 => loopF (E129 k) (S129 k) Try.f129 p129_3 [rec] k (n129_3 a0 a1 a2 a3 a4 a5)) = G3 := funext fun a0 => funext fun a1 => funext fun a2 => funext fun a3 => funext fun a4 => funext fun a5 => h3 a0 a1 a2 a3 a4 a5
  kernel_rfl
theorem q129_2 (k : Nat) (n : Nat) : ∀ v : (List Int) × (List (List (Int × Int))) × (List Bool) × Bool, loopF (E129 k) (S129 k) Try.f129 p129_2 [] n (n129_2 v.1 v.2.1 v.2.2.1 v.2.2.2) = impl_graphOf.l2 k n v.1 v.2.1 v.2.2.1 v.2.2.2 :=
  loopF_eq (E129 k) (S129 k) Try.f129 p129_2 [] (fun v : (List Int) × (List (List (Int × Int))) × (List Bool) × Bool => n129_2 v.1 v.2.1 v.2.2.1 v.2.2.2) (fun rec v => impl_graphOf.s2 k (fun a0 a1 a2 a3 => rec (a0, a1, a2, a3)) (impl_graphOf.l3 k (fun a0 a1 a2 a3 => rec (a0, a1, a2, a3)) k) v.1 v.2.1 v.2.2.1 v.2.2.2) (fun n v => impl_graphOf.l2 k n v.1 v.2.1 v.2.2.1 v.2.2.2) (fun _ => rfl) (fun _ _ => rfl) (fun rec v => r129_2 k rec _ (fun a0 a1 a2 a3 a4 a5 => q129_3 k rec k (a0, a1, a2, a3, a4, a5)) v) n
theorem r129_1 (k : Nat) (R0 : St → Option (((List Int) × (List (List (Int × Int))) × (List Bool)))) (rec : St → Option (((List Int) × (List (List (Int × Int))) × (List Bool)))) (v : (List Int) × (List Int) × (List (List (Int × Int))) × (List Bool) × Int × (List (Int × Int)) × Int × Int × Int) : roundF (E129 k) (S129 k) Try.f129 p129_1 [R0] rec (n129_1 v.1 v.2.1 v.2.2.1 v.2.2.2.1 v.2.2.2.2.1 v.2.2.2.2.2.1 v.2.2.2.2.2.2.1 v.2.2.2.2.2.2.2.1 v.2.2.2.2.2.2.2.2) = impl_graphOf.s1 k (fun a0 a1 a2 a3 a4 a5 => R0 (n129_0 a0 a1 a2 a3 a4 a5)) (fun a0 a1 a2 a3 a4 a5 a6 a7 a8 => rec (n129_1 a0 a1 a2 a3 a4 a5 a6 a7 a8)) v.1 v.2.1 v.2.2.1 v.2.2.2.1 v.2.2.2.2.1 v.2.2.2.2.2.1 v.2.2.2.2.2.2.1 v.2.2.2.2.2.2.2.1 v.2.2.2.2.2.2.2.2 := by
  kernel_rfl
theorem q129_1 (k : Nat) (R0 : St → Option (((List Int) × (List (List (Int × Int))) × (List Bool)))) (n : Nat) : ∀ v : (List Int) × (List Int) × (List (List (Int × Int))) × (List Bool) × Int × (List (Int × Int)) × Int × Int × Int, loopF (E129 k) (S129 k) Try.f129 p129_1 [R0] n (n129_1 v.1 v.2.1 v.2.2.1 v.2.2.2.1 v.2.2.2.2.1 v.2.2.2.2.2.1 v.2.2.2.2.2.2.1 v.2.2.2.2.2.2.2.1 v.2.2.2.2.2.2.2.2) = impl_graphOf.l1 k (fun a0 a1 a2 a3 a4 a5 => R0 (n129_0 a0 a1 a2 a3 a4 a5)) n v.1 v.2.1 v.2.2.1 v.2.2.2.1 v.2.2.2.2.1 v.2.2.2.2.2.1 v.2.2.2.2.2.2.1 v.2.2.2.2.2.2.2.1 v.2.2.2.2.2.2.2.2 :=
  loopF_eq (E129 k) (S129 k) Try.f129 p129_1 [R0] (fun v : (List Int) × (List Int) × (List (List (Int × Int))) × (List Bool) × Int × (List (Int × Int)) × Int × Int × Int => n129_1 v.1 v.2.1 v.2.2.1 v.2.2.2.1 v.2.2.2.2.1 v.2.2.2.2.2.1 v.2.2.2.2.2.2.1 v.2.2.2.2.2.2.2.1 v.2.2.2.2.2.2.2.2) (fun rec v => impl_graphOf.s1 k (fun a0 a1 a2 a3 a4 a5 => R0 (n129_0 a0 a1 a2 a3 a4 a5)) (fun a0 a1 a2 a3 a4 a5 a6 a7 a8 => rec (a0, a1, a2, a3, a4, a5, a6, a7, a8)) v.1 v.2.1 v.2.2.1 v.2.2.2.1 v.2.2.2.2.1 v.2.2.2.2.2.1 v.2.2.2.2.2.2.1 v.2.2.2.2.2.2.2.1 v.2.2.2.2.2.2.2.2) (fun n v => impl_graphOf.l1 k (fun a0 a1 a2 a3 a4 a5 => R0 (n129_0 a0 a1 a2 a3 a4 a5)) n v.1 v.2.1 v.2.2.1 v.2.2.2.1 v.2.2.2.2.1 v.2.2.2.2.2.1 v.2.2.2.2.2.2.1 v.2.2.2.2.2.2.2.1 v.2.2.2.2.2.2.2.2) (fun _ => rfl) (fun _ _ => rfl) (fun rec v => r129_1 k R0 rec v) n
theorem r129_0 (k : Nat) (rec : St → Option (((List Int) × (List (List (Int × Int))) × (List Bool)))) (G1 : (List Int) → (List Int) → (List (List (Int × Int))) → (List Bool) → Int → (List (Int × Int)) → Int → Int → Int → Option (((List Int) × (List (List (Int × Int))) × (List Bool)))) (h1 : ∀ a0 a1 a2 a3 a4 a5 a6 a7 a8, loopF (E129 k) (S129 k) Try.f129 p129_1 [rec] k (n129_1 a0 a1 a2 a3 a4 a5 a6 a7 a8) = G1 a0 a1 a2 a3 a4 a5 a6 a7 a8) (G2 : (List Int) → (List (List (Int × Int))) → (List Bool) → Bool → Option (((List Int) × (List (List (Int × Int))) × (List Bool)))) (h2 : ∀ a0 a1 a2 a3, loopF (E129 k) (S129 k) Try.f129 p129_2 [] k (n129_2 a0 a1 a2 a3) = G2 a0 a1 a2 a3) (v : (List Int) × (List Int) × (List (List (Int × Int))) × (List Bool) × Int × Int) : roundF (E129 k) (S129 k) Try.f129 p129_0 [] rec (n129_0 v.1 v.2.1 v.2.2.1 v.2.2.2.1 v.2.2.2.2.1 v.2.2.2.2.2) = impl_graphOf.s0 k (fun a0 a1 a2 a3 a4 a5 => rec (n129_0 a0 a1 a2 a3 a4 a5)) G1 G2 v.1 v.2.1 v.2.2.1 v.2.2.2.1 v.2.2.2.2.1 v.2.2.2.2.2 := by
  obtain rfl : (fun a0 a1 a2 a3 a4 a5 a6 a7 a8 => loopF (E129 k) (S129 k) Try.f129 p129_1 [rec] k (n129_1 a0 a1 a2 a3 a4 a5 a6 a7 a8)) = G1 := funext fun a0 => funext fun a1 => funext fun a2 => funext fun a3 => funext fun a4 => funext fun a5 => funext fun a6 => funext fun a7 => funext fun a8 => h1 a0 a1 a2 a3 a4 a5 a6 a7 a8
  obtain rfl : (fun a0 a1 a2 a3 => loopF (E129 k) (S129 k) Try.f129 p129_2 [] k (n129_2 a0 a1 a2 a3)) = G2 := funext fun a0 => funext fun a1 => funext fun a2 => funext fun a3 => h2 a0 a1 a2 a3
  kernel_rfl
theorem q129_0 (k : Nat) (n : Nat) : ∀ v : (List Int) × (List Int) × (List (List (Int × Int))) × (List Bool) × Int × Int, loopF (E129 k) (S129 k) Try.f129 p129_0 [] n (n129_0 v.1 v.2.1 v.2.2.1 v.2.2.2.1 v.2.2.2.2.1 v.2.2.2.2.2) = impl_graphOf.l0 k n v.1 v.2.1 v.2.2.1 v.2.2.2.1 v.2.2.2.2.1 v.2.2.2.2.2 :=
  loopF_eq (E129 k) (S129 k) Try.f129 p129_0 [] (fun v : (List Int) × (List Int) × (List (List (Int × Int))) × (List Bool) × Int × Int => n129_0 v.1 v.2.1 v.2.2.1 v.2.2.2.1 v.2.2.2.2.1 v.2.2.2.2.2) (fun rec v => impl_graphOf.s0 k (fun a0 a1 a2 a3 a4 a5 => rec (a0, a1, a2, a3, a4, a5)) (impl_graphOf.l1 k (fun a0 a1 a2 a3 a4 a5 => rec (a0, a1, a2, a3, a4, a5)) k) (impl_graphOf.l2 k k) v.1 v.2.1 v.2.2.1 v.2.2.2.1 v.2.2.2.2.1 v.2.2.2.2.2) (fun n v => impl_graphOf.l0 k n v.1 v.2.1 v.2.2.1 v.2.2.2.1 v.2.2.2.2.1 v.2.2.2.2.2) (fun _ => rfl) (fun _ _ => rfl) (fun rec v => r129_0 k rec _ (fun a0 a1 a2 a3 a4 a5 a6 a7 a8 => q129_1 k rec k (a0, a1, a2, a3, a4, a5, a6, a7, a8)) _ (fun a0 a1 a2 a3 => q129_2 k k (a0, a1, a2, a3)) v) n
theorem e129 (k : Nat) (x : dens (flatC (S129 k).ps)) : funK (E129 k) (S129 k) Try.f129 x = (S129 k).fn x := by
  have h : funK (E129 k) (S129 k) Try.f129 x = impl_graphOf.g k (fun a0 a1 a2 a3 a4 a5 => loopF (E129 k) (S129 k) Try.f129 p129_0 [] k (n129_0 a0 a1 a2 a3 a4 a5)) x := by kernel_rfl
  rw [h]
  rw [show (fun a0 a1 a2 a3 a4 a5 => loopF (E129 k) (S129 k) Try.f129 p129_0 [] k (n129_0 a0 a1 a2 a3 a4 a5)) = impl_graphOf.l0 k k from funext fun a0 => funext fun a1 => funext fun a2 => funext fun a3 => funext fun a4 => funext fun a5 => q129_0 k k (a0, a1, a2, a3, a4, a5)]
  rfl
theorem M129 (k : Nat) : Meets Try.prog 129 (S129 k) := meets_of Try.func129 (by kernel_rfl) tbOk (orc_cons (M124 k) (orc_cons (M197 k) (orc_cons (M155 k) (orc_cons (M140 k) (orc_cons (M130 k) (orc_cons (M131 k) orc_nil)))))) mixOk (fun x y h => (e129 k x).trans h) rfl

/-! impl_graph_full: function 152 -/
noncomputable def impl_graph_full.f (k : Nat) (a0 : (List Int) × (List (List (Int × Int))) × (List Bool)) : Option (Int) := (impl_Tasks_states.f k a0.1).bind fun t1 => some (wrap64 (t1 - 1))
noncomputable def S152 (k : Nat) : Does := ⟨[(false, [.dat (.ptr (.struct (.pair (.struct (.list (.int .i64))) (.pair (.list (.map (.int .i64) (.int .i64))) (.list .bool)))))])], [(false, [.dat (.int .i64)])], fun x => impl_graph_full.f k x⟩
noncomputable def E152 (k : Nat) : En := ⟨tb, orcOf [(124, S124 k)], lvOf [], k, 0, lvOf [], []⟩
theorem e152 (k : Nat) (x : dens (flatC (S152 k).ps)) : funK (E152 k) (S152 k) Try.f152 x = (S152 k).fn x := by
  kernel_rfl
theorem M152 (k : Nat) : Meets Try.prog 152 (S152 k) := meets_of Try.func152 (by kernel_rfl) tbOk (orc_cons (M124 k) orc_nil) mixOk (fun x y h => (e152 k x).trans h) rfl

/-! impl_servable: function 151 -/
noncomputable def impl_servable.f (k : Nat) (l0_0 : List Int) (a1 : Bool) : Option ((Option ((List Int) × (List (List (Int × Int))) × (List Bool))) × Int) := (impl_statesCode.f k l0_0 a1).bind fun t1 => if t1 = 0 then ((impl_graphOf.f k l0_0).bind fun t2 => (impl_graph_full.f k t2).bind fun t3 => if 0 ≤ t3 then (if t3 < (t2.2.2.length : Int) then (if (rdOf false t2.2.2 t3) = true then (some ((some t2), 0)) else (some (none, 4))) else (none)) else (none)) else (some (none, t1))
noncomputable def S151 (k : Nat) : Does := ⟨[(true, [.dat (.list (.int .i64))]), (false, [.dat .bool])], [(false, [.dat (.optr (.struct (.pair (.struct (.list (.int .i64))) (.pair (.list (.map (.int .i64) (.int .i64))) (.list .bool)))))]), (false, [.dat (.int .i64)])], fun x => impl_servable.f k x.1 x.2⟩
noncomputable def E151 (k : Nat) : En := ⟨tb, orcOf [(115, S115 k), (129, S129 k), (152, S152 k)], lvOf [], k, 0, lvOf [], []⟩
theorem e151 (k : Nat) (x : dens (flatC (S151 k).ps)) : funK (E151 k) (S151 k) Try.f151 x = (S151 k).fn x := by
  kernel_rfl
theorem M151 (k : Nat) : Meets Try.prog 151 (S151 k) := meets_of Try.func151 (by kernel_rfl) tbOk (orc_cons (M115 k) (orc_cons (M129 k) (orc_cons (M152 k) orc_nil))) mixOk (fun x y h => (e151 k x).trans h) rfl

/-! impl_LeastPlay: function 48 -/
noncomputable def impl_LeastPlay.s0 (k : Nat) (r0 : (Option ((List Int) × (List (List (Int × Int))) × (List Bool))) → (List (Int × Int)) → (List Int) → Int → Option ((List Int) × (List Int) × Int)) (x5 : Option ((List Int) × (List (List (Int × Int))) × (List Bool))) (x7 : List (Int × Int)) (x8 : List Int) (x9 : Int) : Option ((List Int) × (List Int) × Int) := if (mgI x7 x9).isSome = true then (if 0 ≤ ((mgI x7 x9).getD 0) then (if ((mgI x7 x9).getD 0) ≤ (x8.length : Int) then ((slices_Clone_int64_int64.f (x8.take ((mgI x7 x9).getD 0).toNat)).bind fun t4 => if 0 ≤ ((mgI x7 x9).getD 0) then (if ((mgI x7 x9).getD 0) ≤ (x8.length : Int) then (if (x8.length : Int) ≤ (x8.length : Int) then ((slices_Clone_int64_int64.f ((x8.take (x8.length : Int).toNat).drop ((mgI x7 x9).getD 0).toNat)).bind fun t5 => some (t4, t5, 0)) else (none)) else (none)) else (none)) else (none)) else (none)) else ((x5).bind fun u6 => (impl_graph_keeping.f k u6 x9).bind fun t7 => if 0 < (t7.length : Int) then (if x8.length + 1 ≤ 1099511627776 then ((x5).bind fun u8 => if 0 ≤ x9 then (if x9 < (u8.2.1.length : Int) then (r0 x5 (mpI x7 x9 (x8.length : Int)) (x8 ++ [(rd t7 0)]) ((mgI (rdOf ([] : List (Int × Int)) u8.2.1 x9) (rd t7 0)).getD 0)) else (none)) else (none)) else (none)) else (none))
noncomputable def impl_LeastPlay.l0 (k : Nat) : Nat → (Option ((List Int) × (List (List (Int × Int))) × (List Bool))) → (List (Int × Int)) → (List Int) → Int → Option ((List Int) × (List Int) × Int)
  | 0, _, _, _, _ => none
  | n + 1, x0, x1, x2, x3 => impl_LeastPlay.s0 k (impl_LeastPlay.l0 k n) x0 x1 x2 x3
noncomputable def impl_LeastPlay.g (k : Nat) (r0 : (Option ((List Int) × (List (List (Int × Int))) × (List Bool))) → (List (Int × Int)) → (List Int) → Int → Option ((List Int) × (List Int) × Int)) (l0_0 : List Int) : Option ((List Int) × (List Int) × Int) := (impl_servable.f k l0_0 true).bind fun t1 => if t1.2 = 0 then ((t1.1).bind fun u2 => (impl_graph_full.f k u2).bind fun t3 => r0 t1.1 [] [] t3) else (some ([], [], t1.2))
noncomputable def impl_LeastPlay.f (k : Nat) (l0_0 : List Int) : Option ((List Int) × (List Int) × Int) := impl_LeastPlay.g k (impl_LeastPlay.l0 k k) l0_0
noncomputable def S48 (k : Nat) : Does := ⟨[(true, [.dat (.list (.int .i64))])], [(false, [.own 2 (.int .i64)]), (false, [.own 2 (.int .i64)]), (false, [.dat (.int .i64)])], fun x => impl_LeastPlay.f k x⟩
noncomputable def E48 (k : Nat) : En := ⟨tb, orcOf [(151, S151 k), (152, S152 k), (125, S125 k), (131, S131 k)], lvOf [(0, [(5, []), (7, []), (8, [.nil 2 (.int .i64)]), (9, [])])], k, 0, lvOf [(9, [(8, [.data (.int .i64)])])], []⟩
noncomputable def n48_0 (x5 : Option ((List Int) × (List (List (Int × Int))) × (List Bool))) (x7 : List (Int × Int)) (x8 : List Int) (x9 : Int) : St := ⟨61, lookA [(5, .dat (.optr (.struct (.pair (.struct (.list (.int .i64))) (.pair (.list (.map (.int .i64) (.int .i64))) (.list .bool))))) x5), (7, .om 0), (8, .own 1), (9, .dat (.int .i64) x9)], Go.V.look [(0, .mp (.int .i64) (.int .i64) x7), (1, .flat 2 (.int .i64) x8)]⟩
def p48_0 : List Bool := [true, true, true, true, true, true, false]
theorem r48_0 (k : Nat) (rec : St → Option ((List Int) × (List Int) × Int)) (v : (Option ((List Int) × (List (List (Int × Int))) × (List Bool))) × (List (Int × Int)) × (List Int) × Int) : roundF (E48 k) (S48 k) Try.f48 p48_0 [] rec (n48_0 v.1 v.2.1 v.2.2.1 v.2.2.2) = impl_LeastPlay.s0 k (fun a0 a1 a2 a3 => rec (n48_0 a0 a1 a2 a3)) v.1 v.2.1 v.2.2.1 v.2.2.2 := by
  kernel_rfl
theorem q48_0 (k : Nat) (n : Nat) : ∀ v : (Option ((List Int) × (List (List (Int × Int))) × (List Bool))) × (List (Int × Int)) × (List Int) × Int, loopF (E48 k) (S48 k) Try.f48 p48_0 [] n (n48_0 v.1 v.2.1 v.2.2.1 v.2.2.2) = impl_LeastPlay.l0 k n v.1 v.2.1 v.2.2.1 v.2.2.2 :=
  loopF_eq (E48 k) (S48 k) Try.f48 p48_0 [] (fun v : (Option ((List Int) × (List (List (Int × Int))) × (List Bool))) × (List (Int × Int)) × (List Int) × Int => n48_0 v.1 v.2.1 v.2.2.1 v.2.2.2) (fun rec v => impl_LeastPlay.s0 k (fun a0 a1 a2 a3 => rec (a0, a1, a2, a3)) v.1 v.2.1 v.2.2.1 v.2.2.2) (fun n v => impl_LeastPlay.l0 k n v.1 v.2.1 v.2.2.1 v.2.2.2) (fun _ => rfl) (fun _ _ => rfl) (fun rec v => r48_0 k rec v) n
theorem e48 (k : Nat) (x : dens (flatC (S48 k).ps)) : funK (E48 k) (S48 k) Try.f48 x = (S48 k).fn x := by
  have h : funK (E48 k) (S48 k) Try.f48 x = impl_LeastPlay.g k (fun a0 a1 a2 a3 => loopF (E48 k) (S48 k) Try.f48 p48_0 [] k (n48_0 a0 a1 a2 a3)) x := by kernel_rfl
  rw [h]
  rw [show (fun a0 a1 a2 a3 => loopF (E48 k) (S48 k) Try.f48 p48_0 [] k (n48_0 a0 a1 a2 a3)) = impl_LeastPlay.l0 k k from funext fun a0 => funext fun a1 => funext fun a2 => funext fun a3 => q48_0 k k (a0, a1, a2, a3)]
  rfl
theorem M48 (k : Nat) : Meets Try.prog 48 (S48 k) := meets_of Try.func48 (by kernel_rfl) tbOk (orc_cons (M151 k) (orc_cons (M152 k) (orc_cons (M125 k) (orc_cons (M131 k) orc_nil)))) mixOk (fun x y h => (e48 k x).trans h) rfl

/-! spec_l01In: function 102 -/
noncomputable def spec_l01In.f (a0 : Int) (a1 : Int) (a2 : Int) : Option (Bool) := if a1 ≤ a0 then (some (decide (a0 ≤ a2))) else (some false)
noncomputable def S102 (k : Nat) : Does := ⟨[(false, [.dat (.int .i64)]), (false, [.dat (.int .i64)]), (false, [.dat (.int .i64)])], [(false, [.dat .bool])], fun x => spec_l01In.f x.1 x.2.1 x.2.2⟩
noncomputable def E102 (k : Nat) : En := ⟨tb, orcOf [], lvOf [], k, 0, lvOf [], []⟩
theorem e102 (k : Nat) (x : dens (flatC (S102 k).ps)) : funK (E102 k) (S102 k) Try.f102 x = (S102 k).fn x := by
  kernel_rfl
theorem M102 (k : Nat) : Meets Try.prog 102 (S102 k) := meets_of Try.func102 (by kernel_rfl) tbOk orc_nil mixOk (fun x y h => (e102 k x).trans h) rfl

/-! spec_l01Is: function 144 -/
noncomputable def spec_l01Is.s0 (k : Nat) (r0 : (List Int) → Int → Option (Bool)) (x1_0 : List Int) (x3 : Int) : Option (Bool) := if x3 < (x1_0.length : Int) then (if 0 ≤ x3 then (if x3 < (x1_0.length : Int) then ((spec_l01In.f (rd x1_0 x3) 1 40).bind fun t1 => if t1 = true then (r0 x1_0 (wrap64 (x3 + 1))) else (some false)) else (none)) else (none)) else ((spec_l01K.f x1_0).bind fun t2 => (spec_l01In.f t2 1 8).bind fun t3 => some t3)
noncomputable def spec_l01Is.l0 (k : Nat) : Nat → (List Int) → Int → Option (Bool)
  | 0, _, _ => none
  | n + 1, x0, x1 => spec_l01Is.s0 k (spec_l01Is.l0 k n) x0 x1
noncomputable def spec_l01Is.g (k : Nat) (r0 : (List Int) → Int → Option (Bool)) (l0_0 : List Int) : Option (Bool) := r0 l0_0 0
noncomputable def spec_l01Is.f (k : Nat) (l0_0 : List Int) : Option (Bool) := spec_l01Is.g k (spec_l01Is.l0 k k) l0_0
noncomputable def S144 (k : Nat) : Does := ⟨[(true, [.dat (.list (.int .i64))])], [(false, [.dat .bool])], fun x => spec_l01Is.f k x⟩
noncomputable def E144 (k : Nat) : En := ⟨tb, orcOf [(102, S102 k), (142, S142 k)], lvOf [(0, [(1, []), (3, [])])], k, 0, lvOf [], []⟩
noncomputable def n144_0 (x1_0 : List Int) (x3 : Int) : St := ⟨21, lookA [(1, .box 0 0), (3, .dat (.int .i64) x3)], Go.V.look [(0, .cells [.dat (.list (.int .i64)) x1_0])]⟩
def p144_0 : List Bool := [true, false, true, false]
theorem r144_0 (k : Nat) (rec : St → Option (Bool)) (v : (List Int) × Int) : roundF (E144 k) (S144 k) Try.f144 p144_0 [] rec (n144_0 v.1 v.2) = spec_l01Is.s0 k (fun a0 a1 => rec (n144_0 a0 a1)) v.1 v.2 := by
  kernel_rfl
theorem q144_0 (k : Nat) (n : Nat) : ∀ v : (List Int) × Int, loopF (E144 k) (S144 k) Try.f144 p144_0 [] n (n144_0 v.1 v.2) = spec_l01Is.l0 k n v.1 v.2 :=
  loopF_eq (E144 k) (S144 k) Try.f144 p144_0 [] (fun v : (List Int) × Int => n144_0 v.1 v.2) (fun rec v => spec_l01Is.s0 k (fun a0 a1 => rec (a0, a1)) v.1 v.2) (fun n v => spec_l01Is.l0 k n v.1 v.2) (fun _ => rfl) (fun _ _ => rfl) (fun rec v => r144_0 k rec v) n
theorem e144 (k : Nat) (x : dens (flatC (S144 k).ps)) : funK (E144 k) (S144 k) Try.f144 x = (S144 k).fn x := by
  have h : funK (E144 k) (S144 k) Try.f144 x = spec_l01Is.g k (fun a0 a1 => loopF (E144 k) (S144 k) Try.f144 p144_0 [] k (n144_0 a0 a1)) x := by kernel_rfl
  rw [h]
  rw [show (fun a0 a1 => loopF (E144 k) (S144 k) Try.f144 p144_0 [] k (n144_0 a0 a1)) = spec_l01Is.l0 k k from funext fun a0 => funext fun a1 => q144_0 k k (a0, a1)]
  rfl
theorem M144 (k : Nat) : Meets Try.prog 144 (S144 k) := meets_of Try.func144 (by kernel_rfl) tbOk (orc_cons (M102 k) (orc_cons (M142 k) orc_nil)) mixOk (fun x y h => (e144 k x).trans h) rfl

/-! spec_l02Count: function 113 -/
noncomputable def spec_l02Count.s0 (k : Nat) (r0 : (List Int) → Int → Int → Option (Int)) (x1_0 : List Int) (x3 : Int) (x4 : Int) : Option (Int) := if x4 < (x1_0.length : Int) then (if 0 ≤ x4 then (if x4 < (x1_0.length : Int) then (r0 x1_0 (wrap64 (x3 * (rd x1_0 x4))) (wrap64 (x4 + 1))) else (none)) else (none)) else (some x3)
noncomputable def spec_l02Count.l0 (k : Nat) : Nat → (List Int) → Int → Int → Option (Int)
  | 0, _, _, _ => none
  | n + 1, x0, x1, x2 => spec_l02Count.s0 k (spec_l02Count.l0 k n) x0 x1 x2
noncomputable def spec_l02Count.g (k : Nat) (r0 : (List Int) → Int → Int → Option (Int)) (l0_0 : List Int) : Option (Int) := r0 l0_0 1 0
noncomputable def spec_l02Count.f (k : Nat) (l0_0 : List Int) : Option (Int) := spec_l02Count.g k (spec_l02Count.l0 k k) l0_0
noncomputable def S113 (k : Nat) : Does := ⟨[(true, [.dat (.list (.int .i64))])], [(false, [.dat (.int .i64)])], fun x => spec_l02Count.f k x⟩
noncomputable def E113 (k : Nat) : En := ⟨tb, orcOf [], lvOf [(0, [(1, []), (3, []), (4, [])])], k, 0, lvOf [], []⟩
noncomputable def n113_0 (x1_0 : List Int) (x3 : Int) (x4 : Int) : St := ⟨20, lookA [(1, .box 0 0), (3, .dat (.int .i64) x3), (4, .dat (.int .i64) x4)], Go.V.look [(0, .cells [.dat (.list (.int .i64)) x1_0])]⟩
def p113_0 : List Bool := [true, true, false, true, false]
theorem r113_0 (k : Nat) (rec : St → Option (Int)) (v : (List Int) × Int × Int) : roundF (E113 k) (S113 k) Try.f113 p113_0 [] rec (n113_0 v.1 v.2.1 v.2.2) = spec_l02Count.s0 k (fun a0 a1 a2 => rec (n113_0 a0 a1 a2)) v.1 v.2.1 v.2.2 := by
  kernel_rfl
theorem q113_0 (k : Nat) (n : Nat) : ∀ v : (List Int) × Int × Int, loopF (E113 k) (S113 k) Try.f113 p113_0 [] n (n113_0 v.1 v.2.1 v.2.2) = spec_l02Count.l0 k n v.1 v.2.1 v.2.2 :=
  loopF_eq (E113 k) (S113 k) Try.f113 p113_0 [] (fun v : (List Int) × Int × Int => n113_0 v.1 v.2.1 v.2.2) (fun rec v => spec_l02Count.s0 k (fun a0 a1 a2 => rec (a0, a1, a2)) v.1 v.2.1 v.2.2) (fun n v => spec_l02Count.l0 k n v.1 v.2.1 v.2.2) (fun _ => rfl) (fun _ _ => rfl) (fun rec v => r113_0 k rec v) n
theorem e113 (k : Nat) (x : dens (flatC (S113 k).ps)) : funK (E113 k) (S113 k) Try.f113 x = (S113 k).fn x := by
  have h : funK (E113 k) (S113 k) Try.f113 x = spec_l02Count.g k (fun a0 a1 a2 => loopF (E113 k) (S113 k) Try.f113 p113_0 [] k (n113_0 a0 a1 a2)) x := by kernel_rfl
  rw [h]
  rw [show (fun a0 a1 a2 => loopF (E113 k) (S113 k) Try.f113 p113_0 [] k (n113_0 a0 a1 a2)) = spec_l02Count.l0 k k from funext fun a0 => funext fun a1 => funext fun a2 => q113_0 k k (a0, a1, a2)]
  rfl
theorem M113 (k : Nat) : Meets Try.prog 113 (S113 k) := meets_of Try.func113 (by kernel_rfl) tbOk orc_nil mixOk (fun x y h => (e113 k x).trans h) rfl

/-! spec_l02Few: function 146 -/
noncomputable def spec_l02Few.f (k : Nat) (l0_0 : List Int) : Option (Int) := (spec_l01Is.f k l0_0).bind fun t1 => if (!decide (t1 = true)) = true then (some 1) else ((spec_l02Count.f k l0_0).bind fun t2 => if (decide (4000 < t2)) = true then (some 3) else (some 0))
noncomputable def S146 (k : Nat) : Does := ⟨[(true, [.dat (.list (.int .i64))])], [(false, [.dat (.int .i64)])], fun x => spec_l02Few.f k x⟩
noncomputable def E146 (k : Nat) : En := ⟨tb, orcOf [(144, S144 k), (113, S113 k)], lvOf [], k, 0, lvOf [], []⟩
theorem e146 (k : Nat) (x : dens (flatC (S146 k).ps)) : funK (E146 k) (S146 k) Try.f146 x = (S146 k).fn x := by
  kernel_rfl
theorem M146 (k : Nat) : Meets Try.prog 146 (S146 k) := meets_of Try.func146 (by kernel_rfl) tbOk (orc_cons (M144 k) (orc_cons (M113 k) orc_nil)) mixOk (fun x y h => (e146 k x).trans h) rfl

/-! spec_l02Of: function 123 -/
noncomputable def spec_l02Of.s0 (k : Nat) (r0 : Int → (List Int) → (List Int) → Int → Option ((List Int))) (x1 : Int) (x2_0 : List Int) (x5 : List Int) (x6 : Int) : Option ((List Int)) := if 0 ≤ x6 then (if 0 ≤ x6 then (if x6 < (x2_0.length : Int) then (if (rd x2_0 x6) = 0 then (none) else (if 0 ≤ x6 then (if x6 < (x5.length : Int) then (if 0 ≤ x6 then (if x6 < (x2_0.length : Int) then (if (rd x2_0 x6) = 0 then (none) else (r0 (wrap64 (Int.tdiv x1 (rd x2_0 x6))) x2_0 (x5.set x6.toNat (wrap64 ((Int.tmod x1 (rd x2_0 x6)) + 1))) (wrap64 (x6 - 1)))) else (none)) else (none)) else (none)) else (none))) else (none)) else (none)) else (some x5)
noncomputable def spec_l02Of.l0 (k : Nat) : Nat → Int → (List Int) → (List Int) → Int → Option ((List Int))
  | 0, _, _, _, _ => none
  | n + 1, x0, x1, x2, x3 => spec_l02Of.s0 k (spec_l02Of.l0 k n) x0 x1 x2 x3
noncomputable def spec_l02Of.g (k : Nat) (r0 : Int → (List Int) → (List Int) → Int → Option ((List Int))) (l0_0 : List Int) (a1 : Int) : Option ((List Int)) := if 0 ≤ (l0_0.length : Int) then (if (l0_0.length : Int) ≤ (l0_0.length : Int) then (if (l0_0.length : Int).toNat ≤ 1099511627776 then (r0 a1 l0_0 (List.replicate (l0_0.length : Int).toNat (0 : Int)) (wrap64 (((List.replicate (l0_0.length : Int).toNat (0 : Int)).length : Int) - 1))) else (none)) else (none)) else (none)
noncomputable def spec_l02Of.f (k : Nat) (l0_0 : List Int) (a1 : Int) : Option ((List Int)) := spec_l02Of.g k (spec_l02Of.l0 k k) l0_0 a1
noncomputable def S123 (k : Nat) : Does := ⟨[(true, [.dat (.list (.int .i64))]), (false, [.dat (.int .i64)])], [(false, [.own 2 (.int .i64)])], fun x => spec_l02Of.f k x.1 x.2⟩
noncomputable def E123 (k : Nat) : En := ⟨tb, orcOf [], lvOf [(0, [(1, []), (2, []), (5, []), (6, [])])], k, 0, lvOf [], []⟩
noncomputable def n123_0 (x1 : Int) (x2_0 : List Int) (x5 : List Int) (x6 : Int) : St := ⟨37, lookA [(1, .dat (.int .i64) x1), (2, .box 0 0), (5, .own 1), (6, .dat (.int .i64) x6)], Go.V.look [(0, .cells [.dat (.list (.int .i64)) x2_0]), (1, .flat 2 (.int .i64) x5)]⟩
def p123_0 : List Bool := [true, true, false, true, false]
theorem r123_0 (k : Nat) (rec : St → Option ((List Int))) (v : Int × (List Int) × (List Int) × Int) : roundF (E123 k) (S123 k) Try.f123 p123_0 [] rec (n123_0 v.1 v.2.1 v.2.2.1 v.2.2.2) = spec_l02Of.s0 k (fun a0 a1 a2 a3 => rec (n123_0 a0 a1 a2 a3)) v.1 v.2.1 v.2.2.1 v.2.2.2 := by
  kernel_rfl
theorem q123_0 (k : Nat) (n : Nat) : ∀ v : Int × (List Int) × (List Int) × Int, loopF (E123 k) (S123 k) Try.f123 p123_0 [] n (n123_0 v.1 v.2.1 v.2.2.1 v.2.2.2) = spec_l02Of.l0 k n v.1 v.2.1 v.2.2.1 v.2.2.2 :=
  loopF_eq (E123 k) (S123 k) Try.f123 p123_0 [] (fun v : Int × (List Int) × (List Int) × Int => n123_0 v.1 v.2.1 v.2.2.1 v.2.2.2) (fun rec v => spec_l02Of.s0 k (fun a0 a1 a2 a3 => rec (a0, a1, a2, a3)) v.1 v.2.1 v.2.2.1 v.2.2.2) (fun n v => spec_l02Of.l0 k n v.1 v.2.1 v.2.2.1 v.2.2.2) (fun _ => rfl) (fun _ _ => rfl) (fun rec v => r123_0 k rec v) n
theorem e123 (k : Nat) (x : dens (flatC (S123 k).ps)) : funK (E123 k) (S123 k) Try.f123 x = (S123 k).fn x := by
  have h : funK (E123 k) (S123 k) Try.f123 x = spec_l02Of.g k (fun a0 a1 a2 a3 => loopF (E123 k) (S123 k) Try.f123 p123_0 [] k (n123_0 a0 a1 a2 a3)) x.1 x.2 := by kernel_rfl
  rw [h]
  rw [show (fun a0 a1 a2 a3 => loopF (E123 k) (S123 k) Try.f123 p123_0 [] k (n123_0 a0 a1 a2 a3)) = spec_l02Of.l0 k k from funext fun a0 => funext fun a1 => funext fun a2 => funext fun a3 => q123_0 k k (a0, a1, a2, a3)]
  rfl
theorem M123 (k : Nat) : Meets Try.prog 123 (S123 k) := meets_of Try.func123 (by kernel_rfl) tbOk orc_nil mixOk (fun x y h => (e123 k x).trans h) rfl

/-! spec_l02Step: function 143 -/
noncomputable def spec_l02Step.s0 (k : Nat) (r0 : (List Int) → Int → (List Int) → (List Int) → Int → Option ((List Int) × Bool)) (x1 : List Int) (x2 : Int) (x3_0 : List Int) (x8 : List Int) (x9 : Int) : Option ((List Int) × Bool) := if x9 < (x1.length : Int) then (if (decide (x9 = x2)) = true then (if 0 ≤ x9 then (if x9 < (x3_0.length : Int) then (if x8.length + 1 ≤ 1099511627776 then (r0 x1 x2 x3_0 (x8 ++ [(rd x3_0 x9)]) (wrap64 (x9 + 1))) else (none)) else (none)) else (none)) else (if 0 ≤ x9 then (if x9 < (x1.length : Int) then (if (decide ((rd x1 x9) = 1)) = true then (some ([], false)) else (if 0 ≤ x9 then (if x9 < (x1.length : Int) then (if x8.length + 1 ≤ 1099511627776 then (r0 x1 x2 x3_0 (x8 ++ [(wrap64 ((rd x1 x9) - 1))]) (wrap64 (x9 + 1))) else (none)) else (none)) else (none))) else (none)) else (none))) else (some (x8, true))
noncomputable def spec_l02Step.l0 (k : Nat) : Nat → (List Int) → Int → (List Int) → (List Int) → Int → Option ((List Int) × Bool)
  | 0, _, _, _, _, _ => none
  | n + 1, x0, x1, x2, x3, x4 => spec_l02Step.s0 k (spec_l02Step.l0 k n) x0 x1 x2 x3 x4
noncomputable def spec_l02Step.g (k : Nat) (r0 : (List Int) → Int → (List Int) → (List Int) → Int → Option ((List Int) × Bool)) (l0_0 : List Int) (l1 : List Int) (a2 : Int) : Option ((List Int) × Bool) := r0 l1 a2 l0_0 [] 0
noncomputable def spec_l02Step.f (k : Nat) (l0_0 : List Int) (l1 : List Int) (a2 : Int) : Option ((List Int) × Bool) := spec_l02Step.g k (spec_l02Step.l0 k k) l0_0 l1 a2
noncomputable def S143 (k : Nat) : Does := ⟨[(true, [.dat (.list (.int .i64))]), (false, [.dat (.list (.int .i64))]), (false, [.dat (.int .i64)])], [(false, [.own 2 (.int .i64)]), (false, [.dat .bool])], fun x => spec_l02Step.f k x.1 x.2.1 x.2.2⟩
noncomputable def E143 (k : Nat) : En := ⟨tb, orcOf [], lvOf [(0, [(1, []), (2, []), (3, []), (8, []), (9, [])])], k, 0, lvOf [], []⟩
noncomputable def n143_0 (x1 : List Int) (x2 : Int) (x3_0 : List Int) (x8 : List Int) (x9 : Int) : St := ⟨44, lookA [(1, .dat (.list (.int .i64)) x1), (2, .dat (.int .i64) x2), (3, .box 0 0), (8, .own 1), (9, .dat (.int .i64) x9)], Go.V.look [(0, .cells [.dat (.list (.int .i64)) x3_0]), (1, .flat 2 (.int .i64) x8)]⟩
def p143_0 : List Bool := [true, true, false, true, false]
theorem r143_0 (k : Nat) (rec : St → Option ((List Int) × Bool)) (v : (List Int) × Int × (List Int) × (List Int) × Int) : roundF (E143 k) (S143 k) Try.f143 p143_0 [] rec (n143_0 v.1 v.2.1 v.2.2.1 v.2.2.2.1 v.2.2.2.2) = spec_l02Step.s0 k (fun a0 a1 a2 a3 a4 => rec (n143_0 a0 a1 a2 a3 a4)) v.1 v.2.1 v.2.2.1 v.2.2.2.1 v.2.2.2.2 := by
  kernel_rfl
theorem q143_0 (k : Nat) (n : Nat) : ∀ v : (List Int) × Int × (List Int) × (List Int) × Int, loopF (E143 k) (S143 k) Try.f143 p143_0 [] n (n143_0 v.1 v.2.1 v.2.2.1 v.2.2.2.1 v.2.2.2.2) = spec_l02Step.l0 k n v.1 v.2.1 v.2.2.1 v.2.2.2.1 v.2.2.2.2 :=
  loopF_eq (E143 k) (S143 k) Try.f143 p143_0 [] (fun v : (List Int) × Int × (List Int) × (List Int) × Int => n143_0 v.1 v.2.1 v.2.2.1 v.2.2.2.1 v.2.2.2.2) (fun rec v => spec_l02Step.s0 k (fun a0 a1 a2 a3 a4 => rec (a0, a1, a2, a3, a4)) v.1 v.2.1 v.2.2.1 v.2.2.2.1 v.2.2.2.2) (fun n v => spec_l02Step.l0 k n v.1 v.2.1 v.2.2.1 v.2.2.2.1 v.2.2.2.2) (fun _ => rfl) (fun _ _ => rfl) (fun rec v => r143_0 k rec v) n
theorem e143 (k : Nat) (x : dens (flatC (S143 k).ps)) : funK (E143 k) (S143 k) Try.f143 x = (S143 k).fn x := by
  have h : funK (E143 k) (S143 k) Try.f143 x = spec_l02Step.g k (fun a0 a1 a2 a3 a4 => loopF (E143 k) (S143 k) Try.f143 p143_0 [] k (n143_0 a0 a1 a2 a3 a4)) x.1 x.2.1 x.2.2 := by kernel_rfl
  rw [h]
  rw [show (fun a0 a1 a2 a3 a4 => loopF (E143 k) (S143 k) Try.f143 p143_0 [] k (n143_0 a0 a1 a2 a3 a4)) = spec_l02Step.l0 k k from funext fun a0 => funext fun a1 => funext fun a2 => funext fun a3 => funext fun a4 => q143_0 k k (a0, a1, a2, a3, a4)]
  rfl
theorem M143 (k : Nat) : Meets Try.prog 143 (S143 k) := meets_of Try.func143 (by kernel_rfl) tbOk orc_nil mixOk (fun x y h => (e143 k x).trans h) rfl

/-! spec_l02Number: function 121 -/
noncomputable def spec_l02Number.s0 (k : Nat) (r0 : (List Int) → (List Int) → Int → Int → Option (Int)) (x1 : List Int) (x2_0 : List Int) (x5 : Int) (x6 : Int) : Option (Int) := if x6 < (x1.length : Int) then (if 0 ≤ x6 then (if x6 < (x2_0.length : Int) then (if 0 ≤ x6 then (if x6 < (x1.length : Int) then (r0 x1 x2_0 (wrap64 ((wrap64 ((wrap64 (x5 * (rd x2_0 x6))) + (rd x1 x6))) - 1)) (wrap64 (x6 + 1))) else (none)) else (none)) else (none)) else (none)) else (some x5)
noncomputable def spec_l02Number.l0 (k : Nat) : Nat → (List Int) → (List Int) → Int → Int → Option (Int)
  | 0, _, _, _, _ => none
  | n + 1, x0, x1, x2, x3 => spec_l02Number.s0 k (spec_l02Number.l0 k n) x0 x1 x2 x3
noncomputable def spec_l02Number.g (k : Nat) (r0 : (List Int) → (List Int) → Int → Int → Option (Int)) (l0_0 : List Int) (l1 : List Int) : Option (Int) := r0 l1 l0_0 0 0
noncomputable def spec_l02Number.f (k : Nat) (l0_0 : List Int) (l1 : List Int) : Option (Int) := spec_l02Number.g k (spec_l02Number.l0 k k) l0_0 l1
noncomputable def S121 (k : Nat) : Does := ⟨[(true, [.dat (.list (.int .i64))]), (false, [.dat (.list (.int .i64))])], [(false, [.dat (.int .i64)])], fun x => spec_l02Number.f k x.1 x.2⟩
noncomputable def E121 (k : Nat) : En := ⟨tb, orcOf [], lvOf [(0, [(1, []), (2, []), (5, []), (6, [])])], k, 0, lvOf [], []⟩
noncomputable def n121_0 (x1 : List Int) (x2_0 : List Int) (x5 : Int) (x6 : Int) : St := ⟨27, lookA [(1, .dat (.list (.int .i64)) x1), (2, .box 0 0), (5, .dat (.int .i64) x5), (6, .dat (.int .i64) x6)], Go.V.look [(0, .cells [.dat (.list (.int .i64)) x2_0])]⟩
def p121_0 : List Bool := [true, true, false, true, false]
theorem r121_0 (k : Nat) (rec : St → Option (Int)) (v : (List Int) × (List Int) × Int × Int) : roundF (E121 k) (S121 k) Try.f121 p121_0 [] rec (n121_0 v.1 v.2.1 v.2.2.1 v.2.2.2) = spec_l02Number.s0 k (fun a0 a1 a2 a3 => rec (n121_0 a0 a1 a2 a3)) v.1 v.2.1 v.2.2.1 v.2.2.2 := by
  kernel_rfl
theorem q121_0 (k : Nat) (n : Nat) : ∀ v : (List Int) × (List Int) × Int × Int, loopF (E121 k) (S121 k) Try.f121 p121_0 [] n (n121_0 v.1 v.2.1 v.2.2.1 v.2.2.2) = spec_l02Number.l0 k n v.1 v.2.1 v.2.2.1 v.2.2.2 :=
  loopF_eq (E121 k) (S121 k) Try.f121 p121_0 [] (fun v : (List Int) × (List Int) × Int × Int => n121_0 v.1 v.2.1 v.2.2.1 v.2.2.2) (fun rec v => spec_l02Number.s0 k (fun a0 a1 a2 a3 => rec (a0, a1, a2, a3)) v.1 v.2.1 v.2.2.1 v.2.2.2) (fun n v => spec_l02Number.l0 k n v.1 v.2.1 v.2.2.1 v.2.2.2) (fun _ => rfl) (fun _ _ => rfl) (fun rec v => r121_0 k rec v) n
theorem e121 (k : Nat) (x : dens (flatC (S121 k).ps)) : funK (E121 k) (S121 k) Try.f121 x = (S121 k).fn x := by
  have h : funK (E121 k) (S121 k) Try.f121 x = spec_l02Number.g k (fun a0 a1 a2 a3 => loopF (E121 k) (S121 k) Try.f121 p121_0 [] k (n121_0 a0 a1 a2 a3)) x.1 x.2 := by kernel_rfl
  rw [h]
  rw [show (fun a0 a1 a2 a3 => loopF (E121 k) (S121 k) Try.f121 p121_0 [] k (n121_0 a0 a1 a2 a3)) = spec_l02Number.l0 k k from funext fun a0 => funext fun a1 => funext fun a2 => funext fun a3 => q121_0 k k (a0, a1, a2, a3)]
  rfl
theorem M121 (k : Nat) : Meets Try.prog 121 (S121 k) := meets_of Try.func121 (by kernel_rfl) tbOk orc_nil mixOk (fun x y h => (e121 k x).trans h) rfl

/-! spec_l02Lasting: function 133 -/
noncomputable def spec_l02Lasting.s3 (k : Nat) (r2 : (List Int) → Int → (List Bool) → Bool → Int → Option ((List Bool))) (r3 : (List Int) → Int → (List Bool) → Bool → Int → (List Int) → Bool → Int → Option ((List Bool))) (x1_0 : List Int) (x3 : Int) (x4 : List Bool) (x6 : Bool) (x7 : Int) (x8 : List Int) (x9 : Bool) (x10 : Int) : Option ((List Bool)) := (spec_l01K.f x1_0).bind fun t3 => if x10 < t3 then (if x9 = true then (if x9 = true then (r2 x1_0 x3 x4 x6 (wrap64 (x7 + 1))) else (if 0 ≤ x7 then (if x7 < (x4.length : Int) then (r2 x1_0 x3 (x4.set x7.toNat false) true (wrap64 (x7 + 1))) else (none)) else (none))) else ((spec_l02Step.f k x1_0 x8 x10).bind fun t4 => if t4.2 = true then ((spec_l02Number.f k x1_0 t4.1).bind fun t5 => if 0 ≤ t5 then (if t5 < (x4.length : Int) then (r3 x1_0 x3 x4 x6 x7 x8 (rdOf false x4 t5) (wrap64 (x10 + 1))) else (none)) else (none)) else (r3 x1_0 x3 x4 x6 x7 x8 x9 (wrap64 (x10 + 1))))) else (if x9 = true then (r2 x1_0 x3 x4 x6 (wrap64 (x7 + 1))) else (if 0 ≤ x7 then (if x7 < (x4.length : Int) then (r2 x1_0 x3 (x4.set x7.toNat false) true (wrap64 (x7 + 1))) else (none)) else (none)))
noncomputable def spec_l02Lasting.l3 (k : Nat) (r1 : (List Int) → Int → (List Bool) → Bool → Option ((List Bool))) (r2 : (List Int) → Int → (List Bool) → Bool → Int → Option ((List Bool))) : Nat → (List Int) → Int → (List Bool) → Bool → Int → (List Int) → Bool → Int → Option ((List Bool))
  | 0, _, _, _, _, _, _, _, _ => none
  | n + 1, x0, x1, x2, x3, x4, x5, x6, x7 => spec_l02Lasting.s3 k r2 (spec_l02Lasting.l3 k r1 r2 n) x0 x1 x2 x3 x4 x5 x6 x7
noncomputable def spec_l02Lasting.s2 (k : Nat) (r1 : (List Int) → Int → (List Bool) → Bool → Option ((List Bool))) (r2 : (List Int) → Int → (List Bool) → Bool → Int → Option ((List Bool))) (r3 : (List Int) → Int → (List Bool) → Bool → Int → (List Int) → Bool → Int → Option ((List Bool))) (x1_0 : List Int) (x3 : Int) (x4 : List Bool) (x6 : Bool) (x7 : Int) : Option ((List Bool)) := if x7 < x3 then (if 0 ≤ x7 then (if x7 < (x4.length : Int) then (if (rdOf false x4 x7) = true then ((spec_l02Of.f k x1_0 x7).bind fun t2 => r3 x1_0 x3 x4 x6 x7 t2 false (-1)) else (r2 x1_0 x3 x4 x6 (wrap64 (x7 + 1)))) else (none)) else (none)) else (r1 x1_0 x3 x4 x6)
noncomputable def spec_l02Lasting.l2 (k : Nat) (r1 : (List Int) → Int → (List Bool) → Bool → Option ((List Bool))) : Nat → (List Int) → Int → (List Bool) → Bool → Int → Option ((List Bool))
  | 0, _, _, _, _, _ => none
  | n + 1, x0, x1, x2, x3, x4 => spec_l02Lasting.s2 k r1 (spec_l02Lasting.l2 k r1 n) (spec_l02Lasting.l3 k r1 (spec_l02Lasting.l2 k r1 n) k) x0 x1 x2 x3 x4
noncomputable def spec_l02Lasting.s1 (k : Nat) (r1 : (List Int) → Int → (List Bool) → Bool → Option ((List Bool))) (r2 : (List Int) → Int → (List Bool) → Bool → Int → Option ((List Bool))) (x1_0 : List Int) (x3 : Int) (x4 : List Bool) (x6 : Bool) : Option ((List Bool)) := if x6 = true then (r2 x1_0 x3 x4 false 0) else (some x4)
noncomputable def spec_l02Lasting.l1 (k : Nat) : Nat → (List Int) → Int → (List Bool) → Bool → Option ((List Bool))
  | 0, _, _, _, _ => none
  | n + 1, x0, x1, x2, x3 => spec_l02Lasting.s1 k (spec_l02Lasting.l1 k n) (spec_l02Lasting.l2 k (spec_l02Lasting.l1 k n) k) x0 x1 x2 x3
noncomputable def spec_l02Lasting.s0 (k : Nat) (r0 : (List Int) → Int → (List Bool) → Int → Int → Option ((List Bool))) (r1 : (List Int) → Int → (List Bool) → Bool → Option ((List Bool))) (x1_0 : List Int) (x3 : Int) (x4 : List Bool) (x18 : Int) (x19 : Int) : Option ((List Bool)) := if x19 < x18 then (if 0 ≤ x19 then (if x19 < (x4.length : Int) then (r0 x1_0 x3 (x4.set x19.toNat true) x18 (wrap64 (x19 + 1))) else (none)) else (none)) else (r1 x1_0 x3 x4 true)
noncomputable def spec_l02Lasting.l0 (k : Nat) : Nat → (List Int) → Int → (List Bool) → Int → Int → Option ((List Bool))
  | 0, _, _, _, _, _ => none
  | n + 1, x0, x1, x2, x3, x4 => spec_l02Lasting.s0 k (spec_l02Lasting.l0 k n) (spec_l02Lasting.l1 k k) x0 x1 x2 x3 x4
noncomputable def spec_l02Lasting.g (k : Nat) (r0 : (List Int) → Int → (List Bool) → Int → Int → Option ((List Bool))) (l0_0 : List Int) : Option ((List Bool)) := (spec_l02Count.f k l0_0).bind fun t1 => if 0 ≤ t1 then (if t1 ≤ t1 then (if t1.toNat ≤ 1099511627776 then (r0 l0_0 t1 (List.replicate t1.toNat (false : Bool)) ((List.replicate t1.toNat (false : Bool)).length : Int) 0) else (none)) else (none)) else (none)
noncomputable def spec_l02Lasting.f (k : Nat) (l0_0 : List Int) : Option ((List Bool)) := spec_l02Lasting.g k (spec_l02Lasting.l0 k k) l0_0
noncomputable def S133 (k : Nat) : Does := ⟨[(true, [.dat (.list (.int .i64))])], [(false, [.own 4 .bool])], fun x => spec_l02Lasting.f k x⟩
noncomputable def E133 (k : Nat) : En := ⟨tb, orcOf [(113, S113 k), (123, S123 k), (142, S142 k), (143, S143 k), (121, S121 k)], lvOf [(0, [(1, []), (3, []), (4, []), (18, []), (19, [])]), (2, [(1, []), (3, []), (4, []), (6, [])]), (4, [(1, []), (3, []), (4, []), (6, []), (7, [])]), (6, [(1, []), (3, []), (4, []), (6, []), (7, []), (8, []), (9, []), (10, [])])], k, 0, lvOf [], []⟩
noncomputable def n133_0 (x1_0 : List Int) (x3 : Int) (x4 : List Bool) (x18 : Int) (x19 : Int) : St := ⟨70, lookA [(1, .box 0 0), (3, .dat (.int .i64) x3), (4, .own 1), (18, .dat (.int .i64) x18), (19, .dat (.int .i64) x19)], Go.V.look [(0, .cells [.dat (.list (.int .i64)) x1_0]), (1, .flat 4 .bool x4)]⟩
def p133_0 : List Bool := [true, true, true, false, true, false]
noncomputable def n133_1 (x1_0 : List Int) (x3 : Int) (x4 : List Bool) (x6 : Bool) : St := ⟨70, lookA [(1, .box 0 0), (3, .dat (.int .i64) x3), (4, .own 1), (6, .dat .bool x6)], Go.V.look [(0, .cells [.dat (.list (.int .i64)) x1_0]), (1, .flat 4 .bool x4)]⟩
def p133_1 : List Bool := [true, true, true, true, false, true, false]
noncomputable def n133_2 (x1_0 : List Int) (x3 : Int) (x4 : List Bool) (x6 : Bool) (x7 : Int) : St := ⟨70, lookA [(1, .box 0 0), (3, .dat (.int .i64) x3), (4, .own 1), (6, .dat .bool x6), (7, .dat (.int .i64) x7)], Go.V.look [(0, .cells [.dat (.list (.int .i64)) x1_0]), (1, .flat 4 .bool x4)]⟩
def p133_2 : List Bool := [true, true, true, true, false, true, false, false, true, false, true, true, false]
noncomputable def n133_3 (x1_0 : List Int) (x3 : Int) (x4 : List Bool) (x6 : Bool) (x7 : Int) (x8 : List Int) (x9 : Bool) (x10 : Int) : St := ⟨70, lookA [(1, .box 0 0), (3, .dat (.int .i64) x3), (4, .own 1), (6, .dat .bool x6), (7, .dat (.int .i64) x7), (8, .own 2), (9, .dat .bool x9), (10, .dat (.int .i64) x10)], Go.V.look [(0, .cells [.dat (.list (.int .i64)) x1_0]), (1, .flat 4 .bool x4), (2, .flat 2 (.int .i64) x8)]⟩
def p133_3 : List Bool := [true, true, true, true, false, true, false, false, true, false, true, true, false, false, true, false, false, true, true, false, true, false]
theorem r133_3 (k : Nat) (R1 : St → Option ((List Bool))) (R2 : St → Option ((List Bool))) (rec : St → Option ((List Bool))) (v : (List Int) × Int × (List Bool) × Bool × Int × (List Int) × Bool × Int) : roundF (E133 k) (S133 k) Try.f133 p133_3 [R1, R2] rec (n133_3 v.1 v.2.1 v.2.2.1 v.2.2.2.1 v.2.2.2.2.1 v.2.2.2.2.2.1 v.2.2.2.2.2.2.1 v.2.2.2.2.2.2.2) = spec_l02Lasting.s3 k (fun a0 a1 a2 a3 a4 => R2 (n133_2 a0 a1 a2 a3 a4)) (fun a0 a1 a2 a3 a4 a5 a6 a7 => rec (n133_3 a0 a1 a2 a3 a4 a5 a6 a7)) v.1 v.2.1 v.2.2.1 v.2.2.2.1 v.2.2.2.2.1 v.2.2.2.2.2.1 v.2.2.2.2.2.2.1 v.2.2.2.2.2.2.2 := by
  kernel_rfl
theorem q133_3 (k : Nat) (R1 : St → Option ((List Bool))) (R2 : St → Option ((List Bool))) (n : Nat) : ∀ v : (List Int) × Int × (List Bool) × Bool × Int × (List Int) × Bool × Int, loopF (E133 k) (S133 k) Try.f133 p133_3 [R1, R2] n (n133_3 v.1 v.2.1 v.2.2.1 v.2.2.2.1 v.2.2.2.2.1 v.2.2.2.2.2.1 v.2.2.2.2.2.2.1 v.2.2.2.2.2.2.2) = spec_l02Lasting.l3 k (fun a0 a1 a2 a3 => R1 (n133_1 a0 a1 a2 a3)) (fun a0 a1 a2 a3 a4 => R2 (n133_2 a0 a1 a2 a3 a4)) n v.1 v.2.1 v.2.2.1 v.2.2.2.1 v.2.2.2.2.1 v.2.2.2.2.2.1 v.2.2.2.2.2.2.1 v.2.2.2.2.2.2.2 :=
  loopF_eq (E133 k) (S133 k) Try.f133 p133_3 [R1, R2] (fun v : (List Int) × Int × (List Bool) × Bool × Int × (List Int) × Bool × Int => n133_3 v.1 v.2.1 v.2.2.1 v.2.2.2.1 v.2.2.2.2.1 v.2.2.2.2.2.1 v.2.2.2.2.2.2.1 v.2.2.2.2.2.2.2) (fun rec v => spec_l02Lasting.s3 k (fun a0 a1 a2 a3 a4 => R2 (n133_2 a0 a1 a2 a3 a4)) (fun a0 a1 a2 a3 a4 a5 a6 a7 => rec (a0, a1, a2, a3, a4, a5, a6, a7)) v.1 v.2.1 v.2.2.1 v.2.2.2.1 v.2.2.2.2.1 v.2.2.2.2.2.1 v.2.2.2.2.2.2.1 v.2.2.2.2.2.2.2) (fun n v => spec_l02Lasting.l3 k (fun a0 a1 a2 a3 => R1 (n133_1 a0 a1 a2 a3)) (fun a0 a1 a2 a3 a4 => R2 (n133_2 a0 a1 a2 a3 a4)) n v.1 v.2.1 v.2.2.1 v.2.2.2.1 v.2.2.2.2.1 v.2.2.2.2.2.1 v.2.2.2.2.2.2.1 v.2.2.2.2.2.2.2) (fun _ => rfl) (fun _ _ => rfl) (fun rec v => r133_3 k R1 R2 rec v) n
theorem r133_2 (k : Nat) (R1 : St → Option ((List Bool))) (rec : St → Option ((List Bool))) (G3 : (List Int) → Int → (List Bool) → Bool → Int → (List Int) → Bool → Int → Option ((List Bool))) (h3 : ∀ a0 a1 a2 a3 a4 a5 a6 a7, loopF (E133 k) (S133 k) Try.f133 p133_3 [R1, rec] k (n133_3 a0 a1 a2 a3 a4 a5 a6 a7) = G3 a0 a1 a2 a3 a4 a5 a6 a7) (v : (List Int) × Int × (List Bool) × Bool × Int) : roundF (E133 k) (S133 k) Try.f133 p133_2 [R1] rec (n133_2 v.1 v.2.1 v.2.2.1 v.2.2.2.1 v.2.2.2.2) = spec_l02Lasting.s2 k (fun a0 a1 a2 a3 => R1 (n133_1 a0 a1 a2 a3)) (fun a0 a1 a2 a3 a4 => rec (n133_2 a0 a1 a2 a3 a4)) G3 v.1 v.2.1 v.2.2.1 v.2.2.2.1 v.2.2.2.2 := by
  obtain rfl : (fun a0 a1 a2 a3 a4 a5 a6 a7 => loopF (E133 k) (S133 k) Try.f133 p133_3 [R1, rec] k (n133_3 a0 a1 a2 a3 a4 a5 a6 a7)) = G3 := funext fun a0 => funext fun a1 => funext fun a2 => funext fun a3 => funext fun a4 => funext fun a5 => funext fun a6 => funext fun a7 => h3 a0 a1 a2 a3 a4 a5 a6 a7
  kernel_rfl
theorem q133_2 (k : Nat) (R1 : St → Option ((List Bool))) (n : Nat) : ∀ v : (List Int) × Int × (List Bool) × Bool × Int, loopF (E133 k) (S133 k) Try.f133 p133_2 [R1] n (n133_2 v.1 v.2.1 v.2.2.1 v.2.2.2.1 v.2.2.2.2) = spec_l02Lasting.l2 k (fun a0 a1 a2 a3 => R1 (n133_1 a0 a1 a2 a3)) n v.1 v.2.1 v.2.2.1 v.2.2.2.1 v.2.2.2.2 :=
  loopF_eq (E133 k) (S133 k) Try.f133 p133_2 [R1] (fun v : (List Int) × Int × (List Bool) × Bool × Int => n133_2 v.1 v.2.1 v.2.2.1 v.2.2.2.1 v.2.2.2.2) (fun rec v => spec_l02Lasting.s2 k (fun a0 a1 a2 a3 => R1 (n133_1 a0 a1 a2 a3)) (fun a0 a1 a2 a3 a4 => rec (a0, a1, a2, a3, a4)) (spec_l02Lasting.l3 k (fun a0 a1 a2 a3 => R1 (n133_1 a0 a1 a2 a3)) (fun a0 a1 a2 a3 a4 => rec (a0, a1, a2, a3, a4)) k) v.1 v.2.1 v.2.2.1 v.2.2.2.1 v.2.2.2.2) (fun n v => spec_l02Lasting.l2 k (fun a0 a1 a2 a3 => R1 (n133_1 a0 a1 a2 a3)) n v.1 v.2.1 v.2.2.1 v.2.2.2.1 v.2.2.2.2) (fun _ => rfl) (fun _ _ => rfl) (fun rec v => r133_2 k R1 rec _ (fun a0 a1 a2 a3 a4 a5 a6 a7 => q133_3 k R1 rec k (a0, a1, a2, a3, a4, a5, a6, a7)) v) n
theorem r133_1 (k : Nat) (rec : St → Option ((List Bool))) (G2 : (List Int) → Int → (List Bool) → Bool → Int → Option ((List Bool))) (h2 : ∀ a0 a1 a2 a3 a4, loopF (E133 k) (S133 k) Try.f133 p133_2 [rec] k (n133_2 a0 a1 a2 a3 a4) = G2 a0 a1 a2 a3 a4) (v : (List Int) × Int × (List Bool) × Bool) : roundF (E133 k) (S133 k) Try.f133 p133_1 [] rec (n133_1 v.1 v.2.1 v.2.2.1 v.2.2.2) = spec_l02Lasting.s1 k (fun a0 a1 a2 a3 => rec (n133_1 a0 a1 a2 a3)) G2 v.1 v.2.1 v.2.2.1 v.2.2.2 := by
  obtain rfl : (fun a0 a1 a2 a3 a4 => loopF (E133 k) (S133 k) Try.f133 p133_2 [rec] k (n133_2 a0 a1 a2 a3 a4)) = G2 := funext fun a0 => funext fun a1 => funext fun a2 => funext fun a3 => funext fun a4 => h2 a0 a1 a2 a3 a4
  kernel_rfl
theorem q133_1 (k : Nat) (n : Nat) : ∀ v : (List Int) × Int × (List Bool) × Bool, loopF (E133 k) (S133 k) Try.f133 p133_1 [] n (n133_1 v.1 v.2.1 v.2.2.1 v.2.2.2) = spec_l02Lasting.l1 k n v.1 v.2.1 v.2.2.1 v.2.2.2 :=
  loopF_eq (E133 k) (S133 k) Try.f133 p133_1 [] (fun v : (List Int) × Int × (List Bool) × Bool => n133_1 v.1 v.2.1 v.2.2.1 v.2.2.2) (fun rec v => spec_l02Lasting.s1 k (fun a0 a1 a2 a3 => rec (a0, a1, a2, a3)) (spec_l02Lasting.l2 k (fun a0 a1 a2 a3 => rec (a0, a1, a2, a3)) k) v.1 v.2.1 v.2.2.1 v.2.2.2) (fun n v => spec_l02Lasting.l1 k n v.1 v.2.1 v.2.2.1 v.2.2.2) (fun _ => rfl) (fun _ _ => rfl) (fun rec v => r133_1 k rec _ (fun a0 a1 a2 a3 a4 => q133_2 k rec k (a0, a1, a2, a3, a4)) v) n
theorem r133_0 (k : Nat) (rec : St → Option ((List Bool))) (G1 : (List Int) → Int → (List Bool) → Bool → Option ((List Bool))) (h1 : ∀ a0 a1 a2 a3, loopF (E133 k) (S133 k) Try.f133 p133_1 [] k (n133_1 a0 a1 a2 a3) = G1 a0 a1 a2 a3) (v : (List Int) × Int × (List Bool) × Int × Int) : roundF (E133 k) (S133 k) Try.f133 p133_0 [] rec (n133_0 v.1 v.2.1 v.2.2.1 v.2.2.2.1 v.2.2.2.2) = spec_l02Lasting.s0 k (fun a0 a1 a2 a3 a4 => rec (n133_0 a0 a1 a2 a3 a4)) G1 v.1 v.2.1 v.2.2.1 v.2.2.2.1 v.2.2.2.2 := by
  obtain rfl : (fun a0 a1 a2 a3 => loopF (E133 k) (S133 k) Try.f133 p133_1 [] k (n133_1 a0 a1 a2 a3)) = G1 := funext fun a0 => funext fun a1 => funext fun a2 => funext fun a3 => h1 a0 a1 a2 a3
  kernel_rfl
theorem q133_0 (k : Nat) (n : Nat) : ∀ v : (List Int) × Int × (List Bool) × Int × Int, loopF (E133 k) (S133 k) Try.f133 p133_0 [] n (n133_0 v.1 v.2.1 v.2.2.1 v.2.2.2.1 v.2.2.2.2) = spec_l02Lasting.l0 k n v.1 v.2.1 v.2.2.1 v.2.2.2.1 v.2.2.2.2 :=
  loopF_eq (E133 k) (S133 k) Try.f133 p133_0 [] (fun v : (List Int) × Int × (List Bool) × Int × Int => n133_0 v.1 v.2.1 v.2.2.1 v.2.2.2.1 v.2.2.2.2) (fun rec v => spec_l02Lasting.s0 k (fun a0 a1 a2 a3 a4 => rec (a0, a1, a2, a3, a4)) (spec_l02Lasting.l1 k k) v.1 v.2.1 v.2.2.1 v.2.2.2.1 v.2.2.2.2) (fun n v => spec_l02Lasting.l0 k n v.1 v.2.1 v.2.2.1 v.2.2.2.1 v.2.2.2.2) (fun _ => rfl) (fun _ _ => rfl) (fun rec v => r133_0 k rec _ (fun a0 a1 a2 a3 => q133_1 k k (a0, a1, a2, a3)) v) n
theorem e133 (k : Nat) (x : dens (flatC (S133 k).ps)) : funK (E133 k) (S133 k) Try.f133 x = (S133 k).fn x := by
  have h : funK (E133 k) (S133 k) Try.f133 x = spec_l02Lasting.g k (fun a0 a1 a2 a3 a4 => loopF (E133 k) (S133 k) Try.f133 p133_0 [] k (n133_0 a0 a1 a2 a3 a4)) x := by kernel_rfl
  rw [h]
  rw [show (fun a0 a1 a2 a3 a4 => loopF (E133 k) (S133 k) Try.f133 p133_0 [] k (n133_0 a0 a1 a2 a3 a4)) = spec_l02Lasting.l0 k k from funext fun a0 => funext fun a1 => funext fun a2 => funext fun a3 => funext fun a4 => q133_0 k k (a0, a1, a2, a3, a4)]
  rfl
theorem M133 (k : Nat) : Meets Try.prog 133 (S133 k) := meets_of Try.func133 (by kernel_rfl) tbOk (orc_cons (M113 k) (orc_cons (M123 k) (orc_cons (M142 k) (orc_cons (M143 k) (orc_cons (M121 k) orc_nil))))) mixOk (fun x y h => (e133 k x).trans h) rfl

/-! spec_l02Keeping: function 134 -/
noncomputable def spec_l02Keeping.s0 (k : Nat) (r0 : (List Bool) → (List Int) → (List Int) → (List Int) → Int → Option ((List Int))) (x1 : List Bool) (x2 : List Int) (x3_0 : List Int) (x7 : List Int) (x8 : Int) : Option ((List Int)) := (spec_l01K.f x3_0).bind fun t1 => if x8 < t1 then ((spec_l02Step.f k x3_0 x2 x8).bind fun t2 => if t2.2 = true then ((spec_l02Number.f k x3_0 t2.1).bind fun t3 => if 0 ≤ t3 then (if t3 < (x1.length : Int) then (if (rdOf false x1 t3) = true then (if x7.length + 1 ≤ 1099511627776 then (r0 x1 x2 x3_0 (x7 ++ [x8]) (wrap64 (x8 + 1))) else (none)) else (r0 x1 x2 x3_0 x7 (wrap64 (x8 + 1)))) else (none)) else (none)) else (r0 x1 x2 x3_0 x7 (wrap64 (x8 + 1)))) else (some x7)
noncomputable def spec_l02Keeping.l0 (k : Nat) : Nat → (List Bool) → (List Int) → (List Int) → (List Int) → Int → Option ((List Int))
  | 0, _, _, _, _, _ => none
  | n + 1, x0, x1, x2, x3, x4 => spec_l02Keeping.s0 k (spec_l02Keeping.l0 k n) x0 x1 x2 x3 x4
noncomputable def spec_l02Keeping.g (k : Nat) (r0 : (List Bool) → (List Int) → (List Int) → (List Int) → Int → Option ((List Int))) (l0_0 : List Int) (l1 : List Bool) (l2 : List Int) : Option ((List Int)) := r0 l1 l2 l0_0 [] (-1)
noncomputable def spec_l02Keeping.f (k : Nat) (l0_0 : List Int) (l1 : List Bool) (l2 : List Int) : Option ((List Int)) := spec_l02Keeping.g k (spec_l02Keeping.l0 k k) l0_0 l1 l2
noncomputable def S134 (k : Nat) : Does := ⟨[(true, [.dat (.list (.int .i64))]), (false, [.dat (.list .bool)]), (false, [.dat (.list (.int .i64))])], [(false, [.own 2 (.int .i64)])], fun x => spec_l02Keeping.f k x.1 x.2.1 x.2.2⟩
noncomputable def E134 (k : Nat) : En := ⟨tb, orcOf [(142, S142 k), (143, S143 k), (121, S121 k)], lvOf [(0, [(1, []), (2, []), (3, []), (7, []), (8, [])])], k, 0, lvOf [], []⟩
noncomputable def n134_0 (x1 : List Bool) (x2 : List Int) (x3_0 : List Int) (x7 : List Int) (x8 : Int) : St := ⟨39, lookA [(1, .dat (.list .bool) x1), (2, .dat (.list (.int .i64)) x2), (3, .box 0 0), (7, .own 1), (8, .dat (.int .i64) x8)], Go.V.look [(0, .cells [.dat (.list (.int .i64)) x3_0]), (1, .flat 2 (.int .i64) x7)]⟩
def p134_0 : List Bool := [true, true, false, true, false]
theorem r134_0 (k : Nat) (rec : St → Option ((List Int))) (v : (List Bool) × (List Int) × (List Int) × (List Int) × Int) : roundF (E134 k) (S134 k) Try.f134 p134_0 [] rec (n134_0 v.1 v.2.1 v.2.2.1 v.2.2.2.1 v.2.2.2.2) = spec_l02Keeping.s0 k (fun a0 a1 a2 a3 a4 => rec (n134_0 a0 a1 a2 a3 a4)) v.1 v.2.1 v.2.2.1 v.2.2.2.1 v.2.2.2.2 := by
  kernel_rfl
theorem q134_0 (k : Nat) (n : Nat) : ∀ v : (List Bool) × (List Int) × (List Int) × (List Int) × Int, loopF (E134 k) (S134 k) Try.f134 p134_0 [] n (n134_0 v.1 v.2.1 v.2.2.1 v.2.2.2.1 v.2.2.2.2) = spec_l02Keeping.l0 k n v.1 v.2.1 v.2.2.1 v.2.2.2.1 v.2.2.2.2 :=
  loopF_eq (E134 k) (S134 k) Try.f134 p134_0 [] (fun v : (List Bool) × (List Int) × (List Int) × (List Int) × Int => n134_0 v.1 v.2.1 v.2.2.1 v.2.2.2.1 v.2.2.2.2) (fun rec v => spec_l02Keeping.s0 k (fun a0 a1 a2 a3 a4 => rec (a0, a1, a2, a3, a4)) v.1 v.2.1 v.2.2.1 v.2.2.2.1 v.2.2.2.2) (fun n v => spec_l02Keeping.l0 k n v.1 v.2.1 v.2.2.1 v.2.2.2.1 v.2.2.2.2) (fun _ => rfl) (fun _ _ => rfl) (fun rec v => r134_0 k rec v) n
theorem e134 (k : Nat) (x : dens (flatC (S134 k).ps)) : funK (E134 k) (S134 k) Try.f134 x = (S134 k).fn x := by
  have h : funK (E134 k) (S134 k) Try.f134 x = spec_l02Keeping.g k (fun a0 a1 a2 a3 a4 => loopF (E134 k) (S134 k) Try.f134 p134_0 [] k (n134_0 a0 a1 a2 a3 a4)) x.1 x.2.1 x.2.2 := by kernel_rfl
  rw [h]
  rw [show (fun a0 a1 a2 a3 a4 => loopF (E134 k) (S134 k) Try.f134 p134_0 [] k (n134_0 a0 a1 a2 a3 a4)) = spec_l02Keeping.l0 k k from funext fun a0 => funext fun a1 => funext fun a2 => funext fun a3 => funext fun a4 => q134_0 k k (a0, a1, a2, a3, a4)]
  rfl
theorem M134 (k : Nat) : Meets Try.prog 134 (S134 k) := meets_of Try.func134 (by kernel_rfl) tbOk (orc_cons (M142 k) (orc_cons (M143 k) (orc_cons (M121 k) orc_nil))) mixOk (fun x y h => (e134 k x).trans h) rfl

/-! spec_LeastPlay: function 49 -/
noncomputable def spec_LeastPlay.s1 (k : Nat) (r1 : (List Int) → (List Bool) → (List Int) → (List Int) → (List Int) → Option ((List Int) × (List Int) × Int)) (x1_0 : List Int) (x6 : List Bool) (x7 : List Int) (x8 : List Int) (x9 : List Int) : Option ((List Int) × (List Int) × Int) := (spec_l02Number.f k x1_0 x8).bind fun t4 => if 0 ≤ t4 then (if t4 < (x7.length : Int) then (if 0 ≤ (rd x7 t4) then (if 0 ≤ (rd x7 t4) then (if (rd x7 t4) ≤ (x9.length : Int) then ((spec_l01Own.f (x9.take (rd x7 t4).toNat)).bind fun t5 => if 0 ≤ (rd x7 t4) then (if (rd x7 t4) ≤ (x9.length : Int) then (if (x9.length : Int) ≤ (x9.length : Int) then ((spec_l01Own.f ((x9.take (x9.length : Int).toNat).drop (rd x7 t4).toNat)).bind fun t6 => some (t5, t6, 0)) else (none)) else (none)) else (none)) else (none)) else (none)) else (if 0 ≤ t4 then (if t4 < (x7.length : Int) then ((spec_l02Keeping.f k x1_0 x6 x8).bind fun t7 => if 0 < (t7.length : Int) then (if x9.length + 1 ≤ 1099511627776 then ((spec_l02Step.f k x1_0 x8 (rd t7 0)).bind fun t8 => r1 x1_0 x6 (x7.set t4.toNat (x9.length : Int)) t8.1 (x9 ++ [(rd t7 0)])) else (none)) else (none)) else (none)) else (none))) else (none)) else (none)
noncomputable def spec_LeastPlay.l1 (k : Nat) : Nat → (List Int) → (List Bool) → (List Int) → (List Int) → (List Int) → Option ((List Int) × (List Int) × Int)
  | 0, _, _, _, _, _ => none
  | n + 1, x0, x1, x2, x3, x4 => spec_LeastPlay.s1 k (spec_LeastPlay.l1 k n) x0 x1 x2 x3 x4
noncomputable def spec_LeastPlay.s0 (k : Nat) (r0 : (List Int) → (List Bool) → (List Int) → (List Int) → (List Int) → Int → Int → Option ((List Int) × (List Int) × Int)) (r1 : (List Int) → (List Bool) → (List Int) → (List Int) → (List Int) → Option ((List Int) × (List Int) × Int)) (x1_0 : List Int) (x6 : List Bool) (x7 : List Int) (x8 : List Int) (x9 : List Int) (x36 : Int) (x37 : Int) : Option ((List Int) × (List Int) × Int) := if x37 < x36 then (if 0 ≤ x37 then (if x37 < (x7.length : Int) then (r0 x1_0 x6 (x7.set x37.toNat (-1)) x8 x9 x36 (wrap64 (x37 + 1))) else (none)) else (none)) else (r1 x1_0 x6 x7 x8 x9)
noncomputable def spec_LeastPlay.l0 (k : Nat) : Nat → (List Int) → (List Bool) → (List Int) → (List Int) → (List Int) → Int → Int → Option ((List Int) × (List Int) × Int)
  | 0, _, _, _, _, _, _, _ => none
  | n + 1, x0, x1, x2, x3, x4, x5, x6 => spec_LeastPlay.s0 k (spec_LeastPlay.l0 k n) (spec_LeastPlay.l1 k k) x0 x1 x2 x3 x4 x5 x6
noncomputable def spec_LeastPlay.g (k : Nat) (r0 : (List Int) → (List Bool) → (List Int) → (List Int) → (List Int) → Int → Int → Option ((List Int) × (List Int) × Int)) (l0_0 : List Int) : Option ((List Int) × (List Int) × Int) := (spec_l02Few.f k l0_0).bind fun t1 => if t1 = 0 then ((spec_l02Lasting.f k l0_0).bind fun t2 => if 0 ≤ (wrap64 ((t2.length : Int) - 1)) then (if (wrap64 ((t2.length : Int) - 1)) < (t2.length : Int) then (if (rdOf false t2 (wrap64 ((t2.length : Int) - 1))) = true then (if 0 ≤ (t2.length : Int) then (if (t2.length : Int) ≤ (t2.length : Int) then (if (t2.length : Int).toNat ≤ 1099511627776 then ((spec_l01Own.f l0_0).bind fun t3 => r0 l0_0 t2 (List.replicate (t2.length : Int).toNat (0 : Int)) t3 [] ((List.replicate (t2.length : Int).toNat (0 : Int)).length : Int) 0) else (none)) else (none)) else (none)) else (some ([], [], 4))) else (none)) else (none)) else (some ([], [], t1))
noncomputable def spec_LeastPlay.f (k : Nat) (l0_0 : List Int) : Option ((List Int) × (List Int) × Int) := spec_LeastPlay.g k (spec_LeastPlay.l0 k k) l0_0
noncomputable def S49 (k : Nat) : Does := ⟨[(true, [.dat (.list (.int .i64))])], [(false, [.own 2 (.int .i64)]), (false, [.own 2 (.int .i64)]), (false, [.dat (.int .i64)])], fun x => spec_LeastPlay.f k x⟩
noncomputable def E49 (k : Nat) : En := ⟨tb, orcOf [(146, S146 k), (133, S133 k), (120, S120 k), (121, S121 k), (134, S134 k), (143, S143 k)], lvOf [(0, [(1, []), (6, []), (7, []), (8, []), (9, []), (36, []), (37, [])]), (2, [(1, []), (6, []), (7, []), (8, []), (9, [])])], k, 0, lvOf [(16, [(9, [.data (.int .i64)])])], []⟩
noncomputable def n49_0 (x1_0 : List Int) (x6 : List Bool) (x7 : List Int) (x8 : List Int) (x9 : List Int) (x36 : Int) (x37 : Int) : St := ⟨83, lookA [(1, .box 0 0), (6, .own 1), (7, .own 2), (8, .own 3), (9, .own 4), (36, .dat (.int .i64) x36), (37, .dat (.int .i64) x37)], Go.V.look [(0, .cells [.dat (.list (.int .i64)) x1_0]), (1, .flat 4 .bool x6), (2, .flat 2 (.int .i64) x7), (3, .flat 2 (.int .i64) x8), (4, .flat 2 (.int .i64) x9)]⟩
def p49_0 : List Bool := [true, true, true, true, true, false, true, false]
noncomputable def n49_1 (x1_0 : List Int) (x6 : List Bool) (x7 : List Int) (x8 : List Int) (x9 : List Int) : St := ⟨83, lookA [(1, .box 0 0), (6, .own 1), (7, .own 2), (8, .own 3), (9, .own 4)], Go.V.look [(0, .cells [.dat (.list (.int .i64)) x1_0]), (1, .flat 4 .bool x6), (2, .flat 2 (.int .i64) x7), (3, .flat 2 (.int .i64) x8), (4, .flat 2 (.int .i64) x9)]⟩
def p49_1 : List Bool := [true, true, true, true, true, true, false]
theorem r49_1 (k : Nat) (rec : St → Option ((List Int) × (List Int) × Int)) (v : (List Int) × (List Bool) × (List Int) × (List Int) × (List Int)) : roundF (E49 k) (S49 k) Try.f49 p49_1 [] rec (n49_1 v.1 v.2.1 v.2.2.1 v.2.2.2.1 v.2.2.2.2) = spec_LeastPlay.s1 k (fun a0 a1 a2 a3 a4 => rec (n49_1 a0 a1 a2 a3 a4)) v.1 v.2.1 v.2.2.1 v.2.2.2.1 v.2.2.2.2 := by
  kernel_rfl
theorem q49_1 (k : Nat) (n : Nat) : ∀ v : (List Int) × (List Bool) × (List Int) × (List Int) × (List Int), loopF (E49 k) (S49 k) Try.f49 p49_1 [] n (n49_1 v.1 v.2.1 v.2.2.1 v.2.2.2.1 v.2.2.2.2) = spec_LeastPlay.l1 k n v.1 v.2.1 v.2.2.1 v.2.2.2.1 v.2.2.2.2 :=
  loopF_eq (E49 k) (S49 k) Try.f49 p49_1 [] (fun v : (List Int) × (List Bool) × (List Int) × (List Int) × (List Int) => n49_1 v.1 v.2.1 v.2.2.1 v.2.2.2.1 v.2.2.2.2) (fun rec v => spec_LeastPlay.s1 k (fun a0 a1 a2 a3 a4 => rec (a0, a1, a2, a3, a4)) v.1 v.2.1 v.2.2.1 v.2.2.2.1 v.2.2.2.2) (fun n v => spec_LeastPlay.l1 k n v.1 v.2.1 v.2.2.1 v.2.2.2.1 v.2.2.2.2) (fun _ => rfl) (fun _ _ => rfl) (fun rec v => r49_1 k rec v) n
theorem r49_0 (k : Nat) (rec : St → Option ((List Int) × (List Int) × Int)) (G1 : (List Int) → (List Bool) → (List Int) → (List Int) → (List Int) → Option ((List Int) × (List Int) × Int)) (h1 : ∀ a0 a1 a2 a3 a4, loopF (E49 k) (S49 k) Try.f49 p49_1 [] k (n49_1 a0 a1 a2 a3 a4) = G1 a0 a1 a2 a3 a4) (v : (List Int) × (List Bool) × (List Int) × (List Int) × (List Int) × Int × Int) : roundF (E49 k) (S49 k) Try.f49 p49_0 [] rec (n49_0 v.1 v.2.1 v.2.2.1 v.2.2.2.1 v.2.2.2.2.1 v.2.2.2.2.2.1 v.2.2.2.2.2.2) = spec_LeastPlay.s0 k (fun a0 a1 a2 a3 a4 a5 a6 => rec (n49_0 a0 a1 a2 a3 a4 a5 a6)) G1 v.1 v.2.1 v.2.2.1 v.2.2.2.1 v.2.2.2.2.1 v.2.2.2.2.2.1 v.2.2.2.2.2.2 := by
  obtain rfl : (fun a0 a1 a2 a3 a4 => loopF (E49 k) (S49 k) Try.f49 p49_1 [] k (n49_1 a0 a1 a2 a3 a4)) = G1 := funext fun a0 => funext fun a1 => funext fun a2 => funext fun a3 => funext fun a4 => h1 a0 a1 a2 a3 a4
  kernel_rfl
theorem q49_0 (k : Nat) (n : Nat) : ∀ v : (List Int) × (List Bool) × (List Int) × (List Int) × (List Int) × Int × Int, loopF (E49 k) (S49 k) Try.f49 p49_0 [] n (n49_0 v.1 v.2.1 v.2.2.1 v.2.2.2.1 v.2.2.2.2.1 v.2.2.2.2.2.1 v.2.2.2.2.2.2) = spec_LeastPlay.l0 k n v.1 v.2.1 v.2.2.1 v.2.2.2.1 v.2.2.2.2.1 v.2.2.2.2.2.1 v.2.2.2.2.2.2 :=
  loopF_eq (E49 k) (S49 k) Try.f49 p49_0 [] (fun v : (List Int) × (List Bool) × (List Int) × (List Int) × (List Int) × Int × Int => n49_0 v.1 v.2.1 v.2.2.1 v.2.2.2.1 v.2.2.2.2.1 v.2.2.2.2.2.1 v.2.2.2.2.2.2) (fun rec v => spec_LeastPlay.s0 k (fun a0 a1 a2 a3 a4 a5 a6 => rec (a0, a1, a2, a3, a4, a5, a6)) (spec_LeastPlay.l1 k k) v.1 v.2.1 v.2.2.1 v.2.2.2.1 v.2.2.2.2.1 v.2.2.2.2.2.1 v.2.2.2.2.2.2) (fun n v => spec_LeastPlay.l0 k n v.1 v.2.1 v.2.2.1 v.2.2.2.1 v.2.2.2.2.1 v.2.2.2.2.2.1 v.2.2.2.2.2.2) (fun _ => rfl) (fun _ _ => rfl) (fun rec v => r49_0 k rec _ (fun a0 a1 a2 a3 a4 => q49_1 k k (a0, a1, a2, a3, a4)) v) n
theorem e49 (k : Nat) (x : dens (flatC (S49 k).ps)) : funK (E49 k) (S49 k) Try.f49 x = (S49 k).fn x := by
  have h : funK (E49 k) (S49 k) Try.f49 x = spec_LeastPlay.g k (fun a0 a1 a2 a3 a4 a5 a6 => loopF (E49 k) (S49 k) Try.f49 p49_0 [] k (n49_0 a0 a1 a2 a3 a4 a5 a6)) x := by kernel_rfl
  rw [h]
  rw [show (fun a0 a1 a2 a3 a4 a5 a6 => loopF (E49 k) (S49 k) Try.f49 p49_0 [] k (n49_0 a0 a1 a2 a3 a4 a5 a6)) = spec_LeastPlay.l0 k k from funext fun a0 => funext fun a1 => funext fun a2 => funext fun a3 => funext fun a4 => funext fun a5 => funext fun a6 => q49_0 k k (a0, a1, a2, a3, a4, a5, a6)]
  rfl
theorem M49 (k : Nat) : Meets Try.prog 49 (S49 k) := meets_of Try.func49 (by kernel_rfl) tbOk (orc_cons (M146 k) (orc_cons (M133 k) (orc_cons (M120 k) (orc_cons (M121 k) (orc_cons (M134 k) (orc_cons (M143 k) orc_nil)))))) mixOk (fun x y h => (e49 k x).trans h) rfl

/-! laws_likeInts: function 32 -/
noncomputable def laws_likeInts.s0 (k : Nat) (r0 : (List Int) → (List Int) → Int → Option (Bool)) (x0 : List Int) (x1 : List Int) (x5 : Int) : Option (Bool) := if x5 < (x0.length : Int) then (if 0 ≤ x5 then (if x5 < (x0.length : Int) then (if 0 ≤ x5 then (if x5 < (x1.length : Int) then (if (rd x0 x5) = (rd x1 x5) then (r0 x0 x1 (wrap64 (x5 + 1))) else (some false)) else (none)) else (none)) else (none)) else (none)) else (some true)
noncomputable def laws_likeInts.l0 (k : Nat) : Nat → (List Int) → (List Int) → Int → Option (Bool)
  | 0, _, _, _ => none
  | n + 1, x0, x1, x2 => laws_likeInts.s0 k (laws_likeInts.l0 k n) x0 x1 x2
noncomputable def laws_likeInts.g (k : Nat) (r0 : (List Int) → (List Int) → Int → Option (Bool)) (l0 : List Int) (l1 : List Int) : Option (Bool) := if (l0.length : Int) = (l1.length : Int) then (r0 l0 l1 0) else (some false)
noncomputable def laws_likeInts.f (k : Nat) (l0 : List Int) (l1 : List Int) : Option (Bool) := laws_likeInts.g k (laws_likeInts.l0 k k) l0 l1
noncomputable def S32 (k : Nat) : Does := ⟨[(false, [.dat (.list (.int .i64))]), (false, [.dat (.list (.int .i64))])], [(false, [.dat .bool])], fun x => laws_likeInts.f k x.1 x.2⟩
noncomputable def E32 (k : Nat) : En := ⟨tb, orcOf [], lvOf [(0, [(0, []), (1, []), (5, [])])], k, 0, lvOf [], []⟩
noncomputable def n32_0 (x0 : List Int) (x1 : List Int) (x5 : Int) : St := ⟨26, lookA [(0, .dat (.list (.int .i64)) x0), (1, .dat (.list (.int .i64)) x1), (5, .dat (.int .i64) x5)], Go.V.look []⟩
def p32_0 : List Bool := [true, true, false, true, false]
theorem r32_0 (k : Nat) (rec : St → Option (Bool)) (v : (List Int) × (List Int) × Int) : roundF (E32 k) (S32 k) Try.f32 p32_0 [] rec (n32_0 v.1 v.2.1 v.2.2) = laws_likeInts.s0 k (fun a0 a1 a2 => rec (n32_0 a0 a1 a2)) v.1 v.2.1 v.2.2 := by
  kernel_rfl
theorem q32_0 (k : Nat) (n : Nat) : ∀ v : (List Int) × (List Int) × Int, loopF (E32 k) (S32 k) Try.f32 p32_0 [] n (n32_0 v.1 v.2.1 v.2.2) = laws_likeInts.l0 k n v.1 v.2.1 v.2.2 :=
  loopF_eq (E32 k) (S32 k) Try.f32 p32_0 [] (fun v : (List Int) × (List Int) × Int => n32_0 v.1 v.2.1 v.2.2) (fun rec v => laws_likeInts.s0 k (fun a0 a1 a2 => rec (a0, a1, a2)) v.1 v.2.1 v.2.2) (fun n v => laws_likeInts.l0 k n v.1 v.2.1 v.2.2) (fun _ => rfl) (fun _ _ => rfl) (fun rec v => r32_0 k rec v) n
theorem e32 (k : Nat) (x : dens (flatC (S32 k).ps)) : funK (E32 k) (S32 k) Try.f32 x = (S32 k).fn x := by
  have h : funK (E32 k) (S32 k) Try.f32 x = laws_likeInts.g k (fun a0 a1 a2 => loopF (E32 k) (S32 k) Try.f32 p32_0 [] k (n32_0 a0 a1 a2)) x.1 x.2 := by kernel_rfl
  rw [h]
  rw [show (fun a0 a1 a2 => loopF (E32 k) (S32 k) Try.f32 p32_0 [] k (n32_0 a0 a1 a2)) = laws_likeInts.l0 k k from funext fun a0 => funext fun a1 => funext fun a2 => q32_0 k k (a0, a1, a2)]
  rfl
theorem M32 (k : Nat) : Meets Try.prog 32 (S32 k) := meets_of Try.func32 (by kernel_rfl) tbOk orc_nil mixOk (fun x y h => (e32 k x).trans h) rfl

/-! slices_Max_int64_int64: function 154 -/
noncomputable def slices_Max_int64_int64.s0 (k : Nat) (r0 : (List Int) → Int → Int → Option (Int)) (x0 : List Int) (x3 : Int) (x4 : Int) : Option (Int) := if x4 < (x0.length : Int) then (if 0 ≤ x4 then (if x4 < (x0.length : Int) then (r0 x0 (maxV x3 (rd x0 x4)) (wrap64 (x4 + 1))) else (none)) else (none)) else (some x3)
noncomputable def slices_Max_int64_int64.l0 (k : Nat) : Nat → (List Int) → Int → Int → Option (Int)
  | 0, _, _, _ => none
  | n + 1, x0, x1, x2 => slices_Max_int64_int64.s0 k (slices_Max_int64_int64.l0 k n) x0 x1 x2
noncomputable def slices_Max_int64_int64.g (k : Nat) (r0 : (List Int) → Int → Int → Option (Int)) (l0 : List Int) : Option (Int) := if (l0.length : Int) < 1 then (none) else (if 0 < (l0.length : Int) then (r0 l0 (rd l0 0) 1) else (none))
noncomputable def slices_Max_int64_int64.f (k : Nat) (l0 : List Int) : Option (Int) := slices_Max_int64_int64.g k (slices_Max_int64_int64.l0 k k) l0
noncomputable def S154 (k : Nat) : Does := ⟨[(false, [.dat (.list (.int .i64))])], [(false, [.dat (.int .i64)])], fun x => slices_Max_int64_int64.f k x⟩
noncomputable def E154 (k : Nat) : En := ⟨tb, orcOf [], lvOf [(0, [(0, []), (3, []), (4, [])])], k, 0, lvOf [], []⟩
noncomputable def n154_0 (x0 : List Int) (x3 : Int) (x4 : Int) : St := ⟨25, lookA [(0, .dat (.list (.int .i64)) x0), (3, .dat (.int .i64) x3), (4, .dat (.int .i64) x4)], Go.V.look []⟩
def p154_0 : List Bool := [true, true, true, false, true, false]
theorem r154_0 (k : Nat) (rec : St → Option (Int)) (v : (List Int) × Int × Int) : roundF (E154 k) (S154 k) Try.f154 p154_0 [] rec (n154_0 v.1 v.2.1 v.2.2) = slices_Max_int64_int64.s0 k (fun a0 a1 a2 => rec (n154_0 a0 a1 a2)) v.1 v.2.1 v.2.2 := by
  kernel_rfl
theorem q154_0 (k : Nat) (n : Nat) : ∀ v : (List Int) × Int × Int, loopF (E154 k) (S154 k) Try.f154 p154_0 [] n (n154_0 v.1 v.2.1 v.2.2) = slices_Max_int64_int64.l0 k n v.1 v.2.1 v.2.2 :=
  loopF_eq (E154 k) (S154 k) Try.f154 p154_0 [] (fun v : (List Int) × Int × Int => n154_0 v.1 v.2.1 v.2.2) (fun rec v => slices_Max_int64_int64.s0 k (fun a0 a1 a2 => rec (a0, a1, a2)) v.1 v.2.1 v.2.2) (fun n v => slices_Max_int64_int64.l0 k n v.1 v.2.1 v.2.2) (fun _ => rfl) (fun _ _ => rfl) (fun rec v => r154_0 k rec v) n
theorem e154 (k : Nat) (x : dens (flatC (S154 k).ps)) : funK (E154 k) (S154 k) Try.f154 x = (S154 k).fn x := by
  have h : funK (E154 k) (S154 k) Try.f154 x = slices_Max_int64_int64.g k (fun a0 a1 a2 => loopF (E154 k) (S154 k) Try.f154 p154_0 [] k (n154_0 a0 a1 a2)) x := by kernel_rfl
  rw [h]
  rw [show (fun a0 a1 a2 => loopF (E154 k) (S154 k) Try.f154 p154_0 [] k (n154_0 a0 a1 a2)) = slices_Max_int64_int64.l0 k k from funext fun a0 => funext fun a1 => funext fun a2 => q154_0 k k (a0, a1, a2)]
  rfl
theorem M154 (k : Nat) : Meets Try.prog 154 (S154 k) := meets_of Try.func154 (by kernel_rfl) tbOk orc_nil mixOk (fun x y h => (e154 k x).trans h) rfl

/-! slices_Index_int64_int64: function 153 -/
noncomputable def slices_Index_int64_int64.s0 (k : Nat) (r0 : (List Int) → Int → Int → Int → Option (Int)) (x0 : List Int) (x1 : Int) (x7 : Int) (x8 : Int) : Option (Int) := if x8 < x7 then (if 0 ≤ x8 then (if x8 < (x0.length : Int) then (if x1 = (rd x0 x8) then (some x8) else (r0 x0 x1 x7 (wrap64 (x8 + 1)))) else (none)) else (none)) else (some (-1))
noncomputable def slices_Index_int64_int64.l0 (k : Nat) : Nat → (List Int) → Int → Int → Int → Option (Int)
  | 0, _, _, _, _ => none
  | n + 1, x0, x1, x2, x3 => slices_Index_int64_int64.s0 k (slices_Index_int64_int64.l0 k n) x0 x1 x2 x3
noncomputable def slices_Index_int64_int64.g (k : Nat) (r0 : (List Int) → Int → Int → Int → Option (Int)) (l0 : List Int) (a1 : Int) : Option (Int) := r0 l0 a1 (l0.length : Int) 0
noncomputable def slices_Index_int64_int64.f (k : Nat) (l0 : List Int) (a1 : Int) : Option (Int) := slices_Index_int64_int64.g k (slices_Index_int64_int64.l0 k k) l0 a1
noncomputable def S153 (k : Nat) : Does := ⟨[(false, [.dat (.list (.int .i64))]), (false, [.dat (.int .i64)])], [(false, [.dat (.int .i64)])], fun x => slices_Index_int64_int64.f k x.1 x.2⟩
noncomputable def E153 (k : Nat) : En := ⟨tb, orcOf [], lvOf [(0, [(0, []), (1, []), (7, []), (8, [])])], k, 0, lvOf [], []⟩
noncomputable def n153_0 (x0 : List Int) (x1 : Int) (x7 : Int) (x8 : Int) : St := ⟨19, lookA [(0, .dat (.list (.int .i64)) x0), (1, .dat (.int .i64) x1), (7, .dat (.int .i64) x7), (8, .dat (.int .i64) x8)], Go.V.look []⟩
def p153_0 : List Bool := [true, false, true, false]
theorem r153_0 (k : Nat) (rec : St → Option (Int)) (v : (List Int) × Int × Int × Int) : roundF (E153 k) (S153 k) Try.f153 p153_0 [] rec (n153_0 v.1 v.2.1 v.2.2.1 v.2.2.2) = slices_Index_int64_int64.s0 k (fun a0 a1 a2 a3 => rec (n153_0 a0 a1 a2 a3)) v.1 v.2.1 v.2.2.1 v.2.2.2 := by
  kernel_rfl
theorem q153_0 (k : Nat) (n : Nat) : ∀ v : (List Int) × Int × Int × Int, loopF (E153 k) (S153 k) Try.f153 p153_0 [] n (n153_0 v.1 v.2.1 v.2.2.1 v.2.2.2) = slices_Index_int64_int64.l0 k n v.1 v.2.1 v.2.2.1 v.2.2.2 :=
  loopF_eq (E153 k) (S153 k) Try.f153 p153_0 [] (fun v : (List Int) × Int × Int × Int => n153_0 v.1 v.2.1 v.2.2.1 v.2.2.2) (fun rec v => slices_Index_int64_int64.s0 k (fun a0 a1 a2 a3 => rec (a0, a1, a2, a3)) v.1 v.2.1 v.2.2.1 v.2.2.2) (fun n v => slices_Index_int64_int64.l0 k n v.1 v.2.1 v.2.2.1 v.2.2.2) (fun _ => rfl) (fun _ _ => rfl) (fun rec v => r153_0 k rec v) n
theorem e153 (k : Nat) (x : dens (flatC (S153 k).ps)) : funK (E153 k) (S153 k) Try.f153 x = (S153 k).fn x := by
  have h : funK (E153 k) (S153 k) Try.f153 x = slices_Index_int64_int64.g k (fun a0 a1 a2 a3 => loopF (E153 k) (S153 k) Try.f153 p153_0 [] k (n153_0 a0 a1 a2 a3)) x.1 x.2 := by kernel_rfl
  rw [h]
  rw [show (fun a0 a1 a2 a3 => loopF (E153 k) (S153 k) Try.f153 p153_0 [] k (n153_0 a0 a1 a2 a3)) = slices_Index_int64_int64.l0 k k from funext fun a0 => funext fun a1 => funext fun a2 => funext fun a3 => q153_0 k k (a0, a1, a2, a3)]
  rfl
theorem M153 (k : Nat) : Meets Try.prog 153 (S153 k) := meets_of Try.func153 (by kernel_rfl) tbOk orc_nil mixOk (fun x y h => (e153 k x).trans h) rfl

/-! impl_graph_back: function 156 -/
noncomputable def impl_graph_back.s1 (k : Nat) (r0 : ((List Int) × (List (List (Int × Int))) × (List Bool)) → Int → (List (Int × Int)) → (List Int) → Option (Int)) (r1 : ((List Int) × (List (List (Int × Int))) × (List Bool)) → Int → (List (Int × Int)) → (List Int) → Int → (List Int) → Int → Int → Option (Int)) (x0 : (List Int) × (List (List (Int × Int))) × (List Bool)) (x1 : Int) (x5 : List (Int × Int)) (x6 : List Int) (x7 : Int) (x28 : List Int) (x29 : Int) (x30 : Int) : Option (Int) := if x30 < x29 then (if 0 ≤ x30 then (if x30 < (x28.length : Int) then (if 0 ≤ x7 then (if x7 < (x0.2.1.length : Int) then (if ((mgI (rdOf ([] : List (Int × Int)) x0.2.1 x7) (rd x28 x30)).getD 0) = x1 then (some (wrap64 (((mgI x5 x7).getD 0) + 1))) else (if (mgI x5 ((mgI (rdOf ([] : List (Int × Int)) x0.2.1 x7) (rd x28 x30)).getD 0)).isSome = true then (r1 x0 x1 x5 x6 x7 x28 x29 (wrap64 (x30 + 1))) else (if x6.length + 1 ≤ 1099511627776 then (r1 x0 x1 (mpI x5 ((mgI (rdOf ([] : List (Int × Int)) x0.2.1 x7) (rd x28 x30)).getD 0) (wrap64 (((mgI x5 x7).getD 0) + 1))) (x6 ++ [((mgI (rdOf ([] : List (Int × Int)) x0.2.1 x7) (rd x28 x30)).getD 0)]) x7 x28 x29 (wrap64 (x30 + 1))) else (none)))) else (none)) else (none)) else (none)) else (none)) else (if 1 ≤ (x6.length : Int) then (if (x6.length : Int) ≤ (x6.length : Int) then (r0 x0 x1 x5 (x6.drop (1 : Int).toNat)) else (none)) else (none))
noncomputable def impl_graph_back.l1 (k : Nat) (r0 : ((List Int) × (List (List (Int × Int))) × (List Bool)) → Int → (List (Int × Int)) → (List Int) → Option (Int)) : Nat → ((List Int) × (List (List (Int × Int))) × (List Bool)) → Int → (List (Int × Int)) → (List Int) → Int → (List Int) → Int → Int → Option (Int)
  | 0, _, _, _, _, _, _, _, _ => none
  | n + 1, x0, x1, x2, x3, x4, x5, x6, x7 => impl_graph_back.s1 k r0 (impl_graph_back.l1 k r0 n) x0 x1 x2 x3 x4 x5 x6 x7
noncomputable def impl_graph_back.s0 (k : Nat) (r0 : ((List Int) × (List (List (Int × Int))) × (List Bool)) → Int → (List (Int × Int)) → (List Int) → Option (Int)) (r1 : ((List Int) × (List (List (Int × Int))) × (List Bool)) → Int → (List (Int × Int)) → (List Int) → Int → (List Int) → Int → Int → Option (Int)) (x0 : (List Int) × (List (List (Int × Int))) × (List Bool)) (x1 : Int) (x5 : List (Int × Int)) (x6 : List Int) : Option (Int) := if 0 < (x6.length : Int) then (if 0 < (x6.length : Int) then ((impl_graph_keeping.f k x0 (rd x6 0)).bind fun t1 => r1 x0 x1 x5 x6 (rd x6 0) t1 (t1.length : Int) 0) else (none)) else (some 0)
noncomputable def impl_graph_back.l0 (k : Nat) : Nat → ((List Int) × (List (List (Int × Int))) × (List Bool)) → Int → (List (Int × Int)) → (List Int) → Option (Int)
  | 0, _, _, _, _ => none
  | n + 1, x0, x1, x2, x3 => impl_graph_back.s0 k (impl_graph_back.l0 k n) (impl_graph_back.l1 k (impl_graph_back.l0 k n) k) x0 x1 x2 x3
noncomputable def impl_graph_back.g (k : Nat) (r0 : ((List Int) × (List (List (Int × Int))) × (List Bool)) → Int → (List (Int × Int)) → (List Int) → Option (Int)) (a0 : (List Int) × (List (List (Int × Int))) × (List Bool)) (a1 : Int) : Option (Int) := r0 a0 a1 (mpI [] a1 0) [a1]
noncomputable def impl_graph_back.f (k : Nat) (a0 : (List Int) × (List (List (Int × Int))) × (List Bool)) (a1 : Int) : Option (Int) := impl_graph_back.g k (impl_graph_back.l0 k k) a0 a1
noncomputable def S156 (k : Nat) : Does := ⟨[(false, [.dat (.ptr (.struct (.pair (.struct (.list (.int .i64))) (.pair (.list (.map (.int .i64) (.int .i64))) (.list .bool)))))]), (false, [.dat (.int .i64)])], [(false, [.dat (.int .i64)])], fun x => impl_graph_back.f k x.1 x.2⟩
noncomputable def E156 (k : Nat) : En := ⟨tb, orcOf [(131, S131 k)], lvOf [(0, [(0, []), (1, []), (5, []), (6, [.que])]), (2, [(0, []), (1, []), (5, []), (6, []), (7, []), (28, []), (29, []), (30, [])])], k, 0, lvOf [], []⟩
noncomputable def n156_0 (x0 : (List Int) × (List (List (Int × Int))) × (List Bool)) (x1 : Int) (x5 : List (Int × Int)) (x6 : List Int) : St := ⟨69, lookA [(0, .dp (.struct (.pair (.struct (.list (.int .i64))) (.pair (.list (.map (.int .i64) (.int .i64))) (.list .bool)))) x0), (1, .dat (.int .i64) x1), (5, .om 0), (6, .own 1)], Go.V.look [(0, .mp (.int .i64) (.int .i64) x5), (1, .que 2 (.int .i64) x6)]⟩
def p156_0 : List Bool := [true, true, false, true, false]
noncomputable def n156_1 (x0 : (List Int) × (List (List (Int × Int))) × (List Bool)) (x1 : Int) (x5 : List (Int × Int)) (x6 : List Int) (x7 : Int) (x28 : List Int) (x29 : Int) (x30 : Int) : St := ⟨69, lookA [(0, .dp (.struct (.pair (.struct (.list (.int .i64))) (.pair (.list (.map (.int .i64) (.int .i64))) (.list .bool)))) x0), (1, .dat (.int .i64) x1), (5, .om 0), (6, .own 1), (7, .dat (.int .i64) x7), (28, .own 2), (29, .dat (.int .i64) x29), (30, .dat (.int .i64) x30)], Go.V.look [(0, .mp (.int .i64) (.int .i64) x5), (1, .que 2 (.int .i64) x6), (2, .flat 2 (.int .i64) x28)]⟩
def p156_1 : List Bool := [true, true, false, true, false, false, true, false, false, true, true, false]
theorem r156_1 (k : Nat) (R0 : St → Option (Int)) (rec : St → Option (Int)) (v : ((List Int) × (List (List (Int × Int))) × (List Bool)) × Int × (List (Int × Int)) × (List Int) × Int × (List Int) × Int × Int) : roundF (E156 k) (S156 k) Try.f156 p156_1 [R0] rec (n156_1 v.1 v.2.1 v.2.2.1 v.2.2.2.1 v.2.2.2.2.1 v.2.2.2.2.2.1 v.2.2.2.2.2.2.1 v.2.2.2.2.2.2.2) = impl_graph_back.s1 k (fun a0 a1 a2 a3 => R0 (n156_0 a0 a1 a2 a3)) (fun a0 a1 a2 a3 a4 a5 a6 a7 => rec (n156_1 a0 a1 a2 a3 a4 a5 a6 a7)) v.1 v.2.1 v.2.2.1 v.2.2.2.1 v.2.2.2.2.1 v.2.2.2.2.2.1 v.2.2.2.2.2.2.1 v.2.2.2.2.2.2.2 := by
  kernel_rfl
theorem q156_1 (k : Nat) (R0 : St → Option (Int)) (n : Nat) : ∀ v : ((List Int) × (List (List (Int × Int))) × (List Bool)) × Int × (List (Int × Int)) × (List Int) × Int × (List Int) × Int × Int, loopF (E156 k) (S156 k) Try.f156 p156_1 [R0] n (n156_1 v.1 v.2.1 v.2.2.1 v.2.2.2.1 v.2.2.2.2.1 v.2.2.2.2.2.1 v.2.2.2.2.2.2.1 v.2.2.2.2.2.2.2) = impl_graph_back.l1 k (fun a0 a1 a2 a3 => R0 (n156_0 a0 a1 a2 a3)) n v.1 v.2.1 v.2.2.1 v.2.2.2.1 v.2.2.2.2.1 v.2.2.2.2.2.1 v.2.2.2.2.2.2.1 v.2.2.2.2.2.2.2 :=
  loopF_eq (E156 k) (S156 k) Try.f156 p156_1 [R0] (fun v : ((List Int) × (List (List (Int × Int))) × (List Bool)) × Int × (List (Int × Int)) × (List Int) × Int × (List Int) × Int × Int => n156_1 v.1 v.2.1 v.2.2.1 v.2.2.2.1 v.2.2.2.2.1 v.2.2.2.2.2.1 v.2.2.2.2.2.2.1 v.2.2.2.2.2.2.2) (fun rec v => impl_graph_back.s1 k (fun a0 a1 a2 a3 => R0 (n156_0 a0 a1 a2 a3)) (fun a0 a1 a2 a3 a4 a5 a6 a7 => rec (a0, a1, a2, a3, a4, a5, a6, a7)) v.1 v.2.1 v.2.2.1 v.2.2.2.1 v.2.2.2.2.1 v.2.2.2.2.2.1 v.2.2.2.2.2.2.1 v.2.2.2.2.2.2.2) (fun n v => impl_graph_back.l1 k (fun a0 a1 a2 a3 => R0 (n156_0 a0 a1 a2 a3)) n v.1 v.2.1 v.2.2.1 v.2.2.2.1 v.2.2.2.2.1 v.2.2.2.2.2.1 v.2.2.2.2.2.2.1 v.2.2.2.2.2.2.2) (fun _ => rfl) (fun _ _ => rfl) (fun rec v => r156_1 k R0 rec v) n
theorem r156_0 (k : Nat) (rec : St → Option (Int)) (G1 : ((List Int) × (List (List (Int × Int))) × (List Bool)) → Int → (List (Int × Int)) → (List Int) → Int → (List Int) → Int → Int → Option (Int)) (h1 : ∀ a0 a1 a2 a3 a4 a5 a6 a7, loopF (E156 k) (S156 k) Try.f156 p156_1 [rec] k (n156_1 a0 a1 a2 a3 a4 a5 a6 a7) = G1 a0 a1 a2 a3 a4 a5 a6 a7) (v : ((List Int) × (List (List (Int × Int))) × (List Bool)) × Int × (List (Int × Int)) × (List Int)) : roundF (E156 k) (S156 k) Try.f156 p156_0 [] rec (n156_0 v.1 v.2.1 v.2.2.1 v.2.2.2) = impl_graph_back.s0 k (fun a0 a1 a2 a3 => rec (n156_0 a0 a1 a2 a3)) G1 v.1 v.2.1 v.2.2.1 v.2.2.2 := by
  obtain rfl : (fun a0 a1 a2 a3 a4 a5 a6 a7 => loopF (E156 k) (S156 k) Try.f156 p156_1 [rec] k (n156_1 a0 a1 a2 a3 a4 a5 a6 a7)) = G1 := funext fun a0 => funext fun a1 => funext fun a2 => funext fun a3 => funext fun a4 => funext fun a5 => funext fun a6 => funext fun a7 => h1 a0 a1 a2 a3 a4 a5 a6 a7
  kernel_rfl
theorem q156_0 (k : Nat) (n : Nat) : ∀ v : ((List Int) × (List (List (Int × Int))) × (List Bool)) × Int × (List (Int × Int)) × (List Int), loopF (E156 k) (S156 k) Try.f156 p156_0 [] n (n156_0 v.1 v.2.1 v.2.2.1 v.2.2.2) = impl_graph_back.l0 k n v.1 v.2.1 v.2.2.1 v.2.2.2 :=
  loopF_eq (E156 k) (S156 k) Try.f156 p156_0 [] (fun v : ((List Int) × (List (List (Int × Int))) × (List Bool)) × Int × (List (Int × Int)) × (List Int) => n156_0 v.1 v.2.1 v.2.2.1 v.2.2.2) (fun rec v => impl_graph_back.s0 k (fun a0 a1 a2 a3 => rec (a0, a1, a2, a3)) (impl_graph_back.l1 k (fun a0 a1 a2 a3 => rec (a0, a1, a2, a3)) k) v.1 v.2.1 v.2.2.1 v.2.2.2) (fun n v => impl_graph_back.l0 k n v.1 v.2.1 v.2.2.1 v.2.2.2) (fun _ => rfl) (fun _ _ => rfl) (fun rec v => r156_0 k rec _ (fun a0 a1 a2 a3 a4 a5 a6 a7 => q156_1 k rec k (a0, a1, a2, a3, a4, a5, a6, a7)) v) n
theorem e156 (k : Nat) (x : dens (flatC (S156 k).ps)) : funK (E156 k) (S156 k) Try.f156 x = (S156 k).fn x := by
  have h : funK (E156 k) (S156 k) Try.f156 x = impl_graph_back.g k (fun a0 a1 a2 a3 => loopF (E156 k) (S156 k) Try.f156 p156_0 [] k (n156_0 a0 a1 a2 a3)) x.1 x.2 := by kernel_rfl
  rw [h]
  rw [show (fun a0 a1 a2 a3 => loopF (E156 k) (S156 k) Try.f156 p156_0 [] k (n156_0 a0 a1 a2 a3)) = impl_graph_back.l0 k k from funext fun a0 => funext fun a1 => funext fun a2 => funext fun a3 => q156_0 k k (a0, a1, a2, a3)]
  rfl
theorem M156 (k : Nat) : Meets Try.prog 156 (S156 k) := meets_of Try.func156 (by kernel_rfl) tbOk (orc_cons (M131 k) orc_nil) mixOk (fun x y h => (e156 k x).trans h) rfl

/-! impl_FewestSlots: function 50 -/
noncomputable def impl_FewestSlots.s0 (k : Nat) (r0 : (List Int) → (Option ((List Int) × (List (List (Int × Int))) × (List Bool))) → Int → Int → (List Bool) → Int → Int → Option (Int × Int)) (x1_0 : List Int) (x4 : Option ((List Int) × (List (List (Int × Int))) × (List Bool))) (x6 : Int) (x7 : Int) (x28 : List Bool) (x29 : Int) (x30 : Int) : Option (Int × Int) := if x30 < x29 then (if 0 ≤ x30 then (if x30 < (x28.length : Int) then (if (rdOf false x28 x30) = true then ((impl_Tasks_numbered.f k x1_0 x30).bind fun t5 => if 0 ≤ x6 then (if x6 < (t5.length : Int) then (if 0 ≤ x6 then (if x6 < (x1_0.length : Int) then (if (rd t5 x6) = (rd x1_0 x6) then ((x4).bind fun u6 => (impl_graph_back.f k u6 x30).bind fun t7 => if 0 < t7 then (if x7 = 0 then (r0 x1_0 x4 x6 t7 x28 x29 (wrap64 (x30 + 1))) else (if t7 < x7 then (r0 x1_0 x4 x6 t7 x28 x29 (wrap64 (x30 + 1))) else (r0 x1_0 x4 x6 x7 x28 x29 (wrap64 (x30 + 1))))) else (r0 x1_0 x4 x6 x7 x28 x29 (wrap64 (x30 + 1)))) else (r0 x1_0 x4 x6 x7 x28 x29 (wrap64 (x30 + 1)))) else (none)) else (none)) else (none)) else (none)) else (r0 x1_0 x4 x6 x7 x28 x29 (wrap64 (x30 + 1)))) else (none)) else (none)) else (some (x7, 0))
noncomputable def impl_FewestSlots.l0 (k : Nat) : Nat → (List Int) → (Option ((List Int) × (List (List (Int × Int))) × (List Bool))) → Int → Int → (List Bool) → Int → Int → Option (Int × Int)
  | 0, _, _, _, _, _, _, _ => none
  | n + 1, x0, x1, x2, x3, x4, x5, x6 => impl_FewestSlots.s0 k (impl_FewestSlots.l0 k n) x0 x1 x2 x3 x4 x5 x6
noncomputable def impl_FewestSlots.g (k : Nat) (r0 : (List Int) → (Option ((List Int) × (List (List (Int × Int))) × (List Bool))) → Int → Int → (List Bool) → Int → Int → Option (Int × Int)) (l0_0 : List Int) : Option (Int × Int) := (impl_servable.f k l0_0 true).bind fun t1 => if t1.2 = 0 then ((slices_Max_int64_int64.f k l0_0).bind fun t2 => (slices_Index_int64_int64.f k l0_0 t2).bind fun t3 => (t1.1).bind fun u4 => r0 l0_0 t1.1 t3 0 u4.2.2 (u4.2.2.length : Int) 0) else (some (0, t1.2))
noncomputable def impl_FewestSlots.f (k : Nat) (l0_0 : List Int) : Option (Int × Int) := impl_FewestSlots.g k (impl_FewestSlots.l0 k k) l0_0
noncomputable def S50 (k : Nat) : Does := ⟨[(true, [.dat (.list (.int .i64))])], [(false, [.dat (.int .i64)]), (false, [.dat (.int .i64)])], fun x => impl_FewestSlots.f k x⟩
noncomputable def E50 (k : Nat) : En := ⟨tb, orcOf [(151, S151 k), (154, S154 k), (153, S153 k), (155, S155 k), (156, S156 k)], lvOf [(0, [(1, []), (4, []), (6, []), (7, []), (28, []), (29, []), (30, [])])], k, 0, lvOf [], []⟩
noncomputable def n50_0 (x1_0 : List Int) (x4 : Option ((List Int) × (List (List (Int × Int))) × (List Bool))) (x6 : Int) (x7 : Int) (x28 : List Bool) (x29 : Int) (x30 : Int) : St := ⟨68, lookA [(1, .box 0 0), (4, .dat (.optr (.struct (.pair (.struct (.list (.int .i64))) (.pair (.list (.map (.int .i64) (.int .i64))) (.list .bool))))) x4), (6, .dat (.int .i64) x6), (7, .dat (.int .i64) x7), (28, .dat (.list .bool) x28), (29, .dat (.int .i64) x29), (30, .dat (.int .i64) x30)], Go.V.look [(0, .cells [.dat (.list (.int .i64)) x1_0])]⟩
def p50_0 : List Bool := [true, true, true, true, true, false, true, false]
theorem r50_0 (k : Nat) (rec : St → Option (Int × Int)) (v : (List Int) × (Option ((List Int) × (List (List (Int × Int))) × (List Bool))) × Int × Int × (List Bool) × Int × Int) : roundF (E50 k) (S50 k) Try.f50 p50_0 [] rec (n50_0 v.1 v.2.1 v.2.2.1 v.2.2.2.1 v.2.2.2.2.1 v.2.2.2.2.2.1 v.2.2.2.2.2.2) = impl_FewestSlots.s0 k (fun a0 a1 a2 a3 a4 a5 a6 => rec (n50_0 a0 a1 a2 a3 a4 a5 a6)) v.1 v.2.1 v.2.2.1 v.2.2.2.1 v.2.2.2.2.1 v.2.2.2.2.2.1 v.2.2.2.2.2.2 := by
  kernel_rfl
theorem q50_0 (k : Nat) (n : Nat) : ∀ v : (List Int) × (Option ((List Int) × (List (List (Int × Int))) × (List Bool))) × Int × Int × (List Bool) × Int × Int, loopF (E50 k) (S50 k) Try.f50 p50_0 [] n (n50_0 v.1 v.2.1 v.2.2.1 v.2.2.2.1 v.2.2.2.2.1 v.2.2.2.2.2.1 v.2.2.2.2.2.2) = impl_FewestSlots.l0 k n v.1 v.2.1 v.2.2.1 v.2.2.2.1 v.2.2.2.2.1 v.2.2.2.2.2.1 v.2.2.2.2.2.2 :=
  loopF_eq (E50 k) (S50 k) Try.f50 p50_0 [] (fun v : (List Int) × (Option ((List Int) × (List (List (Int × Int))) × (List Bool))) × Int × Int × (List Bool) × Int × Int => n50_0 v.1 v.2.1 v.2.2.1 v.2.2.2.1 v.2.2.2.2.1 v.2.2.2.2.2.1 v.2.2.2.2.2.2) (fun rec v => impl_FewestSlots.s0 k (fun a0 a1 a2 a3 a4 a5 a6 => rec (a0, a1, a2, a3, a4, a5, a6)) v.1 v.2.1 v.2.2.1 v.2.2.2.1 v.2.2.2.2.1 v.2.2.2.2.2.1 v.2.2.2.2.2.2) (fun n v => impl_FewestSlots.l0 k n v.1 v.2.1 v.2.2.1 v.2.2.2.1 v.2.2.2.2.1 v.2.2.2.2.2.1 v.2.2.2.2.2.2) (fun _ => rfl) (fun _ _ => rfl) (fun rec v => r50_0 k rec v) n
theorem e50 (k : Nat) (x : dens (flatC (S50 k).ps)) : funK (E50 k) (S50 k) Try.f50 x = (S50 k).fn x := by
  have h : funK (E50 k) (S50 k) Try.f50 x = impl_FewestSlots.g k (fun a0 a1 a2 a3 a4 a5 a6 => loopF (E50 k) (S50 k) Try.f50 p50_0 [] k (n50_0 a0 a1 a2 a3 a4 a5 a6)) x := by kernel_rfl
  rw [h]
  rw [show (fun a0 a1 a2 a3 a4 a5 a6 => loopF (E50 k) (S50 k) Try.f50 p50_0 [] k (n50_0 a0 a1 a2 a3 a4 a5 a6)) = impl_FewestSlots.l0 k k from funext fun a0 => funext fun a1 => funext fun a2 => funext fun a3 => funext fun a4 => funext fun a5 => funext fun a6 => q50_0 k k (a0, a1, a2, a3, a4, a5, a6)]
  rfl
theorem M50 (k : Nat) : Meets Try.prog 50 (S50 k) := meets_of Try.func50 (by kernel_rfl) tbOk (orc_cons (M151 k) (orc_cons (M154 k) (orc_cons (M153 k) (orc_cons (M155 k) (orc_cons (M156 k) orc_nil))))) mixOk (fun x y h => (e50 k x).trans h) rfl

/-! spec_l02Back: function 157 -/
noncomputable def spec_l02Back.s2 (k : Nat) (r1 : (List Bool) → Int → (List Int) → (List Bool) → (List Int) → Int → (List Int) → Int → Option (Int)) (r2 : (List Bool) → Int → (List Int) → (List Bool) → (List Int) → Int → (List Int) → Int → (List Int) → Int → Option (Int)) (x1 : List Bool) (x2 : Int) (x3_0 : List Int) (x7 : List Bool) (x8 : List Int) (x9 : Int) (x10 : List Int) (x11 : Int) (x12 : List Int) (x13 : Int) : Option (Int) := (spec_l01K.f x3_0).bind fun t2 => if x13 < t2 then ((spec_l02Step.f k x3_0 x12 x13).bind fun t3 => if t3.2 = true then ((spec_l02Number.f k x3_0 t3.1).bind fun t4 => if t4 = x2 then (some x9) else (if 0 ≤ t4 then (if t4 < (x1.length : Int) then (if (rdOf false x1 t4) = true then (if 0 ≤ t4 then (if t4 < (x7.length : Int) then (if (rdOf false x7 t4) = true then (r2 x1 x2 x3_0 x7 x8 x9 x10 x11 x12 (wrap64 (x13 + 1))) else (if 0 ≤ t4 then (if t4 < (x7.length : Int) then (if x10.length + 1 ≤ 1099511627776 then (r2 x1 x2 x3_0 (x7.set t4.toNat true) x8 x9 (x10 ++ [t4]) x11 x12 (wrap64 (x13 + 1))) else (none)) else (none)) else (none))) else (none)) else (none)) else (r2 x1 x2 x3_0 x7 x8 x9 x10 x11 x12 (wrap64 (x13 + 1)))) else (none)) else (none))) else (r2 x1 x2 x3_0 x7 x8 x9 x10 x11 x12 (wrap64 (x13 + 1)))) else (r1 x1 x2 x3_0 x7 x8 x9 x10 (wrap64 (x11 + 1)))
noncomputable def spec_l02Back.l2 (k : Nat) (r0 : (List Bool) → Int → (List Int) → (List Bool) → (List Int) → Int → Option (Int)) (r1 : (List Bool) → Int → (List Int) → (List Bool) → (List Int) → Int → (List Int) → Int → Option (Int)) : Nat → (List Bool) → Int → (List Int) → (List Bool) → (List Int) → Int → (List Int) → Int → (List Int) → Int → Option (Int)
  | 0, _, _, _, _, _, _, _, _, _, _ => none
  | n + 1, x0, x1, x2, x3, x4, x5, x6, x7, x8, x9 => spec_l02Back.s2 k r1 (spec_l02Back.l2 k r0 r1 n) x0 x1 x2 x3 x4 x5 x6 x7 x8 x9
noncomputable def spec_l02Back.s1 (k : Nat) (r0 : (List Bool) → Int → (List Int) → (List Bool) → (List Int) → Int → Option (Int)) (r1 : (List Bool) → Int → (List Int) → (List Bool) → (List Int) → Int → (List Int) → Int → Option (Int)) (r2 : (List Bool) → Int → (List Int) → (List Bool) → (List Int) → Int → (List Int) → Int → (List Int) → Int → Option (Int)) (x1 : List Bool) (x2 : Int) (x3_0 : List Int) (x7 : List Bool) (x8 : List Int) (x9 : Int) (x10 : List Int) (x11 : Int) : Option (Int) := if x11 < (x8.length : Int) then (if 0 ≤ x11 then (if x11 < (x8.length : Int) then ((spec_l02Of.f k x3_0 (rd x8 x11)).bind fun t1 => r2 x1 x2 x3_0 x7 x8 x9 x10 x11 t1 (-1)) else (none)) else (none)) else (r0 x1 x2 x3_0 x7 x10 (wrap64 (x9 + 1)))
noncomputable def spec_l02Back.l1 (k : Nat) (r0 : (List Bool) → Int → (List Int) → (List Bool) → (List Int) → Int → Option (Int)) : Nat → (List Bool) → Int → (List Int) → (List Bool) → (List Int) → Int → (List Int) → Int → Option (Int)
  | 0, _, _, _, _, _, _, _, _ => none
  | n + 1, x0, x1, x2, x3, x4, x5, x6, x7 => spec_l02Back.s1 k r0 (spec_l02Back.l1 k r0 n) (spec_l02Back.l2 k r0 (spec_l02Back.l1 k r0 n) k) x0 x1 x2 x3 x4 x5 x6 x7
noncomputable def spec_l02Back.s0 (k : Nat) (r0 : (List Bool) → Int → (List Int) → (List Bool) → (List Int) → Int → Option (Int)) (r1 : (List Bool) → Int → (List Int) → (List Bool) → (List Int) → Int → (List Int) → Int → Option (Int)) (x1 : List Bool) (x2 : Int) (x3_0 : List Int) (x7 : List Bool) (x8 : List Int) (x9 : Int) : Option (Int) := if 0 < (x8.length : Int) then (r1 x1 x2 x3_0 x7 x8 x9 [] 0) else (some 0)
noncomputable def spec_l02Back.l0 (k : Nat) : Nat → (List Bool) → Int → (List Int) → (List Bool) → (List Int) → Int → Option (Int)
  | 0, _, _, _, _, _, _ => none
  | n + 1, x0, x1, x2, x3, x4, x5 => spec_l02Back.s0 k (spec_l02Back.l0 k n) (spec_l02Back.l1 k (spec_l02Back.l0 k n) k) x0 x1 x2 x3 x4 x5
noncomputable def spec_l02Back.g (k : Nat) (r0 : (List Bool) → Int → (List Int) → (List Bool) → (List Int) → Int → Option (Int)) (l0_0 : List Int) (l1 : List Bool) (a2 : Int) : Option (Int) := if 0 ≤ (l1.length : Int) then (if (l1.length : Int) ≤ (l1.length : Int) then (if (l1.length : Int).toNat ≤ 1099511627776 then (r0 l1 a2 l0_0 (List.replicate (l1.length : Int).toNat (false : Bool)) [a2] 1) else (none)) else (none)) else (none)
noncomputable def spec_l02Back.f (k : Nat) (l0_0 : List Int) (l1 : List Bool) (a2 : Int) : Option (Int) := spec_l02Back.g k (spec_l02Back.l0 k k) l0_0 l1 a2
noncomputable def S157 (k : Nat) : Does := ⟨[(true, [.dat (.list (.int .i64))]), (false, [.dat (.list .bool)]), (false, [.dat (.int .i64)])], [(false, [.dat (.int .i64)])], fun x => spec_l02Back.f k x.1 x.2.1 x.2.2⟩
noncomputable def E157 (k : Nat) : En := ⟨tb, orcOf [(123, S123 k), (142, S142 k), (143, S143 k), (121, S121 k)], lvOf [(0, [(1, []), (2, []), (3, []), (7, []), (8, []), (9, [])]), (2, [(1, []), (2, []), (3, []), (7, []), (8, []), (9, []), (10, []), (11, [])]), (4, [(1, []), (2, []), (3, []), (7, []), (8, []), (9, []), (10, []), (11, []), (12, []), (13, [])])], k, 0, lvOf [], []⟩
noncomputable def n157_0 (x1 : List Bool) (x2 : Int) (x3_0 : List Int) (x7 : List Bool) (x8 : List Int) (x9 : Int) : St := ⟨81, lookA [(1, .dat (.list .bool) x1), (2, .dat (.int .i64) x2), (3, .box 0 0), (7, .own 1), (8, .own 2), (9, .dat (.int .i64) x9)], Go.V.look [(0, .cells [.dat (.list (.int .i64)) x3_0]), (1, .flat 4 .bool x7), (2, .flat 2 (.int .i64) x8)]⟩
def p157_0 : List Bool := [true, true, false, true, false]
noncomputable def n157_1 (x1 : List Bool) (x2 : Int) (x3_0 : List Int) (x7 : List Bool) (x8 : List Int) (x9 : Int) (x10 : List Int) (x11 : Int) : St := ⟨81, lookA [(1, .dat (.list .bool) x1), (2, .dat (.int .i64) x2), (3, .box 0 0), (7, .own 1), (8, .own 2), (9, .dat (.int .i64) x9), (10, .own 3), (11, .dat (.int .i64) x11)], Go.V.look [(0, .cells [.dat (.list (.int .i64)) x3_0]), (1, .flat 4 .bool x7), (2, .flat 2 (.int .i64) x8), (3, .flat 2 (.int .i64) x10)]⟩
def p157_1 : List Bool := [true, true, false, true, false, false, true, false, false, true, false, true, false]
noncomputable def n157_2 (x1 : List Bool) (x2 : Int) (x3_0 : List Int) (x7 : List Bool) (x8 : List Int) (x9 : Int) (x10 : List Int) (x11 : Int) (x12 : List Int) (x13 : Int) : St := ⟨81, lookA [(1, .dat (.list .bool) x1), (2, .dat (.int .i64) x2), (3, .box 0 0), (7, .own 1), (8, .own 2), (9, .dat (.int .i64) x9), (10, .own 3), (11, .dat (.int .i64) x11), (12, .own 4), (13, .dat (.int .i64) x13)], Go.V.look [(0, .cells [.dat (.list (.int .i64)) x3_0]), (1, .flat 4 .bool x7), (2, .flat 2 (.int .i64) x8), (3, .flat 2 (.int .i64) x10), (4, .flat 2 (.int .i64) x12)]⟩
def p157_2 : List Bool := [true, true, false, true, false, false, true, false, false, true, false, true, false, false, true, false, false, true, true, false]
theorem r157_2 (k : Nat) (R0 : St → Option (Int)) (R1 : St → Option (Int)) (rec : St → Option (Int)) (v : (List Bool) × Int × (List Int) × (List Bool) × (List Int) × Int × (List Int) × Int × (List Int) × Int) : roundF (E157 k) (S157 k) Try.f157 p157_2 [R0, R1] rec (n157_2 v.1 v.2.1 v.2.2.1 v.2.2.2.1 v.2.2.2.2.1 v.2.2.2.2.2.1 v.2.2.2.2.2.2.1 v.2.2.2.2.2.2.2.1 v.2.2.2.2.2.2.2.2.1 v.2.2.2.2.2.2.2.2.2) = spec_l02Back.s2 k (fun a0 a1 a2 a3 a4 a5 a6 a7 => R1 (n157_1 a0 a1 a2 a3 a4 a5 a6 a7)) (fun a0 a1 a2 a3 a4 a5 a6 a7 a8 a9 => rec (n157_2 a0 a1 a2 a3 a4 a5 a6 a7 a8 a9)) v.1 v.2.1 v.2.2.1 v.2.2.2.1 v.2.2.2.2.1 v.2.2.2.2.2.1 v.2.2.2.2.2.2.1 v.2.2.2.2.2.2.2.1 v.2.2.2.2.2.2.2.2.1 v.2.2.2.2.2.2.2.2.2 := by
  kernel_rfl
theorem q157_2 (k : Nat) (R0 : St → Option (Int)) (R1 : St → Option (Int)) (n : Nat) : ∀ v : (List Bool) × Int × (List Int) × (List Bool) × (List Int) × Int × (List Int) × Int × (List Int) × Int, loopF (E157 k) (S157 k) Try.f157 p157_2 [R0, R1] n (n157_2 v.1 v.2.1 v.2.2.1 v.2.2.2.1 v.2.2.2.2.1 v.2.2.2.2.2.1 v.2.2.2.2.2.2.1 v.2.2.2.2.2.2.2.1 v.2.2.2.2.2.2.2.2.1 v.2.2.2.2.2.2.2.2.2) = spec_l02Back.l2 k (fun a0 a1 a2 a3 a4 a5 => R0 (n157_0 a0 a1 a2 a3 a4 a5)) (fun a0 a1 a2 a3 a4 a5 a6 a7 => R1 (n157_1 a0 a1 a2 a3 a4 a5 a6 a7)) n v.1 v.2.1 v.2.2.1 v.2.2.2.1 v.2.2.2.2.1 v.2.2.2.2.2.1 v.2.2.2.2.2.2.1 v.2.2.2.2.2.2.2.1 v.2.2.2.2.2.2.2.2.1 v.2.2.2.2.2.2.2.2.2 :=
  loopF_eq (E157 k) (S157 k) Try.f157 p157_2 [R0, R1] (fun v : (List Bool) × Int × (List Int) × (List Bool) × (List Int) × Int × (List Int) × Int × (List Int) × Int => n157_2 v.1 v.2.1 v.2.2.1 v.2.2.2.1 v.2.2.2.2.1 v.2.2.2.2.2.1 v.2.2.2.2.2.2.1 v.2.2.2.2.2.2.2.1 v.2.2.2.2.2.2.2.2.1 v.2.2.2.2.2.2.2.2.2) (fun rec v => spec_l02Back.s2 k (fun a0 a1 a2 a3 a4 a5 a6 a7 => R1 (n157_1 a0 a1 a2 a3 a4 a5 a6 a7)) (fun a0 a1 a2 a3 a4 a5 a6 a7 a8 a9 => rec (a0, a1, a2, a3, a4, a5, a6, a7, a8, a9)) v.1 v.2.1 v.2.2.1 v.2.2.2.1 v.2.2.2.2.1 v.2.2.2.2.2.1 v.2.2.2.2.2.2.1 v.2.2.2.2.2.2.2.1 v.2.2.2.2.2.2.2.2.1 v.2.2.2.2.2.2.2.2.2) (fun n v => spec_l02Back.l2 k (fun a0 a1 a2 a3 a4 a5 => R0 (n157_0 a0 a1 a2 a3 a4 a5)) (fun a0 a1 a2 a3 a4 a5 a6 a7 => R1 (n157_1 a0 a1 a2 a3 a4 a5 a6 a7)) n v.1 v.2.1 v.2.2.1 v.2.2.2.1 v.2.2.2.2.1 v.2.2.2.2.2.1 v.2.2.2.2.2.2.1 v.2.2.2.2.2.2.2.1 v.2.2.2.2.2.2.2.2.1 v.2.2.2.2.2.2.2.2.2) (fun _ => rfl) (fun _ _ => rfl) (fun rec v => r157_2 k R0 R1 rec v) n
theorem r157_1 (k : Nat) (R0 : St → Option (Int)) (rec : St → Option (Int)) (G2 : (List Bool) → Int → (List Int) → (List Bool) → (List Int) → Int → (List Int) → Int → (List Int) → Int → Option (Int)) (h2 : ∀ a0 a1 a2 a3 a4 a5 a6 a7 a8 a9, loopF (E157 k) (S157 k) Try.f157 p157_2 [R0, rec] k (n157_2 a0 a1 a2 a3 a4 a5 a6 a7 a8 a9) = G2 a0 a1 a2 a3 a4 a5 a6 a7 a8 a9) (v : (List Bool) × Int × (List Int) × (List Bool) × (List Int) × Int × (List Int) × Int) : roundF (E157 k) (S157 k) Try.f157 p157_1 [R0] rec (n157_1 v.1 v.2.1 v.2.2.1 v.2.2.2.1 v.2.2.2.2.1 v.2.2.2.2.2.1 v.2.2.2.2.2.2.1 v.2.2.2.2.2.2.2) = spec_l02Back.s1 k (fun a0 a1 a2 a3 a4 a5 => R0 (n157_0 a0 a1 a2 a3 a4 a5)) (fun a0 a1 a2 a3 a4 a5 a6 a7 => rec (n157_1 a0 a1 a2 a3 a4 a5 a6 a7)) G2 v.1 v.2.1 v.2.2.1 v.2.2.2.1 v.2.2.2.2.1 v.2.2.2.2.2.1 v.2.2.2.2.2.2.1 v.2.2.2.2.2.2.2 := by
  obtain rfl : (fun a0 a1 a2 a3 a4 a5 a6 a7 a8 a9 => loopF (E157 k) (S157 k) Try.f157 p157_2 [R0, rec] k (n157_2 a0 a1 a2 a3 a4 a5 a6 a7 a8 a9)) = G2 := funext fun a0 => funext fun a1 => funext fun a2 => funext fun a3 => funext fun a4 => funext fun a5 => funext fun a6 => funext fun a7 => funext fun a8 => funext fun a9 => h2 a0 a1 a2 a3 a4 a5 a6 a7 a8 a9
  kernel_rfl
theorem q157_1 (k : Nat) (R0 : St → Option (Int)) (n : Nat) : ∀ v : (List Bool) × Int × (List Int) × (List Bool) × (List Int) × Int × (List Int) × Int, loopF (E157 k) (S157 k) Try.f157 p157_1 [R0] n (n157_1 v.1 v.2.1 v.2.2.1 v.2.2.2.1 v.2.2.2.2.1 v.2.2.2.2.2.1 v.2.2.2.2.2.2.1 v.2.2.2.2.2.2.2) = spec_l02Back.l1 k (fun a0 a1 a2 a3 a4 a5 => R0 (n157_0 a0 a1 a2 a3 a4 a5)) n v.1 v.2.1 v.2.2.1 v.2.2.2.1 v.2.2.2.2.1 v.2.2.2.2.2.1 v.2.2.2.2.2.2.1 v.2.2.2.2.2.2.2 :=
  loopF_eq (E157 k) (S157 k) Try.f157 p157_1 [R0] (fun v : (List Bool) × Int × (List Int) × (List Bool) × (List Int) × Int × (List Int) × Int => n157_1 v.1 v.2.1 v.2.2.1 v.2.2.2.1 v.2.2.2.2.1 v.2.2.2.2.2.1 v.2.2.2.2.2.2.1 v.2.2.2.2.2.2.2) (fun rec v => spec_l02Back.s1 k (fun a0 a1 a2 a3 a4 a5 => R0 (n157_0 a0 a1 a2 a3 a4 a5)) (fun a0 a1 a2 a3 a4 a5 a6 a7 => rec (a0, a1, a2, a3, a4, a5, a6, a7)) (spec_l02Back.l2 k (fun a0 a1 a2 a3 a4 a5 => R0 (n157_0 a0 a1 a2 a3 a4 a5)) (fun a0 a1 a2 a3 a4 a5 a6 a7 => rec (a0, a1, a2, a3, a4, a5, a6, a7)) k) v.1 v.2.1 v.2.2.1 v.2.2.2.1 v.2.2.2.2.1 v.2.2.2.2.2.1 v.2.2.2.2.2.2.1 v.2.2.2.2.2.2.2) (fun n v => spec_l02Back.l1 k (fun a0 a1 a2 a3 a4 a5 => R0 (n157_0 a0 a1 a2 a3 a4 a5)) n v.1 v.2.1 v.2.2.1 v.2.2.2.1 v.2.2.2.2.1 v.2.2.2.2.2.1 v.2.2.2.2.2.2.1 v.2.2.2.2.2.2.2) (fun _ => rfl) (fun _ _ => rfl) (fun rec v => r157_1 k R0 rec _ (fun a0 a1 a2 a3 a4 a5 a6 a7 a8 a9 => q157_2 k R0 rec k (a0, a1, a2, a3, a4, a5, a6, a7, a8, a9)) v) n
theorem r157_0 (k : Nat) (rec : St → Option (Int)) (G1 : (List Bool) → Int → (List Int) → (List Bool) → (List Int) → Int → (List Int) → Int → Option (Int)) (h1 : ∀ a0 a1 a2 a3 a4 a5 a6 a7, loopF (E157 k) (S157 k) Try.f157 p157_1 [rec] k (n157_1 a0 a1 a2 a3 a4 a5 a6 a7) = G1 a0 a1 a2 a3 a4 a5 a6 a7) (v : (List Bool) × Int × (List Int) × (List Bool) × (List Int) × Int) : roundF (E157 k) (S157 k) Try.f157 p157_0 [] rec (n157_0 v.1 v.2.1 v.2.2.1 v.2.2.2.1 v.2.2.2.2.1 v.2.2.2.2.2) = spec_l02Back.s0 k (fun a0 a1 a2 a3 a4 a5 => rec (n157_0 a0 a1 a2 a3 a4 a5)) G1 v.1 v.2.1 v.2.2.1 v.2.2.2.1 v.2.2.2.2.1 v.2.2.2.2.2 := by
  obtain rfl : (fun a0 a1 a2 a3 a4 a5 a6 a7 => loopF (E157 k) (S157 k) Try.f157 p157_1 [rec] k (n157_1 a0 a1 a2 a3 a4 a5 a6 a7)) = G1 := funext fun a0 => funext fun a1 => funext fun a2 => funext fun a3 => funext fun a4 => funext fun a5 => funext fun a6 => funext fun a7 => h1 a0 a1 a2 a3 a4 a5 a6 a7
  kernel_rfl
theorem q157_0 (k : Nat) (n : Nat) : ∀ v : (List Bool) × Int × (List Int) × (List Bool) × (List Int) × Int, loopF (E157 k) (S157 k) Try.f157 p157_0 [] n (n157_0 v.1 v.2.1 v.2.2.1 v.2.2.2.1 v.2.2.2.2.1 v.2.2.2.2.2) = spec_l02Back.l0 k n v.1 v.2.1 v.2.2.1 v.2.2.2.1 v.2.2.2.2.1 v.2.2.2.2.2 :=
  loopF_eq (E157 k) (S157 k) Try.f157 p157_0 [] (fun v : (List Bool) × Int × (List Int) × (List Bool) × (List Int) × Int => n157_0 v.1 v.2.1 v.2.2.1 v.2.2.2.1 v.2.2.2.2.1 v.2.2.2.2.2) (fun rec v => spec_l02Back.s0 k (fun a0 a1 a2 a3 a4 a5 => rec (a0, a1, a2, a3, a4, a5)) (spec_l02Back.l1 k (fun a0 a1 a2 a3 a4 a5 => rec (a0, a1, a2, a3, a4, a5)) k) v.1 v.2.1 v.2.2.1 v.2.2.2.1 v.2.2.2.2.1 v.2.2.2.2.2) (fun n v => spec_l02Back.l0 k n v.1 v.2.1 v.2.2.1 v.2.2.2.1 v.2.2.2.2.1 v.2.2.2.2.2) (fun _ => rfl) (fun _ _ => rfl) (fun rec v => r157_0 k rec _ (fun a0 a1 a2 a3 a4 a5 a6 a7 => q157_1 k rec k (a0, a1, a2, a3, a4, a5, a6, a7)) v) n
theorem e157 (k : Nat) (x : dens (flatC (S157 k).ps)) : funK (E157 k) (S157 k) Try.f157 x = (S157 k).fn x := by
  have h : funK (E157 k) (S157 k) Try.f157 x = spec_l02Back.g k (fun a0 a1 a2 a3 a4 a5 => loopF (E157 k) (S157 k) Try.f157 p157_0 [] k (n157_0 a0 a1 a2 a3 a4 a5)) x.1 x.2.1 x.2.2 := by kernel_rfl
  rw [h]
  rw [show (fun a0 a1 a2 a3 a4 a5 => loopF (E157 k) (S157 k) Try.f157 p157_0 [] k (n157_0 a0 a1 a2 a3 a4 a5)) = spec_l02Back.l0 k k from funext fun a0 => funext fun a1 => funext fun a2 => funext fun a3 => funext fun a4 => funext fun a5 => q157_0 k k (a0, a1, a2, a3, a4, a5)]
  rfl
theorem M157 (k : Nat) : Meets Try.prog 157 (S157 k) := meets_of Try.func157 (by kernel_rfl) tbOk (orc_cons (M123 k) (orc_cons (M142 k) (orc_cons (M143 k) (orc_cons (M121 k) orc_nil)))) mixOk (fun x y h => (e157 k x).trans h) rfl

/-! spec_FewestSlots: function 51 -/
noncomputable def spec_FewestSlots.s0 (k : Nat) (r0 : (List Int) → (List Bool) → Int → Int → Option (Int × Int)) (x1_0 : List Int) (x5 : List Bool) (x6 : Int) (x7 : Int) : Option (Int × Int) := if x7 < (x5.length : Int) then (if 0 ≤ x7 then (if x7 < (x5.length : Int) then (if (rdOf false x5 x7) = true then ((spec_l02Of.f k x1_0 x7).bind fun t3 => if 0 < (t3.length : Int) then (if 0 < (x1_0.length : Int) then (if (rd t3 0) = (rd x1_0 0) then ((spec_l02Back.f k x1_0 x5 x7).bind fun t4 => if 0 < t4 then (if x6 = 0 then (r0 x1_0 x5 t4 (wrap64 (x7 + 1))) else (if t4 < x6 then (r0 x1_0 x5 t4 (wrap64 (x7 + 1))) else (r0 x1_0 x5 x6 (wrap64 (x7 + 1))))) else (r0 x1_0 x5 x6 (wrap64 (x7 + 1)))) else (r0 x1_0 x5 x6 (wrap64 (x7 + 1)))) else (none)) else (none)) else (r0 x1_0 x5 x6 (wrap64 (x7 + 1)))) else (none)) else (none)) else (some (x6, 0))
noncomputable def spec_FewestSlots.l0 (k : Nat) : Nat → (List Int) → (List Bool) → Int → Int → Option (Int × Int)
  | 0, _, _, _, _ => none
  | n + 1, x0, x1, x2, x3 => spec_FewestSlots.s0 k (spec_FewestSlots.l0 k n) x0 x1 x2 x3
noncomputable def spec_FewestSlots.g (k : Nat) (r0 : (List Int) → (List Bool) → Int → Int → Option (Int × Int)) (l0_0 : List Int) : Option (Int × Int) := (spec_l02Few.f k l0_0).bind fun t1 => if t1 = 0 then ((spec_l02Lasting.f k l0_0).bind fun t2 => if 0 ≤ (wrap64 ((t2.length : Int) - 1)) then (if (wrap64 ((t2.length : Int) - 1)) < (t2.length : Int) then (if (rdOf false t2 (wrap64 ((t2.length : Int) - 1))) = true then (r0 l0_0 t2 0 0) else (some (0, 4))) else (none)) else (none)) else (some (0, t1))
noncomputable def spec_FewestSlots.f (k : Nat) (l0_0 : List Int) : Option (Int × Int) := spec_FewestSlots.g k (spec_FewestSlots.l0 k k) l0_0
noncomputable def S51 (k : Nat) : Does := ⟨[(true, [.dat (.list (.int .i64))])], [(false, [.dat (.int .i64)]), (false, [.dat (.int .i64)])], fun x => spec_FewestSlots.f k x⟩
noncomputable def E51 (k : Nat) : En := ⟨tb, orcOf [(146, S146 k), (133, S133 k), (123, S123 k), (157, S157 k)], lvOf [(0, [(1, []), (5, []), (6, []), (7, [])])], k, 0, lvOf [], []⟩
noncomputable def n51_0 (x1_0 : List Int) (x5 : List Bool) (x6 : Int) (x7 : Int) : St := ⟨63, lookA [(1, .box 0 0), (5, .own 1), (6, .dat (.int .i64) x6), (7, .dat (.int .i64) x7)], Go.V.look [(0, .cells [.dat (.list (.int .i64)) x1_0]), (1, .flat 4 .bool x5)]⟩
def p51_0 : List Bool := [true, true, true, true, false, true, false]
theorem r51_0 (k : Nat) (rec : St → Option (Int × Int)) (v : (List Int) × (List Bool) × Int × Int) : roundF (E51 k) (S51 k) Try.f51 p51_0 [] rec (n51_0 v.1 v.2.1 v.2.2.1 v.2.2.2) = spec_FewestSlots.s0 k (fun a0 a1 a2 a3 => rec (n51_0 a0 a1 a2 a3)) v.1 v.2.1 v.2.2.1 v.2.2.2 := by
  kernel_rfl
theorem q51_0 (k : Nat) (n : Nat) : ∀ v : (List Int) × (List Bool) × Int × Int, loopF (E51 k) (S51 k) Try.f51 p51_0 [] n (n51_0 v.1 v.2.1 v.2.2.1 v.2.2.2) = spec_FewestSlots.l0 k n v.1 v.2.1 v.2.2.1 v.2.2.2 :=
  loopF_eq (E51 k) (S51 k) Try.f51 p51_0 [] (fun v : (List Int) × (List Bool) × Int × Int => n51_0 v.1 v.2.1 v.2.2.1 v.2.2.2) (fun rec v => spec_FewestSlots.s0 k (fun a0 a1 a2 a3 => rec (a0, a1, a2, a3)) v.1 v.2.1 v.2.2.1 v.2.2.2) (fun n v => spec_FewestSlots.l0 k n v.1 v.2.1 v.2.2.1 v.2.2.2) (fun _ => rfl) (fun _ _ => rfl) (fun rec v => r51_0 k rec v) n
theorem e51 (k : Nat) (x : dens (flatC (S51 k).ps)) : funK (E51 k) (S51 k) Try.f51 x = (S51 k).fn x := by
  have h : funK (E51 k) (S51 k) Try.f51 x = spec_FewestSlots.g k (fun a0 a1 a2 a3 => loopF (E51 k) (S51 k) Try.f51 p51_0 [] k (n51_0 a0 a1 a2 a3)) x := by kernel_rfl
  rw [h]
  rw [show (fun a0 a1 a2 a3 => loopF (E51 k) (S51 k) Try.f51 p51_0 [] k (n51_0 a0 a1 a2 a3)) = spec_FewestSlots.l0 k k from funext fun a0 => funext fun a1 => funext fun a2 => funext fun a3 => q51_0 k k (a0, a1, a2, a3)]
  rfl
theorem M51 (k : Nat) : Meets Try.prog 51 (S51 k) := meets_of Try.func51 (by kernel_rfl) tbOk (orc_cons (M146 k) (orc_cons (M133 k) (orc_cons (M123 k) (orc_cons (M157 k) orc_nil)))) mixOk (fun x y h => (e51 k x).trans h) rfl

/-! impl_Tasks_isState: function 128 -/
noncomputable def impl_Tasks_isState.s0 (k : Nat) (r0 : (List Int) → (List Int) → Int → Int → Option (Bool)) (x2_0 : List Int) (x12 : List Int) (x13 : Int) (x14 : Int) : Option (Bool) := if x14 < x13 then (if 0 ≤ x14 then (if x14 < (x12.length : Int) then (if 0 ≤ x14 then (if x14 < (x2_0.length : Int) then ((impl_within.f (rd x12 x14) 1 (rd x2_0 x14)).bind fun t3 => if t3 = true then (r0 x2_0 x12 x13 (wrap64 (x14 + 1))) else (some false)) else (none)) else (none)) else (none)) else (none)) else (some true)
noncomputable def impl_Tasks_isState.l0 (k : Nat) : Nat → (List Int) → (List Int) → Int → Int → Option (Bool)
  | 0, _, _, _, _ => none
  | n + 1, x0, x1, x2, x3 => impl_Tasks_isState.s0 k (impl_Tasks_isState.l0 k n) x0 x1 x2 x3
noncomputable def impl_Tasks_isState.g (k : Nat) (r0 : (List Int) → (List Int) → Int → Int → Option (Bool)) (l0_0 : List Int) (l1 : List Int) : Option (Bool) := (impl_length_int64.f l1).bind fun t1 => (impl_Tasks_many.f l0_0).bind fun t2 => if t1 = t2 then (r0 l0_0 l1 (l1.length : Int) 0) else (some false)
noncomputable def impl_Tasks_isState.f (k : Nat) (l0_0 : List Int) (l1 : List Int) : Option (Bool) := impl_Tasks_isState.g k (impl_Tasks_isState.l0 k k) l0_0 l1
noncomputable def S128 (k : Nat) : Does := ⟨[(true, [.dat (.list (.int .i64))]), (false, [.dat (.list (.int .i64))])], [(false, [.dat .bool])], fun x => impl_Tasks_isState.f k x.1 x.2⟩
noncomputable def E128 (k : Nat) : En := ⟨tb, orcOf [(149, S149 k), (197, S197 k), (108, S108 k)], lvOf [(0, [(2, []), (12, []), (13, []), (14, [])])], k, 0, lvOf [], []⟩
noncomputable def n128_0 (x2_0 : List Int) (x12 : List Int) (x13 : Int) (x14 : Int) : St := ⟨28, lookA [(2, .box 0 0), (12, .dat (.list (.int .i64)) x12), (13, .dat (.int .i64) x13), (14, .dat (.int .i64) x14)], Go.V.look [(0, .cells [.dat (.list (.int .i64)) x2_0])]⟩
def p128_0 : List Bool := [true, true, false, true, false]
theorem r128_0 (k : Nat) (rec : St → Option (Bool)) (v : (List Int) × (List Int) × Int × Int) : roundF (E128 k) (S128 k) Try.f128 p128_0 [] rec (n128_0 v.1 v.2.1 v.2.2.1 v.2.2.2) = impl_Tasks_isState.s0 k (fun a0 a1 a2 a3 => rec (n128_0 a0 a1 a2 a3)) v.1 v.2.1 v.2.2.1 v.2.2.2 := by
  kernel_rfl
theorem q128_0 (k : Nat) (n : Nat) : ∀ v : (List Int) × (List Int) × Int × Int, loopF (E128 k) (S128 k) Try.f128 p128_0 [] n (n128_0 v.1 v.2.1 v.2.2.1 v.2.2.2) = impl_Tasks_isState.l0 k n v.1 v.2.1 v.2.2.1 v.2.2.2 :=
  loopF_eq (E128 k) (S128 k) Try.f128 p128_0 [] (fun v : (List Int) × (List Int) × Int × Int => n128_0 v.1 v.2.1 v.2.2.1 v.2.2.2) (fun rec v => impl_Tasks_isState.s0 k (fun a0 a1 a2 a3 => rec (a0, a1, a2, a3)) v.1 v.2.1 v.2.2.1 v.2.2.2) (fun n v => impl_Tasks_isState.l0 k n v.1 v.2.1 v.2.2.1 v.2.2.2) (fun _ => rfl) (fun _ _ => rfl) (fun rec v => r128_0 k rec v) n
theorem e128 (k : Nat) (x : dens (flatC (S128 k).ps)) : funK (E128 k) (S128 k) Try.f128 x = (S128 k).fn x := by
  have h : funK (E128 k) (S128 k) Try.f128 x = impl_Tasks_isState.g k (fun a0 a1 a2 a3 => loopF (E128 k) (S128 k) Try.f128 p128_0 [] k (n128_0 a0 a1 a2 a3)) x.1 x.2 := by kernel_rfl
  rw [h]
  rw [show (fun a0 a1 a2 a3 => loopF (E128 k) (S128 k) Try.f128 p128_0 [] k (n128_0 a0 a1 a2 a3)) = impl_Tasks_isState.l0 k k from funext fun a0 => funext fun a1 => funext fun a2 => funext fun a3 => q128_0 k k (a0, a1, a2, a3)]
  rfl
theorem M128 (k : Nat) : Meets Try.prog 128 (S128 k) := meets_of Try.func128 (by kernel_rfl) tbOk (orc_cons (M149 k) (orc_cons (M197 k) (orc_cons (M108 k) orc_nil))) mixOk (fun x y h => (e128 k x).trans h) rfl

/-! impl_IsLasting: function 33 -/
noncomputable def impl_IsLasting.f (k : Nat) (l0_0 : List Int) (l1 : List Int) : Option (Bool × Int) := (impl_Tasks_isState.f k l0_0 l1).bind fun t1 => (impl_statesCode.f k l0_0 t1).bind fun t2 => if t2 = 0 then ((impl_graphOf.f k l0_0).bind fun t3 => (impl_Tasks_number.f k l0_0 l1).bind fun t4 => if 0 ≤ t4 then (if t4 < (t3.2.2.length : Int) then (some ((rdOf false t3.2.2 t4), 0)) else (none)) else (none)) else (some (false, t2))
noncomputable def S33 (k : Nat) : Does := ⟨[(true, [.dat (.list (.int .i64))]), (false, [.dat (.list (.int .i64))])], [(false, [.dat .bool]), (false, [.dat (.int .i64)])], fun x => impl_IsLasting.f k x.1 x.2⟩
noncomputable def E33 (k : Nat) : En := ⟨tb, orcOf [(128, S128 k), (115, S115 k), (129, S129 k), (130, S130 k)], lvOf [], k, 0, lvOf [], []⟩
theorem e33 (k : Nat) (x : dens (flatC (S33 k).ps)) : funK (E33 k) (S33 k) Try.f33 x = (S33 k).fn x := by
  kernel_rfl
theorem M33 (k : Nat) : Meets Try.prog 33 (S33 k) := meets_of Try.func33 (by kernel_rfl) tbOk (orc_cons (M128 k) (orc_cons (M115 k) (orc_cons (M129 k) (orc_cons (M130 k) orc_nil)))) mixOk (fun x y h => (e33 k x).trans h) rfl

/-! impl_CanServe: function 46 -/
noncomputable def impl_CanServe.f (k : Nat) (l0_0 : List Int) : Option (Bool × Int) := (impl_IsLasting.f k l0_0 l0_0).bind fun t1 => some (t1.1, t1.2)
noncomputable def S46 (k : Nat) : Does := ⟨[(true, [.dat (.list (.int .i64))])], [(false, [.dat .bool]), (false, [.dat (.int .i64)])], fun x => impl_CanServe.f k x⟩
noncomputable def E46 (k : Nat) : En := ⟨tb, orcOf [(33, S33 k)], lvOf [], k, 0, lvOf [], []⟩
theorem e46 (k : Nat) (x : dens (flatC (S46 k).ps)) : funK (E46 k) (S46 k) Try.f46 x = (S46 k).fn x := by
  kernel_rfl
theorem M46 (k : Nat) : Meets Try.prog 46 (S46 k) := meets_of Try.func46 (by kernel_rfl) tbOk (orc_cons (M33 k) orc_nil) mixOk (fun x y h => (e46 k x).trans h) rfl

/-! spec_l02Can: function 158 -/
noncomputable def spec_l02Can.f (k : Nat) (l0_0 : List Int) : Option (Bool) := (spec_l02Lasting.f k l0_0).bind fun t1 => (spec_l02Count.f k l0_0).bind fun t2 => if 0 ≤ (wrap64 (t2 - 1)) then (if (wrap64 (t2 - 1)) < (t1.length : Int) then (some (rdOf false t1 (wrap64 (t2 - 1)))) else (none)) else (none)
noncomputable def S158 (k : Nat) : Does := ⟨[(true, [.dat (.list (.int .i64))])], [(false, [.dat .bool])], fun x => spec_l02Can.f k x⟩
noncomputable def E158 (k : Nat) : En := ⟨tb, orcOf [(133, S133 k), (113, S113 k)], lvOf [], k, 0, lvOf [], []⟩
theorem e158 (k : Nat) (x : dens (flatC (S158 k).ps)) : funK (E158 k) (S158 k) Try.f158 x = (S158 k).fn x := by
  kernel_rfl
theorem M158 (k : Nat) : Meets Try.prog 158 (S158 k) := meets_of Try.func158 (by kernel_rfl) tbOk (orc_cons (M133 k) (orc_cons (M113 k) orc_nil)) mixOk (fun x y h => (e158 k x).trans h) rfl

/-! spec_CanServe: function 52 -/
noncomputable def spec_CanServe.f (k : Nat) (l0_0 : List Int) : Option (Bool × Int) := (spec_l02Few.f k l0_0).bind fun t1 => if t1 = 0 then ((spec_l02Can.f k l0_0).bind fun t2 => some (t2, 0)) else (some (false, t1))
noncomputable def S52 (k : Nat) : Does := ⟨[(true, [.dat (.list (.int .i64))])], [(false, [.dat .bool]), (false, [.dat (.int .i64)])], fun x => spec_CanServe.f k x⟩
noncomputable def E52 (k : Nat) : En := ⟨tb, orcOf [(146, S146 k), (158, S158 k)], lvOf [], k, 0, lvOf [], []⟩
theorem e52 (k : Nat) (x : dens (flatC (S52 k).ps)) : funK (E52 k) (S52 k) Try.f52 x = (S52 k).fn x := by
  kernel_rfl
theorem M52 (k : Nat) : Meets Try.prog 52 (S52 k) := meets_of Try.func52 (by kernel_rfl) tbOk (orc_cons (M146 k) (orc_cons (M158 k) orc_nil)) mixOk (fun x y h => (e52 k x).trans h) rfl

/-! spec_l01Near: function 137 -/
noncomputable def spec_l01Near.f (a0 : (List Int) × Int × Int) (a1 : Int) : Option (Int × ((List Int) × Int × Int)) := (spec_l01Next.f (a0.1, a0.2.1, a0.2.2) 14).bind fun t1 => if t1.1 = 0 then ((spec_l01Pick.f (t1.2.1, t1.2.2.1, t1.2.2.2) [(-1), (wrap64 (a1 + 1)), 1099511627776, (-4611686018427387904)]).bind fun t2 => some (t2.1, t2.2.1, t2.2.2.1, t2.2.2.2)) else ((spec_l01Next.f (t1.2.1, t1.2.2.1, t1.2.2.2) (wrap64 (a1 + 1))).bind fun t3 => some (t3.1, t3.2.1, t3.2.2.1, t3.2.2.2))
noncomputable def S137 (k : Nat) : Does := ⟨[(false, [.cel (.struct (.pair (.list (.int .u8)) (.pair (.int .i64) (.int .u64))))]), (false, [.dat (.int .i64)])], [(false, [.dat (.int .i64)])], fun x => spec_l01Near.f x.1 x.2⟩
noncomputable def E137 (k : Nat) : En := ⟨tb, orcOf [(147, S147 k), (136, S136 k)], lvOf [], k, 1, lvOf [], []⟩
theorem e137 (k : Nat) (x : dens (flatC (S137 k).ps)) : funK (E137 k) (S137 k) Try.f137 x = (S137 k).fn x := by
  kernel_rfl
theorem M137 (k : Nat) : Meets Try.prog 137 (S137 k) := meets_of Try.func137 (by kernel_rfl) tbOk (orc_cons (M147 k) (orc_cons (M136 k) orc_nil)) mixOk (fun x y h => (e137 k x).trans h) rfl

/-! spec_DrawLeastGap: function 53 -/
noncomputable def spec_DrawLeastGap.f (k : Nat) (l0 : List Int) : Option ((List Int) × Int) := (spec_l01From.f k l0).bind fun t1 => (spec_l02Draw.f k l0).bind fun t2 => (spec_l01Near.f (t1.1, t1.2.1, t1.2.2) (maxV (wrap64 ((t2.length : Int) - 1)) 0)).bind fun t3 => some (t2, t3.1)
noncomputable def S53 (k : Nat) : Does := ⟨[(false, [.dat (.list (.int .u8))])], [(true, [.dat (.list (.int .i64))]), (false, [.dat (.int .i64)])], fun x => spec_DrawLeastGap.f k x⟩
noncomputable def E53 (k : Nat) : En := ⟨tb, orcOf [(135, S135 k), (145, S145 k), (137, S137 k)], lvOf [], k, 0, lvOf [], [1073938944]⟩
theorem e53 (k : Nat) (x : dens (flatC (S53 k).ps)) : funK (E53 k) (S53 k) Try.f53 x = (S53 k).fn x := by
  kernel_rfl
theorem M53 (k : Nat) : Meets Try.prog 53 (S53 k) := meets_of Try.func53 (by kernel_rfl) tbOk (orc_cons (M135 k) (orc_cons (M145 k) (orc_cons (M137 k) orc_nil))) mixOk (fun x y h => (e53 k x).trans h) rfl

/-! impl_Tasks_isTask: function 159 -/
noncomputable def impl_Tasks_isTask.f (l0_0 : List Int) (a1 : Int) : Option (Bool) := (impl_Tasks_many.f l0_0).bind fun t1 => (impl_within.f a1 0 (wrap64 (t1 - 1))).bind fun t2 => some t2
noncomputable def S159 (k : Nat) : Does := ⟨[(true, [.dat (.list (.int .i64))]), (false, [.dat (.int .i64)])], [(false, [.dat .bool])], fun x => impl_Tasks_isTask.f x.1 x.2⟩
noncomputable def E159 (k : Nat) : En := ⟨tb, orcOf [(197, S197 k), (108, S108 k)], lvOf [], k, 0, lvOf [], []⟩
theorem e159 (k : Nat) (x : dens (flatC (S159 k).ps)) : funK (E159 k) (S159 k) Try.f159 x = (S159 k).fn x := by
  kernel_rfl
theorem M159 (k : Nat) : Meets Try.prog 159 (S159 k) := meets_of Try.func159 (by kernel_rfl) tbOk (orc_cons (M197 k) (orc_cons (M108 k) orc_nil)) mixOk (fun x y h => (e159 k x).trans h) rfl

/-! impl_LeastGap: function 54 -/
noncomputable def impl_LeastGap.s0 (k : Nat) (r0 : Int → (List Int) → Option (Int × Int)) (x1 : Int) (x8_0 : List Int) : Option (Int × Int) := (impl_CanServe.f k x8_0).bind fun t4 => if t4.1 = true then (if 0 ≤ x1 then (if x1 < (x8_0.length : Int) then (some ((rd x8_0 x1), 0)) else (none)) else (none)) else (if 0 ≤ x1 then (if x1 < (x8_0.length : Int) then (if 0 ≤ x1 then (if x1 < (x8_0.length : Int) then (r0 x1 (x8_0.set x1.toNat (wrap64 ((rd x8_0 x1) + 1)))) else (none)) else (none)) else (none)) else (none))
noncomputable def impl_LeastGap.l0 (k : Nat) : Nat → Int → (List Int) → Option (Int × Int)
  | 0, _, _ => none
  | n + 1, x0, x1 => impl_LeastGap.s0 k (impl_LeastGap.l0 k n) x0 x1
noncomputable def impl_LeastGap.g (k : Nat) (r0 : Int → (List Int) → Option (Int × Int)) (l0_0 : List Int) (a1 : Int) : Option (Int × Int) := (impl_Tasks_isTask.f l0_0 a1).bind fun t1 => (impl_servable.f k l0_0 t1).bind fun t2 => if t2.2 = 0 then ((slices_Clone_int64_int64.f l0_0).bind fun t3 => if 0 ≤ a1 then (if a1 < (t3.length : Int) then (r0 a1 (t3.set a1.toNat 1)) else (none)) else (none)) else (some (0, t2.2))
noncomputable def impl_LeastGap.f (k : Nat) (l0_0 : List Int) (a1 : Int) : Option (Int × Int) := impl_LeastGap.g k (impl_LeastGap.l0 k k) l0_0 a1
noncomputable def S54 (k : Nat) : Does := ⟨[(true, [.dat (.list (.int .i64))]), (false, [.dat (.int .i64)])], [(false, [.dat (.int .i64)]), (false, [.dat (.int .i64)])], fun x => impl_LeastGap.f k x.1 x.2⟩
noncomputable def E54 (k : Nat) : En := ⟨tb, orcOf [(159, S159 k), (151, S151 k), (125, S125 k), (46, S46 k)], lvOf [(0, [(1, []), (8, [])])], k, 0, lvOf [], []⟩
noncomputable def n54_0 (x1 : Int) (x8_0 : List Int) : St := ⟨48, lookA [(1, .dat (.int .i64) x1), (8, .box 0 0)], Go.V.look [(0, .cells [.own 1]), (1, .flat 2 (.int .i64) x8_0)]⟩
def p54_0 : List Bool := [true, true, true, true, false]
theorem r54_0 (k : Nat) (rec : St → Option (Int × Int)) (v : Int × (List Int)) : roundF (E54 k) (S54 k) Try.f54 p54_0 [] rec (n54_0 v.1 v.2) = impl_LeastGap.s0 k (fun a0 a1 => rec (n54_0 a0 a1)) v.1 v.2 := by
  kernel_rfl
theorem q54_0 (k : Nat) (n : Nat) : ∀ v : Int × (List Int), loopF (E54 k) (S54 k) Try.f54 p54_0 [] n (n54_0 v.1 v.2) = impl_LeastGap.l0 k n v.1 v.2 :=
  loopF_eq (E54 k) (S54 k) Try.f54 p54_0 [] (fun v : Int × (List Int) => n54_0 v.1 v.2) (fun rec v => impl_LeastGap.s0 k (fun a0 a1 => rec (a0, a1)) v.1 v.2) (fun n v => impl_LeastGap.l0 k n v.1 v.2) (fun _ => rfl) (fun _ _ => rfl) (fun rec v => r54_0 k rec v) n
theorem e54 (k : Nat) (x : dens (flatC (S54 k).ps)) : funK (E54 k) (S54 k) Try.f54 x = (S54 k).fn x := by
  have h : funK (E54 k) (S54 k) Try.f54 x = impl_LeastGap.g k (fun a0 a1 => loopF (E54 k) (S54 k) Try.f54 p54_0 [] k (n54_0 a0 a1)) x.1 x.2 := by kernel_rfl
  rw [h]
  rw [show (fun a0 a1 => loopF (E54 k) (S54 k) Try.f54 p54_0 [] k (n54_0 a0 a1)) = impl_LeastGap.l0 k k from funext fun a0 => funext fun a1 => q54_0 k k (a0, a1)]
  rfl
theorem M54 (k : Nat) : Meets Try.prog 54 (S54 k) := meets_of Try.func54 (by kernel_rfl) tbOk (orc_cons (M159 k) (orc_cons (M151 k) (orc_cons (M125 k) (orc_cons (M46 k) orc_nil)))) mixOk (fun x y h => (e54 k x).trans h) rfl

/-! spec_LeastGap: function 55 -/
noncomputable def spec_LeastGap.s0 (k : Nat) (r0 : Int → (List Int) → Option (Int × Int)) (x1 : Int) (x7 : List Int) : Option (Int × Int) := if 0 ≤ x1 then (if x1 < (x7.length : Int) then (if 1 < (rd x7 x1) then (if 0 ≤ x1 then (if x1 < (x7.length : Int) then (if 0 ≤ x1 then (if x1 < (x7.length : Int) then ((spec_l02Can.f k (x7.set x1.toNat (wrap64 ((rd x7 x1) - 1)))).bind fun t7 => if t7 = true then (r0 x1 (x7.set x1.toNat (wrap64 ((rd x7 x1) - 1)))) else (if 0 ≤ x1 then (if x1 < ((x7.set x1.toNat (wrap64 ((rd x7 x1) - 1))).length : Int) then (some ((wrap64 ((rd (x7.set x1.toNat (wrap64 ((rd x7 x1) - 1))) x1) + 1)), 0)) else (none)) else (none))) else (none)) else (none)) else (none)) else (none)) else (some (1, 0))) else (none)) else (none)
noncomputable def spec_LeastGap.l0 (k : Nat) : Nat → Int → (List Int) → Option (Int × Int)
  | 0, _, _ => none
  | n + 1, x0, x1 => spec_LeastGap.s0 k (spec_LeastGap.l0 k n) x0 x1
noncomputable def spec_LeastGap.g (k : Nat) (r0 : Int → (List Int) → Option (Int × Int)) (l0_0 : List Int) (a1 : Int) : Option (Int × Int) := (spec_l01Is.f k l0_0).bind fun t1 => if t1 = true then ((spec_l01K.f l0_0).bind fun t2 => (spec_l01In.f a1 0 (wrap64 (t2 - 1))).bind fun t3 => if t3 = true then ((spec_l02Few.f k l0_0).bind fun t4 => if t4 = 0 then ((spec_l02Can.f k l0_0).bind fun t5 => if t5 = true then ((spec_l01Own.f l0_0).bind fun t6 => r0 a1 t6) else (some (0, 4))) else (some (0, t4))) else (some (0, 2))) else (some (0, 1))
noncomputable def spec_LeastGap.f (k : Nat) (l0_0 : List Int) (a1 : Int) : Option (Int × Int) := spec_LeastGap.g k (spec_LeastGap.l0 k k) l0_0 a1
noncomputable def S55 (k : Nat) : Does := ⟨[(true, [.dat (.list (.int .i64))]), (false, [.dat (.int .i64)])], [(false, [.dat (.int .i64)]), (false, [.dat (.int .i64)])], fun x => spec_LeastGap.f k x.1 x.2⟩
noncomputable def E55 (k : Nat) : En := ⟨tb, orcOf [(144, S144 k), (142, S142 k), (102, S102 k), (146, S146 k), (158, S158 k), (120, S120 k)], lvOf [(0, [(1, []), (7, [])])], k, 0, lvOf [], []⟩
noncomputable def n55_0 (x1 : Int) (x7 : List Int) : St := ⟨48, lookA [(1, .dat (.int .i64) x1), (7, .own 0)], Go.V.look [(0, .flat 2 (.int .i64) x7)]⟩
def p55_0 : List Bool := [true, true, true, true, true, true, false, false]
theorem r55_0 (k : Nat) (rec : St → Option (Int × Int)) (v : Int × (List Int)) : roundF (E55 k) (S55 k) Try.f55 p55_0 [] rec (n55_0 v.1 v.2) = spec_LeastGap.s0 k (fun a0 a1 => rec (n55_0 a0 a1)) v.1 v.2 := by
  kernel_rfl
theorem q55_0 (k : Nat) (n : Nat) : ∀ v : Int × (List Int), loopF (E55 k) (S55 k) Try.f55 p55_0 [] n (n55_0 v.1 v.2) = spec_LeastGap.l0 k n v.1 v.2 :=
  loopF_eq (E55 k) (S55 k) Try.f55 p55_0 [] (fun v : Int × (List Int) => n55_0 v.1 v.2) (fun rec v => spec_LeastGap.s0 k (fun a0 a1 => rec (a0, a1)) v.1 v.2) (fun n v => spec_LeastGap.l0 k n v.1 v.2) (fun _ => rfl) (fun _ _ => rfl) (fun rec v => r55_0 k rec v) n
theorem e55 (k : Nat) (x : dens (flatC (S55 k).ps)) : funK (E55 k) (S55 k) Try.f55 x = (S55 k).fn x := by
  have h : funK (E55 k) (S55 k) Try.f55 x = spec_LeastGap.g k (fun a0 a1 => loopF (E55 k) (S55 k) Try.f55 p55_0 [] k (n55_0 a0 a1)) x.1 x.2 := by kernel_rfl
  rw [h]
  rw [show (fun a0 a1 => loopF (E55 k) (S55 k) Try.f55 p55_0 [] k (n55_0 a0 a1)) = spec_LeastGap.l0 k k from funext fun a0 => funext fun a1 => q55_0 k k (a0, a1)]
  rfl
theorem M55 (k : Nat) : Meets Try.prog 55 (S55 k) := meets_of Try.func55 (by kernel_rfl) tbOk (orc_cons (M144 k) (orc_cons (M142 k) (orc_cons (M102 k) (orc_cons (M146 k) (orc_cons (M158 k) (orc_cons (M120 k) orc_nil)))))) mixOk (fun x y h => (e55 k x).trans h) rfl

/-! impl_areTurns_1: function 221 -/
noncomputable def impl_areTurns_1.f (a0 : Int) (a1 : Int) : Option (Bool) := (impl_within.f a0 (-1) (wrap64 (a1 - 1))).bind fun t1 => some t1
noncomputable def S221 (k : Nat) : Does := ⟨[(false, [.dat (.int .i64)]), (false, [.dat (.ptr (.int .i64))])], [(false, [.dat .bool])], fun x => impl_areTurns_1.f x.1 x.2⟩
noncomputable def E221 (k : Nat) : En := ⟨tb, orcOf [(108, S108 k)], lvOf [], k, 0, lvOf [], []⟩
theorem e221 (k : Nat) (x : dens (flatC (S221 k).ps)) : funK (E221 k) (S221 k) Try.f221 x = (S221 k).fn x := by
  kernel_rfl
theorem M221 (k : Nat) : Meets Try.prog 221 (S221 k) := meets_of Try.func221 (by kernel_rfl) tbOk (orc_cons (M108 k) orc_nil) mixOk (fun x y h => (e221 k x).trans h) rfl

/-! impl_areAll_int64_1_impl_areTurns_1: function 217 -/
noncomputable def impl_areAll_int64_1_impl_areTurns_1.f (a0 : Int) (a1 : Int) : Option (Bool) := (impl_areTurns_1.f a0 a1).bind fun t1 => some (!decide (t1 = true))
noncomputable def S217_c221 (k : Nat) : Does := ⟨[(false, [.dat (.int .i64)]), (false, [.dat (.ptr (.clo 221 (.ptr (.int .i64))))])], [(false, [.dat .bool])], fun x => impl_areAll_int64_1_impl_areTurns_1.f x.1 x.2⟩
noncomputable def E217_c221 (k : Nat) : En := ⟨tb, orcOf [(221, S221 k)], lvOf [], k, 0, lvOf [], []⟩
theorem e217_c221 (k : Nat) (x : dens (flatC (S217_c221 k).ps)) : funK (E217_c221 k) (S217_c221 k) Try.f217 x = (S217_c221 k).fn x := by
  kernel_rfl
theorem M217_c221 (k : Nat) : Meets Try.prog 217 (S217_c221 k) := meets_of Try.func217 (by kernel_rfl) tbOk (orc_cons (M221 k) orc_nil) mixOk (fun x y h => (e217_c221 k x).trans h) rfl

/-! slices_IndexFunc_int64_int64_impl_areAll_int64_1_impl_areTurns_1: function 236 -/
noncomputable def slices_IndexFunc_int64_int64_impl_areAll_int64_1_impl_areTurns_1.s0 (k : Nat) (r0 : (List Int) → Int → Int → Int → Option (Int)) (x0 : List Int) (x1 : Int) (x7 : Int) (x8 : Int) : Option (Int) := if x8 < x7 then (if 0 ≤ x8 then (if x8 < (x0.length : Int) then ((impl_areAll_int64_1_impl_areTurns_1.f (rd x0 x8) x1).bind fun t1 => if t1 = true then (some x8) else (r0 x0 x1 x7 (wrap64 (x8 + 1)))) else (none)) else (none)) else (some (-1))
noncomputable def slices_IndexFunc_int64_int64_impl_areAll_int64_1_impl_areTurns_1.l0 (k : Nat) : Nat → (List Int) → Int → Int → Int → Option (Int)
  | 0, _, _, _, _ => none
  | n + 1, x0, x1, x2, x3 => slices_IndexFunc_int64_int64_impl_areAll_int64_1_impl_areTurns_1.s0 k (slices_IndexFunc_int64_int64_impl_areAll_int64_1_impl_areTurns_1.l0 k n) x0 x1 x2 x3
noncomputable def slices_IndexFunc_int64_int64_impl_areAll_int64_1_impl_areTurns_1.g (k : Nat) (r0 : (List Int) → Int → Int → Int → Option (Int)) (l0 : List Int) (a1 : Int) : Option (Int) := r0 l0 a1 (l0.length : Int) 0
noncomputable def slices_IndexFunc_int64_int64_impl_areAll_int64_1_impl_areTurns_1.f (k : Nat) (l0 : List Int) (a1 : Int) : Option (Int) := slices_IndexFunc_int64_int64_impl_areAll_int64_1_impl_areTurns_1.g k (slices_IndexFunc_int64_int64_impl_areAll_int64_1_impl_areTurns_1.l0 k k) l0 a1
noncomputable def S236_c217c221 (k : Nat) : Does := ⟨[(false, [.dat (.list (.int .i64))]), (false, [.dat (.clo 217 (.ptr (.clo 221 (.ptr (.int .i64)))))])], [(false, [.dat (.int .i64)])], fun x => slices_IndexFunc_int64_int64_impl_areAll_int64_1_impl_areTurns_1.f k x.1 x.2⟩
noncomputable def E236_c217c221 (k : Nat) : En := ⟨tb, orcOf [(217, S217_c221 k)], lvOf [(0, [(0, []), (1, []), (7, []), (8, [])])], k, 0, lvOf [], []⟩
noncomputable def n236_c217c221_0 (x0 : List Int) (x1 : Int) (x7 : Int) (x8 : Int) : St := ⟨19, lookA [(0, .dat (.list (.int .i64)) x0), (1, .dat (.clo 217 (.ptr (.clo 221 (.ptr (.int .i64))))) x1), (7, .dat (.int .i64) x7), (8, .dat (.int .i64) x8)], Go.V.look []⟩
def p236_c217c221_0 : List Bool := [true, false, true, false]
theorem r236_c217c221_0 (k : Nat) (rec : St → Option (Int)) (v : (List Int) × Int × Int × Int) : roundF (E236_c217c221 k) (S236_c217c221 k) Try.f236 p236_c217c221_0 [] rec (n236_c217c221_0 v.1 v.2.1 v.2.2.1 v.2.2.2) = slices_IndexFunc_int64_int64_impl_areAll_int64_1_impl_areTurns_1.s0 k (fun a0 a1 a2 a3 => rec (n236_c217c221_0 a0 a1 a2 a3)) v.1 v.2.1 v.2.2.1 v.2.2.2 := by
  kernel_rfl
theorem q236_c217c221_0 (k : Nat) (n : Nat) : ∀ v : (List Int) × Int × Int × Int, loopF (E236_c217c221 k) (S236_c217c221 k) Try.f236 p236_c217c221_0 [] n (n236_c217c221_0 v.1 v.2.1 v.2.2.1 v.2.2.2) = slices_IndexFunc_int64_int64_impl_areAll_int64_1_impl_areTurns_1.l0 k n v.1 v.2.1 v.2.2.1 v.2.2.2 :=
  loopF_eq (E236_c217c221 k) (S236_c217c221 k) Try.f236 p236_c217c221_0 [] (fun v : (List Int) × Int × Int × Int => n236_c217c221_0 v.1 v.2.1 v.2.2.1 v.2.2.2) (fun rec v => slices_IndexFunc_int64_int64_impl_areAll_int64_1_impl_areTurns_1.s0 k (fun a0 a1 a2 a3 => rec (a0, a1, a2, a3)) v.1 v.2.1 v.2.2.1 v.2.2.2) (fun n v => slices_IndexFunc_int64_int64_impl_areAll_int64_1_impl_areTurns_1.l0 k n v.1 v.2.1 v.2.2.1 v.2.2.2) (fun _ => rfl) (fun _ _ => rfl) (fun rec v => r236_c217c221_0 k rec v) n
theorem e236_c217c221 (k : Nat) (x : dens (flatC (S236_c217c221 k).ps)) : funK (E236_c217c221 k) (S236_c217c221 k) Try.f236 x = (S236_c217c221 k).fn x := by
  have h : funK (E236_c217c221 k) (S236_c217c221 k) Try.f236 x = slices_IndexFunc_int64_int64_impl_areAll_int64_1_impl_areTurns_1.g k (fun a0 a1 a2 a3 => loopF (E236_c217c221 k) (S236_c217c221 k) Try.f236 p236_c217c221_0 [] k (n236_c217c221_0 a0 a1 a2 a3)) x.1 x.2 := by kernel_rfl
  rw [h]
  rw [show (fun a0 a1 a2 a3 => loopF (E236_c217c221 k) (S236_c217c221 k) Try.f236 p236_c217c221_0 [] k (n236_c217c221_0 a0 a1 a2 a3)) = slices_IndexFunc_int64_int64_impl_areAll_int64_1_impl_areTurns_1.l0 k k from funext fun a0 => funext fun a1 => funext fun a2 => funext fun a3 => q236_c217c221_0 k k (a0, a1, a2, a3)]
  rfl
theorem M236_c217c221 (k : Nat) : Meets Try.prog 236 (S236_c217c221 k) := meets_of Try.func236 (by kernel_rfl) tbOk (orc_cons (M217_c221 k) orc_nil) mixOk (fun x y h => (e236_c217c221 k x).trans h) rfl

/-! slices_ContainsFunc_int64_int64_impl_areAll_int64_1_impl_areTurns_1: function 216 -/
noncomputable def slices_ContainsFunc_int64_int64_impl_areAll_int64_1_impl_areTurns_1.f (k : Nat) (l0 : List Int) (a1 : Int) : Option (Bool) := (slices_IndexFunc_int64_int64_impl_areAll_int64_1_impl_areTurns_1.f k l0 a1).bind fun t1 => some (decide (0 ≤ t1))
noncomputable def S216_c217c221 (k : Nat) : Does := ⟨[(false, [.dat (.list (.int .i64))]), (false, [.dat (.clo 217 (.ptr (.clo 221 (.ptr (.int .i64)))))])], [(false, [.dat .bool])], fun x => slices_ContainsFunc_int64_int64_impl_areAll_int64_1_impl_areTurns_1.f k x.1 x.2⟩
noncomputable def E216_c217c221 (k : Nat) : En := ⟨tb, orcOf [(236, S236_c217c221 k)], lvOf [], k, 0, lvOf [], []⟩
theorem e216_c217c221 (k : Nat) (x : dens (flatC (S216_c217c221 k).ps)) : funK (E216_c217c221 k) (S216_c217c221 k) Try.f216 x = (S216_c217c221 k).fn x := by
  kernel_rfl
theorem M216_c217c221 (k : Nat) : Meets Try.prog 216 (S216_c217c221 k) := meets_of Try.func216 (by kernel_rfl) tbOk (orc_cons (M236_c217c221 k) orc_nil) mixOk (fun x y h => (e216_c217c221 k x).trans h) rfl

/-! impl_areAll_int64_impl_areTurns_1: function 148 -/
noncomputable def impl_areAll_int64_impl_areTurns_1.f (k : Nat) (l0 : List Int) (a1 : Int) : Option (Bool) := (slices_ContainsFunc_int64_int64_impl_areAll_int64_1_impl_areTurns_1.f k l0 a1).bind fun t1 => some (!decide (t1 = true))
noncomputable def S148_c221 (k : Nat) : Does := ⟨[(false, [.dat (.list (.int .i64))]), (false, [.dat (.clo 221 (.ptr (.int .i64)))])], [(false, [.dat .bool])], fun x => impl_areAll_int64_impl_areTurns_1.f k x.1 x.2⟩
noncomputable def E148_c221 (k : Nat) : En := ⟨tb, orcOf [(216, S216_c217c221 k)], lvOf [], k, 0, lvOf [], []⟩
theorem e148_c221 (k : Nat) (x : dens (flatC (S148_c221 k).ps)) : funK (E148_c221 k) (S148_c221 k) Try.f148 x = (S148_c221 k).fn x := by
  kernel_rfl
theorem M148_c221 (k : Nat) : Meets Try.prog 148 (S148_c221 k) := meets_of Try.func148 (by kernel_rfl) tbOk (orc_cons (M216_c217c221 k) orc_nil) mixOk (fun x y h => (e148_c221 k x).trans h) rfl

/-! impl_areTurns: function 186 -/
noncomputable def impl_areTurns.f (k : Nat) (l0 : List Int) (a1 : Int) : Option (Bool) := (impl_length_int64.f l0).bind fun t1 => (impl_within.f t1 1 120).bind fun t2 => if t2 = true then ((impl_areAll_int64_impl_areTurns_1.f k l0 a1).bind fun t3 => some t3) else (some false)
noncomputable def S186 (k : Nat) : Does := ⟨[(false, [.dat (.list (.int .i64))]), (false, [.dat (.int .i64)])], [(false, [.dat .bool])], fun x => impl_areTurns.f k x.1 x.2⟩
noncomputable def E186 (k : Nat) : En := ⟨tb, orcOf [(149, S149 k), (108, S108 k), (148, S148_c221 k)], lvOf [], k, 0, lvOf [], []⟩
theorem e186 (k : Nat) (x : dens (flatC (S186 k).ps)) : funK (E186 k) (S186 k) Try.f186 x = (S186 k).fn x := by
  kernel_rfl
theorem M186 (k : Nat) : Meets Try.prog 186 (S186 k) := meets_of Try.func186 (by kernel_rfl) tbOk (orc_cons (M149 k) (orc_cons (M108 k) (orc_cons (M148_c221 k) orc_nil))) mixOk (fun x y h => (e186 k x).trans h) rfl

/-! impl_turnsCode: function 160 -/
noncomputable def impl_turnsCode.f (k : Nat) (l0_0 : List Int) (l1 : List Int) : Option (Int) := (impl_Tasks_many.f l0_0).bind fun t1 => (impl_areTurns.f k l1 t1).bind fun t2 => (impl_tasksCode.f k l0_0 t2).bind fun t3 => some t3
noncomputable def S160 (k : Nat) : Does := ⟨[(true, [.dat (.list (.int .i64))]), (false, [.dat (.list (.int .i64))])], [(false, [.dat (.int .i64)])], fun x => impl_turnsCode.f k x.1 x.2⟩
noncomputable def E160 (k : Nat) : En := ⟨tb, orcOf [(197, S197 k), (186, S186 k), (138, S138 k)], lvOf [], k, 0, lvOf [], []⟩
theorem e160 (k : Nat) (x : dens (flatC (S160 k).ps)) : funK (E160 k) (S160 k) Try.f160 x = (S160 k).fn x := by
  kernel_rfl
theorem M160 (k : Nat) : Meets Try.prog 160 (S160 k) := meets_of Try.func160 (by kernel_rfl) tbOk (orc_cons (M197 k) (orc_cons (M186 k) (orc_cons (M138 k) orc_nil))) mixOk (fun x y h => (e160 k x).trans h) rfl

/-! impl_waits: function 200 -/
noncomputable def impl_waits.s1 (k : Nat) (r1 : (List Int) → (List Int) → (List Int) → Int → Int → Option ((List Int))) (x0 : List Int) (x5 : List Int) (x6 : List Int) (x27 : Int) (x28 : Int) : Option ((List Int)) := if x28 < x27 then (if 0 ≤ x28 then (if x28 < (x5.length : Int) then (if (wrap64 (x28 + 1)) < (x5.length : Int) then (if 0 ≤ (wrap64 (x28 + 1)) then (if (wrap64 (x28 + 1)) < (x5.length : Int) then (if x6.length + 1 ≤ 1099511627776 then (r1 x0 x5 (x6 ++ [(wrap64 ((rd x5 (wrap64 (x28 + 1))) - (rd x5 x28)))]) x27 (wrap64 (x28 + 1))) else (none)) else (none)) else (none)) else (if 0 < (x5.length : Int) then ((impl_length_int64.f x0).bind fun t1 => if x6.length + 1 ≤ 1099511627776 then (r1 x0 x5 (x6 ++ [(wrap64 ((wrap64 ((rd x5 0) + t1)) - (rd x5 x28)))]) x27 (wrap64 (x28 + 1))) else (none)) else (none))) else (none)) else (none)) else (some x6)
noncomputable def impl_waits.l1 (k : Nat) : Nat → (List Int) → (List Int) → (List Int) → Int → Int → Option ((List Int))
  | 0, _, _, _, _, _ => none
  | n + 1, x0, x1, x2, x3, x4 => impl_waits.s1 k (impl_waits.l1 k n) x0 x1 x2 x3 x4
noncomputable def impl_waits.s0 (k : Nat) (r0 : (List Int) → Int → (List Int) → (List Int) → Int → Int → Option ((List Int))) (r1 : (List Int) → (List Int) → (List Int) → Int → Int → Option ((List Int))) (x0 : List Int) (x1 : Int) (x5 : List Int) (x11 : List Int) (x12 : Int) (x13 : Int) : Option ((List Int)) := if x13 < x12 then (if 0 ≤ x13 then (if x13 < (x11.length : Int) then (if (rd x11 x13) = x1 then (if x5.length + 1 ≤ 1099511627776 then (r0 x0 x1 (x5 ++ [x13]) x11 x12 (wrap64 (x13 + 1))) else (none)) else (r0 x0 x1 x5 x11 x12 (wrap64 (x13 + 1)))) else (none)) else (none)) else (r1 x0 x5 [] (x5.length : Int) 0)
noncomputable def impl_waits.l0 (k : Nat) : Nat → (List Int) → Int → (List Int) → (List Int) → Int → Int → Option ((List Int))
  | 0, _, _, _, _, _, _ => none
  | n + 1, x0, x1, x2, x3, x4, x5 => impl_waits.s0 k (impl_waits.l0 k n) (impl_waits.l1 k k) x0 x1 x2 x3 x4 x5
noncomputable def impl_waits.g (k : Nat) (r0 : (List Int) → Int → (List Int) → (List Int) → Int → Int → Option ((List Int))) (l0 : List Int) (a1 : Int) : Option ((List Int)) := r0 l0 a1 [] l0 (l0.length : Int) 0
noncomputable def impl_waits.f (k : Nat) (l0 : List Int) (a1 : Int) : Option ((List Int)) := impl_waits.g k (impl_waits.l0 k k) l0 a1
noncomputable def S200 (k : Nat) : Does := ⟨[(false, [.dat (.list (.int .i64))]), (false, [.dat (.int .i64)])], [(false, [.own 2 (.int .i64)])], fun x => impl_waits.f k x.1 x.2⟩
noncomputable def E200 (k : Nat) : En := ⟨tb, orcOf [(149, S149 k)], lvOf [(0, [(0, []), (1, []), (5, [.nil 2 (.int .i64)]), (6, []), (11, []), (12, []), (13, [])]), (2, [(0, []), (5, []), (6, [.nil 2 (.int .i64)]), (26, []), (27, []), (28, [])])], k, 0, lvOf [], []⟩
noncomputable def n200_0 (x0 : List Int) (x1 : Int) (x5 : List Int) (x11 : List Int) (x12 : Int) (x13 : Int) : St := ⟨61, lookA [(0, .dat (.list (.int .i64)) x0), (1, .dat (.int .i64) x1), (5, .own 0), (6, .nil), (11, .dat (.list (.int .i64)) x11), (12, .dat (.int .i64) x12), (13, .dat (.int .i64) x13)], Go.V.look [(0, .flat 2 (.int .i64) x5)]⟩
def p200_0 : List Bool := [true, true, false, true, false]
noncomputable def n200_1 (x0 : List Int) (x5 : List Int) (x6 : List Int) (x27 : Int) (x28 : Int) : St := ⟨61, lookA [(0, .dat (.list (.int .i64)) x0), (5, .own 0), (6, .own 1), (26, .own 0), (27, .dat (.int .i64) x27), (28, .dat (.int .i64) x28)], Go.V.look [(0, .flat 2 (.int .i64) x5), (1, .flat 2 (.int .i64) x6)]⟩
def p200_1 : List Bool := [true, true, true, false, true, false]
theorem r200_1 (k : Nat) (rec : St → Option ((List Int))) (v : (List Int) × (List Int) × (List Int) × Int × Int) : roundF (E200 k) (S200 k) Try.f200 p200_1 [] rec (n200_1 v.1 v.2.1 v.2.2.1 v.2.2.2.1 v.2.2.2.2) = impl_waits.s1 k (fun a0 a1 a2 a3 a4 => rec (n200_1 a0 a1 a2 a3 a4)) v.1 v.2.1 v.2.2.1 v.2.2.2.1 v.2.2.2.2 := by
  kernel_rfl
theorem q200_1 (k : Nat) (n : Nat) : ∀ v : (List Int) × (List Int) × (List Int) × Int × Int, loopF (E200 k) (S200 k) Try.f200 p200_1 [] n (n200_1 v.1 v.2.1 v.2.2.1 v.2.2.2.1 v.2.2.2.2) = impl_waits.l1 k n v.1 v.2.1 v.2.2.1 v.2.2.2.1 v.2.2.2.2 :=
  loopF_eq (E200 k) (S200 k) Try.f200 p200_1 [] (fun v : (List Int) × (List Int) × (List Int) × Int × Int => n200_1 v.1 v.2.1 v.2.2.1 v.2.2.2.1 v.2.2.2.2) (fun rec v => impl_waits.s1 k (fun a0 a1 a2 a3 a4 => rec (a0, a1, a2, a3, a4)) v.1 v.2.1 v.2.2.1 v.2.2.2.1 v.2.2.2.2) (fun n v => impl_waits.l1 k n v.1 v.2.1 v.2.2.1 v.2.2.2.1 v.2.2.2.2) (fun _ => rfl) (fun _ _ => rfl) (fun rec v => r200_1 k rec v) n
theorem r200_0 (k : Nat) (rec : St → Option ((List Int))) (G1 : (List Int) → (List Int) → (List Int) → Int → Int → Option ((List Int))) (h1 : ∀ a0 a1 a2 a3 a4, loopF (E200 k) (S200 k) Try.f200 p200_1 [] k (n200_1 a0 a1 a2 a3 a4) = G1 a0 a1 a2 a3 a4) (v : (List Int) × Int × (List Int) × (List Int) × Int × Int) : roundF (E200 k) (S200 k) Try.f200 p200_0 [] rec (n200_0 v.1 v.2.1 v.2.2.1 v.2.2.2.1 v.2.2.2.2.1 v.2.2.2.2.2) = impl_waits.s0 k (fun a0 a1 a2 a3 a4 a5 => rec (n200_0 a0 a1 a2 a3 a4 a5)) G1 v.1 v.2.1 v.2.2.1 v.2.2.2.1 v.2.2.2.2.1 v.2.2.2.2.2 := by
  obtain rfl : (fun a0 a1 a2 a3 a4 => loopF (E200 k) (S200 k) Try.f200 p200_1 [] k (n200_1 a0 a1 a2 a3 a4)) = G1 := funext fun a0 => funext fun a1 => funext fun a2 => funext fun a3 => funext fun a4 => h1 a0 a1 a2 a3 a4
  kernel_rfl
theorem q200_0 (k : Nat) (n : Nat) : ∀ v : (List Int) × Int × (List Int) × (List Int) × Int × Int, loopF (E200 k) (S200 k) Try.f200 p200_0 [] n (n200_0 v.1 v.2.1 v.2.2.1 v.2.2.2.1 v.2.2.2.2.1 v.2.2.2.2.2) = impl_waits.l0 k n v.1 v.2.1 v.2.2.1 v.2.2.2.1 v.2.2.2.2.1 v.2.2.2.2.2 :=
  loopF_eq (E200 k) (S200 k) Try.f200 p200_0 [] (fun v : (List Int) × Int × (List Int) × (List Int) × Int × Int => n200_0 v.1 v.2.1 v.2.2.1 v.2.2.2.1 v.2.2.2.2.1 v.2.2.2.2.2) (fun rec v => impl_waits.s0 k (fun a0 a1 a2 a3 a4 a5 => rec (a0, a1, a2, a3, a4, a5)) (impl_waits.l1 k k) v.1 v.2.1 v.2.2.1 v.2.2.2.1 v.2.2.2.2.1 v.2.2.2.2.2) (fun n v => impl_waits.l0 k n v.1 v.2.1 v.2.2.1 v.2.2.2.1 v.2.2.2.2.1 v.2.2.2.2.2) (fun _ => rfl) (fun _ _ => rfl) (fun rec v => r200_0 k rec _ (fun a0 a1 a2 a3 a4 => q200_1 k k (a0, a1, a2, a3, a4)) v) n
theorem e200 (k : Nat) (x : dens (flatC (S200 k).ps)) : funK (E200 k) (S200 k) Try.f200 x = (S200 k).fn x := by
  have h : funK (E200 k) (S200 k) Try.f200 x = impl_waits.g k (fun a0 a1 a2 a3 a4 a5 => loopF (E200 k) (S200 k) Try.f200 p200_0 [] k (n200_0 a0 a1 a2 a3 a4 a5)) x.1 x.2 := by kernel_rfl
  rw [h]
  rw [show (fun a0 a1 a2 a3 a4 a5 => loopF (E200 k) (S200 k) Try.f200 p200_0 [] k (n200_0 a0 a1 a2 a3 a4 a5)) = impl_waits.l0 k k from funext fun a0 => funext fun a1 => funext fun a2 => funext fun a3 => funext fun a4 => funext fun a5 => q200_0 k k (a0, a1, a2, a3, a4, a5)]
  rfl
theorem M200 (k : Nat) : Meets Try.prog 200 (S200 k) := meets_of Try.func200 (by kernel_rfl) tbOk (orc_cons (M149 k) orc_nil) mixOk (fun x y h => (e200 k x).trans h) rfl

/-! impl_greatest: function 199 -/
noncomputable def impl_greatest.s0 (k : Nat) (r0 : Int → (List Int) → Int → Int → Option (Int)) (x3 : Int) (x6 : List Int) (x7 : Int) (x8 : Int) : Option (Int) := if x8 < x7 then (if 0 ≤ x8 then (if x8 < (x6.length : Int) then (r0 (maxV x3 (rd x6 x8)) x6 x7 (wrap64 (x8 + 1))) else (none)) else (none)) else (some x3)
noncomputable def impl_greatest.l0 (k : Nat) : Nat → Int → (List Int) → Int → Int → Option (Int)
  | 0, _, _, _, _ => none
  | n + 1, x0, x1, x2, x3 => impl_greatest.s0 k (impl_greatest.l0 k n) x0 x1 x2 x3
noncomputable def impl_greatest.g (k : Nat) (r0 : Int → (List Int) → Int → Int → Option (Int)) (l0 : List Int) : Option (Int) := r0 0 l0 (l0.length : Int) 0
noncomputable def impl_greatest.f (k : Nat) (l0 : List Int) : Option (Int) := impl_greatest.g k (impl_greatest.l0 k k) l0
noncomputable def S199 (k : Nat) : Does := ⟨[(false, [.dat (.list (.int .i64))])], [(false, [.dat (.int .i64)])], fun x => impl_greatest.f k x⟩
noncomputable def E199 (k : Nat) : En := ⟨tb, orcOf [], lvOf [(0, [(3, []), (6, []), (7, []), (8, [])])], k, 0, lvOf [], []⟩
noncomputable def n199_0 (x3 : Int) (x6 : List Int) (x7 : Int) (x8 : Int) : St := ⟨17, lookA [(3, .dat (.int .i64) x3), (6, .dat (.list (.int .i64)) x6), (7, .dat (.int .i64) x7), (8, .dat (.int .i64) x8)], Go.V.look []⟩
def p199_0 : List Bool := [true, true, false, true, false]
theorem r199_0 (k : Nat) (rec : St → Option (Int)) (v : Int × (List Int) × Int × Int) : roundF (E199 k) (S199 k) Try.f199 p199_0 [] rec (n199_0 v.1 v.2.1 v.2.2.1 v.2.2.2) = impl_greatest.s0 k (fun a0 a1 a2 a3 => rec (n199_0 a0 a1 a2 a3)) v.1 v.2.1 v.2.2.1 v.2.2.2 := by
  kernel_rfl
theorem q199_0 (k : Nat) (n : Nat) : ∀ v : Int × (List Int) × Int × Int, loopF (E199 k) (S199 k) Try.f199 p199_0 [] n (n199_0 v.1 v.2.1 v.2.2.1 v.2.2.2) = impl_greatest.l0 k n v.1 v.2.1 v.2.2.1 v.2.2.2 :=
  loopF_eq (E199 k) (S199 k) Try.f199 p199_0 [] (fun v : Int × (List Int) × Int × Int => n199_0 v.1 v.2.1 v.2.2.1 v.2.2.2) (fun rec v => impl_greatest.s0 k (fun a0 a1 a2 a3 => rec (a0, a1, a2, a3)) v.1 v.2.1 v.2.2.1 v.2.2.2) (fun n v => impl_greatest.l0 k n v.1 v.2.1 v.2.2.1 v.2.2.2) (fun _ => rfl) (fun _ _ => rfl) (fun rec v => r199_0 k rec v) n
theorem e199 (k : Nat) (x : dens (flatC (S199 k).ps)) : funK (E199 k) (S199 k) Try.f199 x = (S199 k).fn x := by
  have h : funK (E199 k) (S199 k) Try.f199 x = impl_greatest.g k (fun a0 a1 a2 a3 => loopF (E199 k) (S199 k) Try.f199 p199_0 [] k (n199_0 a0 a1 a2 a3)) x := by kernel_rfl
  rw [h]
  rw [show (fun a0 a1 a2 a3 => loopF (E199 k) (S199 k) Try.f199 p199_0 [] k (n199_0 a0 a1 a2 a3)) = impl_greatest.l0 k k from funext fun a0 => funext fun a1 => funext fun a2 => funext fun a3 => q199_0 k k (a0, a1, a2, a3)]
  rfl
theorem M199 (k : Nat) : Meets Try.prog 199 (S199 k) := meets_of Try.func199 (by kernel_rfl) tbOk orc_nil mixOk (fun x y h => (e199 k x).trans h) rfl

/-! impl_Tasks_serves: function 161 -/
noncomputable def impl_Tasks_serves.s0 (k : Nat) (r0 : (List Int) → (List Int) → Int → Int → Option (Bool)) (x1 : List Int) (x9 : List Int) (x10 : Int) (x11 : Int) : Option (Bool) := if x11 < x10 then (if 0 ≤ x11 then (if x11 < (x9.length : Int) then ((impl_waits.f k x1 x11).bind fun t1 => if (t1.length : Int) = 0 then (some false) else ((impl_greatest.f k t1).bind fun t2 => if (rd x9 x11) < t2 then (some false) else (r0 x1 x9 x10 (wrap64 (x11 + 1))))) else (none)) else (none)) else (some true)
noncomputable def impl_Tasks_serves.l0 (k : Nat) : Nat → (List Int) → (List Int) → Int → Int → Option (Bool)
  | 0, _, _, _, _ => none
  | n + 1, x0, x1, x2, x3 => impl_Tasks_serves.s0 k (impl_Tasks_serves.l0 k n) x0 x1 x2 x3
noncomputable def impl_Tasks_serves.g (k : Nat) (r0 : (List Int) → (List Int) → Int → Int → Option (Bool)) (l0_0 : List Int) (l1 : List Int) : Option (Bool) := r0 l1 l0_0 (l0_0.length : Int) 0
noncomputable def impl_Tasks_serves.f (k : Nat) (l0_0 : List Int) (l1 : List Int) : Option (Bool) := impl_Tasks_serves.g k (impl_Tasks_serves.l0 k k) l0_0 l1
noncomputable def S161 (k : Nat) : Does := ⟨[(true, [.dat (.list (.int .i64))]), (false, [.dat (.list (.int .i64))])], [(false, [.dat .bool])], fun x => impl_Tasks_serves.f k x.1 x.2⟩
noncomputable def E161 (k : Nat) : En := ⟨tb, orcOf [(200, S200 k), (199, S199 k)], lvOf [(0, [(1, []), (9, []), (10, []), (11, [])])], k, 0, lvOf [], []⟩
noncomputable def n161_0 (x1 : List Int) (x9 : List Int) (x10 : Int) (x11 : Int) : St := ⟨29, lookA [(1, .dat (.list (.int .i64)) x1), (9, .dat (.list (.int .i64)) x9), (10, .dat (.int .i64) x10), (11, .dat (.int .i64) x11)], Go.V.look []⟩
def p161_0 : List Bool := [true, false, true, false]
theorem r161_0 (k : Nat) (rec : St → Option (Bool)) (v : (List Int) × (List Int) × Int × Int) : roundF (E161 k) (S161 k) Try.f161 p161_0 [] rec (n161_0 v.1 v.2.1 v.2.2.1 v.2.2.2) = impl_Tasks_serves.s0 k (fun a0 a1 a2 a3 => rec (n161_0 a0 a1 a2 a3)) v.1 v.2.1 v.2.2.1 v.2.2.2 := by
  kernel_rfl
theorem q161_0 (k : Nat) (n : Nat) : ∀ v : (List Int) × (List Int) × Int × Int, loopF (E161 k) (S161 k) Try.f161 p161_0 [] n (n161_0 v.1 v.2.1 v.2.2.1 v.2.2.2) = impl_Tasks_serves.l0 k n v.1 v.2.1 v.2.2.1 v.2.2.2 :=
  loopF_eq (E161 k) (S161 k) Try.f161 p161_0 [] (fun v : (List Int) × (List Int) × Int × Int => n161_0 v.1 v.2.1 v.2.2.1 v.2.2.2) (fun rec v => impl_Tasks_serves.s0 k (fun a0 a1 a2 a3 => rec (a0, a1, a2, a3)) v.1 v.2.1 v.2.2.1 v.2.2.2) (fun n v => impl_Tasks_serves.l0 k n v.1 v.2.1 v.2.2.1 v.2.2.2) (fun _ => rfl) (fun _ _ => rfl) (fun rec v => r161_0 k rec v) n
theorem e161 (k : Nat) (x : dens (flatC (S161 k).ps)) : funK (E161 k) (S161 k) Try.f161 x = (S161 k).fn x := by
  have h : funK (E161 k) (S161 k) Try.f161 x = impl_Tasks_serves.g k (fun a0 a1 a2 a3 => loopF (E161 k) (S161 k) Try.f161 p161_0 [] k (n161_0 a0 a1 a2 a3)) x.1 x.2 := by kernel_rfl
  rw [h]
  rw [show (fun a0 a1 a2 a3 => loopF (E161 k) (S161 k) Try.f161 p161_0 [] k (n161_0 a0 a1 a2 a3)) = impl_Tasks_serves.l0 k k from funext fun a0 => funext fun a1 => funext fun a2 => funext fun a3 => q161_0 k k (a0, a1, a2, a3)]
  rfl
theorem M161 (k : Nat) : Meets Try.prog 161 (S161 k) := meets_of Try.func161 (by kernel_rfl) tbOk (orc_cons (M200 k) (orc_cons (M199 k) orc_nil)) mixOk (fun x y h => (e161 k x).trans h) rfl

/-! impl_DoServe: function 56 -/
noncomputable def impl_DoServe.f (k : Nat) (l0_0 : List Int) (l1 : List Int) : Option (Bool × Int) := (impl_turnsCode.f k l0_0 l1).bind fun t1 => if t1 = 0 then ((impl_Tasks_serves.f k l0_0 l1).bind fun t2 => some (t2, 0)) else (some (false, t1))
noncomputable def S56 (k : Nat) : Does := ⟨[(true, [.dat (.list (.int .i64))]), (false, [.dat (.list (.int .i64))])], [(false, [.dat .bool]), (false, [.dat (.int .i64)])], fun x => impl_DoServe.f k x.1 x.2⟩
noncomputable def E56 (k : Nat) : En := ⟨tb, orcOf [(160, S160 k), (161, S161 k)], lvOf [], k, 0, lvOf [], []⟩
theorem e56 (k : Nat) (x : dens (flatC (S56 k).ps)) : funK (E56 k) (S56 k) Try.f56 x = (S56 k).fn x := by
  kernel_rfl
theorem M56 (k : Nat) : Meets Try.prog 56 (S56 k) := meets_of Try.func56 (by kernel_rfl) tbOk (orc_cons (M160 k) (orc_cons (M161 k) orc_nil)) mixOk (fun x y h => (e56 k x).trans h) rfl

/-! laws_FnPlays: function 8 -/
noncomputable def laws_FnPlays.f (k : Nat) (l0 : List Int) : Option (Bool) := (laws_big.f l0).bind fun t1 => if t1 = true then (some true) else ((spec_DrawLeastPlay.f k l0).bind fun t2 => (impl_LeastPlay.f k t2).bind fun t3 => (spec_LeastPlay.f k t2).bind fun t4 => if t3.2.2 = t4.2.2 then ((laws_likeInts.f k t3.1 t4.1).bind fun t5 => if t5 = true then ((laws_likeInts.f k t3.2.1 t4.2.1).bind fun t6 => if t6 = true then ((impl_FewestSlots.f k t2).bind fun t7 => (spec_FewestSlots.f k t2).bind fun t8 => if t7.2 = t8.2 then (if t7.1 = t8.1 then ((impl_CanServe.f k t2).bind fun t9 => (spec_CanServe.f k t2).bind fun t10 => if t9.2 = t10.2 then (if t9.1 = t10.1 then ((spec_DrawLeastGap.f k l0).bind fun t11 => (impl_LeastGap.f k t11.1 t11.2).bind fun t12 => (spec_LeastGap.f k t11.1 t11.2).bind fun t13 => if t12.2 = t13.2 then (if t12.1 = t13.1 then (if t12.2 = 0 then (if 0 + t11.1.length ≤ 1099511627776 then (if 0 ≤ t11.2 then (if t11.2 < (([] ++ t11.1).length : Int) then ((impl_CanServe.f k (([] ++ t11.1).set t11.2.toNat t12.1)).bind fun t14 => if t14.2 = 0 then (if t14.1 = true then (if 0 ≤ t11.2 then (if t11.2 < (t11.1.length : Int) then (if (rd t11.1 t11.2) < t12.1 then (some false) else (if 1 < t12.1 then (if 0 ≤ t11.2 then (if t11.2 < ((([] ++ t11.1).set t11.2.toNat t12.1).length : Int) then ((impl_CanServe.f k ((([] ++ t11.1).set t11.2.toNat t12.1).set t11.2.toNat (wrap64 (t12.1 - 1)))).bind fun t15 => if t15.2 = 0 then (if t15.1 = true then (some false) else (if t9.2 = 0 then (if t9.1 = (decide (t3.2.2 = 0)) then (if t9.1 = (decide (t7.2 = 0)) then (if t3.2.2 = 0 then (if (t3.2.1.length : Int) < t7.1 then (some false) else (if t7.1 < 1 then (some false) else (if (t3.2.1.length : Int) ≤ 120 then ((impl_DoServe.f k t2 t3.2.1).bind fun t16 => if t16.2 = 0 then (some t16.1) else (some false)) else (some true)))) else (some (decide ((t3.2.1.length : Int) = 0)))) else (some false)) else (some false)) else (if t3.2.2 = 0 then (if (t3.2.1.length : Int) < t7.1 then (some false) else (if t7.1 < 1 then (some false) else (if (t3.2.1.length : Int) ≤ 120 then ((impl_DoServe.f k t2 t3.2.1).bind fun t17 => if t17.2 = 0 then (some t17.1) else (some false)) else (some true)))) else (some (decide ((t3.2.1.length : Int) = 0)))))) else (some false)) else (none)) else (none)) else (if t9.2 = 0 then (if t9.1 = (decide (t3.2.2 = 0)) then (if t9.1 = (decide (t7.2 = 0)) then (if t3.2.2 = 0 then (if (t3.2.1.length : Int) < t7.1 then (some false) else (if t7.1 < 1 then (some false) else (if (t3.2.1.length : Int) ≤ 120 then ((impl_DoServe.f k t2 t3.2.1).bind fun t18 => if t18.2 = 0 then (some t18.1) else (some false)) else (some true)))) else (some (decide ((t3.2.1.length : Int) = 0)))) else (some false)) else (some false)) else (if t3.2.2 = 0 then (if (t3.2.1.length : Int) < t7.1 then (some false) else (if t7.1 < 1 then (some false) else (if (t3.2.1.length : Int) ≤ 120 then ((impl_DoServe.f k t2 t3.2.1).bind fun t19 => if t19.2 = 0 then (some t19.1) else (some false)) else (some true)))) else (some (decide ((t3.2.1.length : Int) = 0))))))) else (none)) else (none)) else (some false)) else (some false)) else (none)) else (none)) else (none)) else (if t9.2 = 0 then (if t9.1 = (decide (t3.2.2 = 0)) then (if t9.1 = (decide (t7.2 = 0)) then (if t3.2.2 = 0 then (if (t3.2.1.length : Int) < t7.1 then (some false) else (if t7.1 < 1 then (some false) else (if (t3.2.1.length : Int) ≤ 120 then ((impl_DoServe.f k t2 t3.2.1).bind fun t20 => if t20.2 = 0 then (some t20.1) else (some false)) else (some true)))) else (some (decide ((t3.2.1.length : Int) = 0)))) else (some false)) else (some false)) else (if t3.2.2 = 0 then (if (t3.2.1.length : Int) < t7.1 then (some false) else (if t7.1 < 1 then (some false) else (if (t3.2.1.length : Int) ≤ 120 then ((impl_DoServe.f k t2 t3.2.1).bind fun t21 => if t21.2 = 0 then (some t21.1) else (some false)) else (some true)))) else (some (decide ((t3.2.1.length : Int) = 0)))))) else (some false)) else (some false)) else (some false)) else (some false)) else (some false)) else (some false)) else (some false)) else (some false)) else (some false))
noncomputable def S8 (k : Nat) : Does := ⟨[(false, [.dat (.list (.int .u8))])], [(false, [.dat .bool])], fun x => laws_FnPlays.f k x⟩
noncomputable def E8 (k : Nat) : En := ⟨tb, orcOf [(28, S28 k), (47, S47 k), (48, S48 k), (49, S49 k), (32, S32 k), (50, S50 k), (51, S51 k), (46, S46 k), (52, S52 k), (53, S53 k), (54, S54 k), (55, S55 k), (56, S56 k)], lvOf [], k, 0, lvOf [], []⟩
theorem e8 (k : Nat) (x : dens (flatC (S8 k).ps)) : funK (E8 k) (S8 k) Try.f8 x = (S8 k).fn x := by
  kernel_rfl
theorem M8 (k : Nat) : Meets Try.prog 8 (S8 k) := meets_of Try.func8 (by kernel_rfl) tbOk (orc_cons (M28 k) (orc_cons (M47 k) (orc_cons (M48 k) (orc_cons (M49 k) (orc_cons (M32 k) (orc_cons (M50 k) (orc_cons (M51 k) (orc_cons (M46 k) (orc_cons (M52 k) (orc_cons (M53 k) (orc_cons (M54 k) (orc_cons (M55 k) (orc_cons (M56 k) orc_nil))))))))))))) mixOk (fun x y h => (e8 k x).trans h) rfl



end Go.Proofs.Ytcbhhbkghbnljaa.Vf
