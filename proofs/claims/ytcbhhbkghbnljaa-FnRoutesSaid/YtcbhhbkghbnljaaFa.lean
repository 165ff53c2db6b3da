/- What the functions of program, reference and laws give, as plain functions, and that they meet them (part 1). Conditions: none. Written by a program of my own (vp.py). -/
import Derived.Test.YtcbhhbkghbnljaaVc
import Derived.Test.YtcbhhbkghbnljaaProg
set_option linter.unusedVariables false
set_option maxRecDepth 100000
namespace Go.Proofs.Ytcbhhbkghbnljaa.Vf
open Go Go.V Go.RowKit Go.Proofs
def tbl : List (Nat × TI) := [(1, ⟨.fn, 1, 8, [.nilFunc]⟩), (2, ⟨.int .i64, 1, 8, [.int .i64 0]⟩), (3, ⟨.int .i64, 1, 8, [.int .i64 0]⟩), (4, ⟨.bool, 1, 1, [.bool false]⟩), (5, ⟨.int .u8, 1, 1, [.int .u8 0]⟩), (6, ⟨.int .u8, 1, 1, [.int .u8 0]⟩), (7, ⟨.struct [(0, 2), (1, 3), (2, 4), (3, 6)], 4, 24, [.int .i64 0, .int .i64 0, .bool false, .int .u8 0]⟩), (8, ⟨.struct [(0, 2), (1, 3), (2, 4), (3, 6)], 4, 24, [.int .i64 0, .int .i64 0, .bool false, .int .u8 0]⟩), (9, ⟨.str, 1, 16, [.string ByteArray.empty]⟩), (10, ⟨.str, 1, 16, [.string ByteArray.empty]⟩), (11, ⟨.str, 1, 16, [.string ByteArray.empty]⟩), (12, ⟨.int .u64, 1, 8, [.int .u64 0]⟩), (13, ⟨.struct [(0, 9), (1, 12)], 2, 24, [.string ByteArray.empty, .int .u64 0]⟩), (14, ⟨.struct [(0, 9), (1, 12)], 2, 24, [.string ByteArray.empty, .int .u64 0]⟩), (15, ⟨.ptr 212, 1, 8, [.pointer none]⟩), (16, ⟨.ptr 215, 1, 8, [.pointer none]⟩), (17, ⟨.ptr 224, 1, 8, [.pointer none]⟩), (18, ⟨.struct [(0, 17)], 1, 8, [.pointer none]⟩), (19, ⟨.struct [(0, 17)], 1, 8, [.pointer none]⟩), (21, ⟨.int .i32, 1, 4, [.int .i32 0]⟩), (22, ⟨.struct [(0, 2), (1, 2)], 2, 16, [.int .i64 0, .int .i64 0]⟩), (23, ⟨.struct [(0, 2), (1, 2)], 2, 16, [.int .i64 0, .int .i64 0]⟩), (25, ⟨.fn, 1, 8, [.nilFunc]⟩), (26, ⟨.struct [(0, 2), (1, 2)], 2, 16, [.int .i64 0, .int .i64 0]⟩), (27, ⟨.fn, 1, 8, [.nilFunc]⟩), (28, ⟨.fn, 1, 8, [.nilFunc]⟩), (29, ⟨.slice 2, 1, 24, [.slice none 0 0]⟩), (30, ⟨.struct [(0, 29)], 1, 24, [.slice none 0 0]⟩), (31, ⟨.struct [(0, 29)], 1, 24, [.slice none 0 0]⟩), (32, ⟨.fn, 1, 8, [.nilFunc]⟩), (34, ⟨.fn, 1, 8, [.nilFunc]⟩), (35, ⟨.struct [(0, 29)], 1, 24, [.slice none 0 0]⟩), (36, ⟨.fn, 1, 8, [.nilFunc]⟩), (37, ⟨.fn, 1, 8, [.nilFunc]⟩), (38, ⟨.fn, 1, 8, [.nilFunc]⟩), (39, ⟨.fn, 1, 8, [.nilFunc]⟩), (40, ⟨.fn, 1, 8, [.nilFunc]⟩), (42, ⟨.fn, 1, 8, [.nilFunc]⟩), (43, ⟨.fn, 1, 8, [.nilFunc]⟩), (44, ⟨.fn, 1, 8, [.nilFunc]⟩), (45, ⟨.fn, 1, 8, [.nilFunc]⟩), (46, ⟨.slice 5, 1, 24, [.slice none 0 0]⟩), (47, ⟨.fn, 1, 8, [.nilFunc]⟩), (49, ⟨.fn, 1, 8, [.nilFunc]⟩), (51, ⟨.fn, 1, 8, [.nilFunc]⟩), (52, ⟨.fn, 1, 8, [.nilFunc]⟩), (54, ⟨.fn, 1, 8, [.nilFunc]⟩), (55, ⟨.fn, 1, 8, [.nilFunc]⟩), (56, ⟨.fn, 1, 8, [.nilFunc]⟩), (58, ⟨.fn, 1, 8, [.nilFunc]⟩), (59, ⟨.fn, 1, 8, [.nilFunc]⟩), (60, ⟨.fn, 1, 8, [.nilFunc]⟩), (61, ⟨.fn, 1, 8, [.nilFunc]⟩), (63, ⟨.fn, 1, 8, [.nilFunc]⟩), (64, ⟨.fn, 1, 8, [.nilFunc]⟩), (65, ⟨.fn, 1, 8, [.nilFunc]⟩), (67, ⟨.fn, 1, 8, [.nilFunc]⟩), (68, ⟨.fn, 1, 8, [.nilFunc]⟩), (69, ⟨.fn, 1, 8, [.nilFunc]⟩), (70, ⟨.fn, 1, 8, [.nilFunc]⟩), (71, ⟨.fn, 1, 8, [.nilFunc]⟩), (72, ⟨.fn, 1, 8, [.nilFunc]⟩), (74, ⟨.fn, 1, 8, [.nilFunc]⟩), (76, ⟨.fn, 1, 8, [.nilFunc]⟩), (77, ⟨.fn, 1, 8, [.nilFunc]⟩), (78, ⟨.fn, 1, 8, [.nilFunc]⟩), (79, ⟨.fn, 1, 8, [.nilFunc]⟩), (80, ⟨.fn, 1, 8, [.nilFunc]⟩), (81, ⟨.fn, 1, 8, [.nilFunc]⟩), (83, ⟨.fn, 1, 8, [.nilFunc]⟩), (85, ⟨.fn, 1, 8, [.nilFunc]⟩), (86, ⟨.slice 29, 1, 24, [.slice none 0 0]⟩), (88, ⟨.fn, 1, 8, [.nilFunc]⟩), (89, ⟨.fn, 1, 8, [.nilFunc]⟩), (91, ⟨.fn, 1, 8, [.nilFunc]⟩), (92, ⟨.fn, 1, 8, [.nilFunc]⟩), (94, ⟨.fn, 1, 8, [.nilFunc]⟩), (95, ⟨.fn, 1, 8, [.nilFunc]⟩), (96, ⟨.fn, 1, 8, [.nilFunc]⟩), (97, ⟨.fn, 1, 8, [.nilFunc]⟩), (98, ⟨.fn, 1, 8, [.nilFunc]⟩), (99, ⟨.fn, 1, 8, [.nilFunc]⟩), (100, ⟨.fn, 1, 8, [.nilFunc]⟩), (101, ⟨.slice 4, 1, 24, [.slice none 0 0]⟩), (102, ⟨.fn, 1, 8, [.nilFunc]⟩), (103, ⟨.fn, 1, 8, [.nilFunc]⟩), (104, ⟨.fn, 1, 8, [.nilFunc]⟩), (105, ⟨.fn, 1, 8, [.nilFunc]⟩), (106, ⟨.fn, 1, 8, [.nilFunc]⟩), (107, ⟨.fn, 1, 8, [.nilFunc]⟩), (108, ⟨.fn, 1, 8, [.nilFunc]⟩), (109, ⟨.fn, 1, 8, [.nilFunc]⟩), (110, ⟨.fn, 1, 8, [.nilFunc]⟩), (111, ⟨.ptr 188, 1, 8, [.pointer none]⟩), (112, ⟨.fn, 1, 8, [.nilFunc]⟩), (113, ⟨.fn, 1, 8, [.nilFunc]⟩), (114, ⟨.fn, 1, 8, [.nilFunc]⟩), (115, ⟨.fn, 1, 8, [.nilFunc]⟩), (117, ⟨.fn, 1, 8, [.nilFunc]⟩), (118, ⟨.map 2 3, 1, 8, [.map none]⟩), (119, ⟨.fn, 1, 8, [.nilFunc]⟩), (121, ⟨.struct [(0, 2), (1, 2)], 2, 16, [.int .i64 0, .int .i64 0]⟩), (122, ⟨.struct [(0, 2), (1, 2)], 2, 16, [.int .i64 0, .int .i64 0]⟩), (124, ⟨.fn, 1, 8, [.nilFunc]⟩), (125, ⟨.fn, 1, 8, [.nilFunc]⟩), (126, ⟨.ptr 130, 1, 8, [.pointer none]⟩), (127, ⟨.fn, 1, 8, [.nilFunc]⟩), (128, ⟨.slice 145, 1, 24, [.slice none 0 0]⟩), (129, ⟨.struct [(0, 35), (1, 128), (2, 101)], 3, 72, [.slice none 0 0, .slice none 0 0, .slice none 0 0]⟩), (130, ⟨.struct [(0, 35), (1, 128), (2, 101)], 3, 72, [.slice none 0 0, .slice none 0 0, .slice none 0 0]⟩), (131, ⟨.fn, 1, 8, [.nilFunc]⟩), (132, ⟨.fn, 1, 8, [.nilFunc]⟩), (133, ⟨.fn, 1, 8, [.nilFunc]⟩), (134, ⟨.fn, 1, 8, [.nilFunc]⟩), (135, ⟨.ptr 193, 1, 8, [.pointer none]⟩), (136, ⟨.fn, 1, 8, [.nilFunc]⟩), (137, ⟨.fn, 1, 8, [.nilFunc]⟩), (138, ⟨.fn, 1, 8, [.nilFunc]⟩), (140, ⟨.fn, 1, 8, [.nilFunc]⟩), (141, ⟨.fn, 1, 8, [.nilFunc]⟩), (142, ⟨.fn, 1, 8, [.nilFunc]⟩), (143, ⟨.fn, 1, 8, [.nilFunc]⟩), (145, ⟨.map 2 2, 1, 8, [.map none]⟩), (146, ⟨.fn, 1, 8, [.nilFunc]⟩), (148, ⟨.fn, 1, 8, [.nilFunc]⟩), (149, ⟨.fn, 1, 8, [.nilFunc]⟩), (150, ⟨.fn, 1, 8, [.nilFunc]⟩), (151, ⟨.fn, 1, 8, [.nilFunc]⟩), (152, ⟨.fn, 1, 8, [.nilFunc]⟩), (153, ⟨.fn, 1, 8, [.nilFunc]⟩), (154, ⟨.fn, 1, 8, [.nilFunc]⟩), (155, ⟨.fn, 1, 8, [.nilFunc]⟩), (156, ⟨.fn, 1, 8, [.nilFunc]⟩), (157, ⟨.fn, 1, 8, [.nilFunc]⟩), (158, ⟨.fn, 1, 8, [.nilFunc]⟩), (159, ⟨.fn, 1, 8, [.nilFunc]⟩), (160, ⟨.fn, 1, 8, [.nilFunc]⟩), (161, ⟨.fn, 1, 8, [.nilFunc]⟩), (162, ⟨.int .u64, 1, 8, [.int .u64 0]⟩), (163, ⟨.fn, 1, 8, [.nilFunc]⟩), (164, ⟨.ptr 170, 1, 8, [.pointer none]⟩), (166, ⟨.fn, 1, 8, [.nilFunc]⟩), (167, ⟨.fn, 1, 8, [.nilFunc]⟩), (168, ⟨.fn, 1, 8, [.nilFunc]⟩), (169, ⟨.struct [(0, 26), (2, 35), (3, 86), (4, 101)], 5, 88, [.int .i64 0, .int .i64 0, .slice none 0 0, .slice none 0 0, .slice none 0 0]⟩), (170, ⟨.struct [(0, 26), (2, 35), (3, 86), (4, 101)], 5, 88, [.int .i64 0, .int .i64 0, .slice none 0 0, .slice none 0 0, .slice none 0 0]⟩), (171, ⟨.fn, 1, 8, [.nilFunc]⟩), (172, ⟨.fn, 1, 8, [.nilFunc]⟩), (173, ⟨.fn, 1, 8, [.nilFunc]⟩), (174, ⟨.fn, 1, 8, [.nilFunc]⟩), (175, ⟨.fn, 1, 8, [.nilFunc]⟩), (176, ⟨.fn, 1, 8, [.nilFunc]⟩), (177, ⟨.fn, 1, 8, [.nilFunc]⟩), (178, ⟨.fn, 1, 8, [.nilFunc]⟩), (179, ⟨.fn, 1, 8, [.nilFunc]⟩), (180, ⟨.fn, 1, 8, [.nilFunc]⟩), (181, ⟨.slice 3, 1, 24, [.slice none 0 0]⟩), (182, ⟨.fn, 1, 8, [.nilFunc]⟩), (183, ⟨.int .u64, 1, 8, [.int .u64 0]⟩), (185, ⟨.fn, 1, 8, [.nilFunc]⟩), (186, ⟨.slice 189, 1, 24, [.slice none 0 0]⟩), (187, ⟨.struct [(0, 186), (1, 101)], 2, 48, [.slice none 0 0, .slice none 0 0]⟩), (188, ⟨.struct [(0, 186), (1, 101)], 2, 48, [.slice none 0 0, .slice none 0 0]⟩), (189, ⟨.slice 122, 1, 24, [.slice none 0 0]⟩), (190, ⟨.fn, 1, 8, [.nilFunc]⟩), (191, ⟨.fn, 1, 8, [.nilFunc]⟩), (192, ⟨.struct [(0, 46), (1, 3), (2, 162)], 3, 40, [.slice none 0 0, .int .i64 0, .int .u64 0]⟩), (193, ⟨.struct [(0, 46), (1, 3), (2, 162)], 3, 40, [.slice none 0 0, .int .i64 0, .int .u64 0]⟩), (194, ⟨.fn, 1, 8, [.nilFunc]⟩), (195, ⟨.fn, 1, 8, [.nilFunc]⟩), (196, ⟨.fn, 1, 8, [.nilFunc]⟩), (197, ⟨.fn, 1, 8, [.nilFunc]⟩), (198, ⟨.fn, 1, 8, [.nilFunc]⟩), (199, ⟨.fn, 1, 8, [.nilFunc]⟩), (200, ⟨.int .u32, 1, 4, [.int .u32 0]⟩), (202, ⟨.fn, 1, 8, [.nilFunc]⟩), (204, ⟨.fn, 1, 8, [.nilFunc]⟩), (205, ⟨.fn, 1, 8, [.nilFunc]⟩), (206, ⟨.fn, 1, 8, [.nilFunc]⟩), (207, ⟨.fn, 1, 8, [.nilFunc]⟩), (208, ⟨.fn, 1, 8, [.nilFunc]⟩), (209, ⟨.fn, 1, 8, [.nilFunc]⟩), (210, ⟨.fn, 1, 8, [.nilFunc]⟩), (211, ⟨.struct [(0, 17), (1, 17), (2, 17), (3, 9)], 4, 40, [.pointer none, .pointer none, .pointer none, .string ByteArray.empty]⟩), (212, ⟨.struct [(0, 17), (1, 17), (2, 17), (3, 9)], 4, 40, [.pointer none, .pointer none, .pointer none, .string ByteArray.empty]⟩), (214, ⟨.struct [(0, 213)], 0, 0, []⟩), (215, ⟨.struct [(0, 213)], 0, 0, []⟩), (216, ⟨.fn, 1, 8, [.nilFunc]⟩), (217, ⟨.int .u8, 1, 1, [.int .u8 0]⟩), (218, ⟨.int .u8, 1, 1, [.int .u8 0]⟩), (219, ⟨.fn, 1, 8, [.nilFunc]⟩), (220, ⟨.ptr 5, 1, 8, [.pointer none]⟩), (221, ⟨.int .i32, 1, 4, [.int .i32 0]⟩), (222, ⟨.int .i32, 1, 4, [.int .i32 0]⟩), (223, ⟨.struct [(0, 12), (1, 12), (2, 200), (3, 217), (4, 5), (5, 5), (6, 218), (7, 219), (8, 220), (9, 221), (10, 222)], 11, 48, [.int .u64 0, .int .u64 0, .int .u32 0, .int .u8 0, .int .u8 0, .int .u8 0, .int .u8 0, .nilFunc, .pointer none, .int .i32 0, .int .i32 0]⟩), (224, ⟨.struct [(0, 12), (1, 12), (2, 200), (3, 217), (4, 5), (5, 5), (6, 218), (7, 219), (8, 220), (9, 221), (10, 222)], 11, 48, [.int .u64 0, .int .u64 0, .int .u32 0, .int .u8 0, .int .u8 0, .int .u8 0, .int .u8 0, .nilFunc, .pointer none, .int .i32 0, .int .i32 0]⟩)]
def tb : TypeId → Option TI := Go.V.look tbl
theorem tbEq : tbl.map (fun p => entryOf Try.prog p.1) = tbl.map (fun p => some p.2) := by kernel_rfl
theorem tbOk : TbOK Try.prog tb := tb_of tbEq
theorem mixOk : Try.prog.follows .mixedOrders = true := by kernel_rfl

/-! laws_big: function 28 -/
noncomputable def laws_big.f (l0 : List Int) : Option (Bool) := some (decide (4096 < (l0.length : Int)))
noncomputable def S28 (k : Nat) : Does := ⟨[(false, [.dat (.list (.int .u8))])], [(false, [.dat .bool])], fun x => laws_big.f x⟩
noncomputable def E28 (k : Nat) : En := ⟨tb, orcOf [], lvOf [], k, 0, lvOf [], []⟩
theorem e28 (k : Nat) (x : dens (flatC (S28 k).ps)) : funK (E28 k) (S28 k) Try.f28 x = (S28 k).fn x := by
  kernel_rfl
theorem M28 (k : Nat) : Meets Try.prog 28 (S28 k) := meets_of Try.func28 (by kernel_rfl) tbOk orc_nil mixOk (fun x y h => (e28 k x).trans h) rfl

/-! spec_l01From: function 135 -/
noncomputable def spec_l01From.s0 (k : Nat) (r0 : (List Int) → (List Int) → Int → Int → Int → Option (((List Int) × Int × Int))) (x0 : List Int) (x3_0 : List Int) (x3_1 : Int) (x3_2 : Int) (x4 : Int) : Option (((List Int) × Int × Int)) := if x4 < (x0.length : Int) then (if x4 < 4096 then (if 0 ≤ x4 then (if x4 < (x0.length : Int) then (r0 x0 x3_0 x3_1 (IntKind.wrap .u64 ((IntKind.wrap .u64 ((IntKind.wrap .u64 (x3_2 * 1099511628211)) + (IntKind.wrap .u64 ((rd x0 x4))))) + 241)) (wrap64 (x4 + 1))) else (none)) else (none)) else (some (x3_0, x3_1, x3_2))) else (some (x3_0, x3_1, x3_2))
noncomputable def spec_l01From.l0 (k : Nat) : Nat → (List Int) → (List Int) → Int → Int → Int → Option (((List Int) × Int × Int))
  | 0, _, _, _, _, _ => none
  | n + 1, x0, x1, x2, x3, x4 => spec_l01From.s0 k (spec_l01From.l0 k n) x0 x1 x2 x3 x4
noncomputable def spec_l01From.g (k : Nat) (r0 : (List Int) → (List Int) → Int → Int → Int → Option (((List Int) × Int × Int))) (l0 : List Int) : Option (((List Int) × Int × Int)) := r0 l0 l0 0 (IntKind.wrap .u64 (14041 + (IntKind.wrap .u64 ((l0.length : Int))))) 0
noncomputable def spec_l01From.f (k : Nat) (l0 : List Int) : Option (((List Int) × Int × Int)) := spec_l01From.g k (spec_l01From.l0 k k) l0
noncomputable def S135 (k : Nat) : Does := ⟨[(false, [.dat (.list (.int .u8))])], [(false, [.cel (.struct (.pair (.list (.int .u8)) (.pair (.int .i64) (.int .u64))))])], fun x => spec_l01From.f k x⟩
noncomputable def E135 (k : Nat) : En := ⟨tb, orcOf [], lvOf [(0, [(0, []), (3, []), (4, [])])], k, 0, lvOf [], []⟩
noncomputable def n135_0 (x0 : List Int) (x3_0 : List Int) (x3_1 : Int) (x3_2 : Int) (x4 : Int) : St := ⟨38, lookA [(0, .dat (.list (.int .u8)) x0), (3, .box 0 0), (4, .dat (.int .i64) x4)], Go.V.look [(0, .cells [.dat (.list (.int .u8)) x3_0, .dat (.int .i64) x3_1, .dat (.int .u64) x3_2])]⟩
def p135_0 : List Bool := [true, true, false, true, false]
theorem r135_0 (k : Nat) (rec : St → Option (((List Int) × Int × Int))) (v : (List Int) × (List Int) × Int × Int × Int) : roundF (E135 k) (S135 k) Try.f135 p135_0 [] rec (n135_0 v.1 v.2.1 v.2.2.1 v.2.2.2.1 v.2.2.2.2) = spec_l01From.s0 k (fun a0 a1 a2 a3 a4 => rec (n135_0 a0 a1 a2 a3 a4)) v.1 v.2.1 v.2.2.1 v.2.2.2.1 v.2.2.2.2 := by
  kernel_rfl
theorem q135_0 (k : Nat) (n : Nat) : ∀ v : (List Int) × (List Int) × Int × Int × Int, loopF (E135 k) (S135 k) Try.f135 p135_0 [] n (n135_0 v.1 v.2.1 v.2.2.1 v.2.2.2.1 v.2.2.2.2) = spec_l01From.l0 k n v.1 v.2.1 v.2.2.1 v.2.2.2.1 v.2.2.2.2 :=
  loopF_eq (E135 k) (S135 k) Try.f135 p135_0 [] (fun v : (List Int) × (List Int) × Int × Int × Int => n135_0 v.1 v.2.1 v.2.2.1 v.2.2.2.1 v.2.2.2.2) (fun rec v => spec_l01From.s0 k (fun a0 a1 a2 a3 a4 => rec (a0, a1, a2, a3, a4)) v.1 v.2.1 v.2.2.1 v.2.2.2.1 v.2.2.2.2) (fun n v => spec_l01From.l0 k n v.1 v.2.1 v.2.2.1 v.2.2.2.1 v.2.2.2.2) (fun _ => rfl) (fun _ _ => rfl) (fun rec v => r135_0 k rec v) n
theorem e135 (k : Nat) (x : dens (flatC (S135 k).ps)) : funK (E135 k) (S135 k) Try.f135 x = (S135 k).fn x := by
  have h : funK (E135 k) (S135 k) Try.f135 x = spec_l01From.g k (fun a0 a1 a2 a3 a4 => loopF (E135 k) (S135 k) Try.f135 p135_0 [] k (n135_0 a0 a1 a2 a3 a4)) x := by kernel_rfl
  rw [h]
  rw [show (fun a0 a1 a2 a3 a4 => loopF (E135 k) (S135 k) Try.f135 p135_0 [] k (n135_0 a0 a1 a2 a3 a4)) = spec_l01From.l0 k k from funext fun a0 => funext fun a1 => funext fun a2 => funext fun a3 => funext fun a4 => q135_0 k k (a0, a1, a2, a3, a4)]
  rfl
theorem M135 (k : Nat) : Meets Try.prog 135 (S135 k) := meets_of Try.func135 (by kernel_rfl) tbOk orc_nil mixOk (fun x y h => (e135 k x).trans h) rfl

/-! spec_l01Next: function 147 -/
noncomputable def spec_l01Next.f (a0 : (List Int) × Int × Int) (a1 : Int) : Option (Int × ((List Int) × Int × Int)) := if a1 < 1 then (some (0, a0.1, a0.2.1, a0.2.2)) else (if a0.2.1 < (a0.1.length : Int) then (if 0 ≤ a0.2.1 then (if a0.2.1 < (a0.1.length : Int) then (if a1 = 0 then (none) else (some ((Int.tmod (wrap64 ((wrap64 ((andV .u64 (shrV .u64 (IntKind.wrap .u64 ((IntKind.wrap .u64 (a0.2.2 * 6364136223846793005)) + 1442695040888963407)) 33) 16777215))) + (wrap64 ((rd a0.1 a0.2.1))))) a1), a0.1, (wrap64 (a0.2.1 + 1)), (IntKind.wrap .u64 ((IntKind.wrap .u64 (a0.2.2 * 6364136223846793005)) + 1442695040888963407))))) else (none)) else (none)) else (if a1 = 0 then (none) else (some ((Int.tmod (wrap64 ((andV .u64 (shrV .u64 (IntKind.wrap .u64 ((IntKind.wrap .u64 (a0.2.2 * 6364136223846793005)) + 1442695040888963407)) 33) 16777215))) a1), a0.1, a0.2.1, (IntKind.wrap .u64 ((IntKind.wrap .u64 (a0.2.2 * 6364136223846793005)) + 1442695040888963407))))))
noncomputable def S147 (k : Nat) : Does := ⟨[(false, [.cel (.struct (.pair (.list (.int .u8)) (.pair (.int .i64) (.int .u64))))]), (false, [.dat (.int .i64)])], [(false, [.dat (.int .i64)])], fun x => spec_l01Next.f x.1 x.2⟩
noncomputable def E147 (k : Nat) : En := ⟨tb, orcOf [], lvOf [], k, 1, lvOf [], []⟩
theorem e147 (k : Nat) (x : dens (flatC (S147 k).ps)) : funK (E147 k) (S147 k) Try.f147 x = (S147 k).fn x := by
  kernel_rfl
theorem M147 (k : Nat) : Meets Try.prog 147 (S147 k) := meets_of Try.func147 (by kernel_rfl) tbOk orc_nil mixOk (fun x y h => (e147 k x).trans h) rfl

/-! spec_l01Pick: function 136 -/
noncomputable def spec_l01Pick.f (a0 : (List Int) × Int × Int) (l1 : List Int) : Option (Int × ((List Int) × Int × Int)) := (spec_l01Next.f (a0.1, a0.2.1, a0.2.2) (l1.length : Int)).bind fun t1 => if 0 ≤ t1.1 then (if t1.1 < (l1.length : Int) then (some ((rd l1 t1.1), t1.2.1, t1.2.2.1, t1.2.2.2)) else (none)) else (none)
noncomputable def S136 (k : Nat) : Does := ⟨[(false, [.cel (.struct (.pair (.list (.int .u8)) (.pair (.int .i64) (.int .u64))))]), (false, [.dat (.list (.int .i64))])], [(false, [.dat (.int .i64)])], fun x => spec_l01Pick.f x.1 x.2⟩
noncomputable def E136 (k : Nat) : En := ⟨tb, orcOf [(147, S147 k)], lvOf [], k, 1, lvOf [], []⟩
theorem e136 (k : Nat) (x : dens (flatC (S136 k).ps)) : funK (E136 k) (S136 k) Try.f136 x = (S136 k).fn x := by
  kernel_rfl
theorem M136 (k : Nat) : Meets Try.prog 136 (S136 k) := meets_of Try.func136 (by kernel_rfl) tbOk (orc_cons (M147 k) orc_nil) mixOk (fun x y h => (e136 k x).trans h) rfl

/-! spec_l09Road: function 166 -/
noncomputable def spec_l09Road.f (a0 : Int) (a1 : Int) : Option (Int) := if (IntKind.wrap .u64 ((wrap64 ((wrap64 (Int.tdiv (wrap64 ((maxV a0 a1) * (wrap64 ((maxV a0 a1) - 1)))) 2)) + (minV a0 a1))))) < 0 then (none) else (some (shlV .i64 1 (IntKind.wrap .u64 ((wrap64 ((wrap64 (Int.tdiv (wrap64 ((maxV a0 a1) * (wrap64 ((maxV a0 a1) - 1)))) 2)) + (minV a0 a1)))))))
noncomputable def S166 (k : Nat) : Does := ⟨[(false, [.dat (.int .i64)]), (false, [.dat (.int .i64)])], [(false, [.dat (.int .i64)])], fun x => spec_l09Road.f x.1 x.2⟩
noncomputable def E166 (k : Nat) : En := ⟨tb, orcOf [], lvOf [], k, 0, lvOf [], []⟩
theorem e166 (k : Nat) (x : dens (flatC (S166 k).ps)) : funK (E166 k) (S166 k) Try.f166 x = (S166 k).fn x := by
  kernel_rfl
theorem M166 (k : Nat) : Meets Try.prog 166 (S166 k) := meets_of Try.func166 (by kernel_rfl) tbOk orc_nil mixOk (fun x y h => (e166 k x).trans h) rfl

/-! spec_l09Line: function 164 -/
noncomputable def spec_l09Line.s0 (k : Nat) (r0 : Int → Int → Int → Int → Int → Int → Option (Int × Int)) (x0 : Int) (x2_0 : Int) (x2_1 : Int) (x3_0 : Int) (x3_1 : Int) (x4 : Int) : Option (Int × Int) := if x4 < x0 then ((spec_l09Road.f (wrap64 (x4 - 1)) x4).bind fun t1 => r0 x0 x2_0 x2_1 x3_0 (orV .i64 x3_1 t1) (wrap64 (x4 + 1))) else (some (x3_0, x3_1))
noncomputable def spec_l09Line.l0 (k : Nat) : Nat → Int → Int → Int → Int → Int → Int → Option (Int × Int)
  | 0, _, _, _, _, _, _ => none
  | n + 1, x0, x1, x2, x3, x4, x5 => spec_l09Line.s0 k (spec_l09Line.l0 k n) x0 x1 x2 x3 x4 x5
noncomputable def spec_l09Line.g (k : Nat) (r0 : Int → Int → Int → Int → Int → Int → Option (Int × Int)) (a0 : Int) : Option (Int × Int) := r0 a0 0 0 a0 0 1
noncomputable def spec_l09Line.f (k : Nat) (a0 : Int) : Option (Int × Int) := spec_l09Line.g k (spec_l09Line.l0 k k) a0
noncomputable def S164 (k : Nat) : Does := ⟨[(false, [.dat (.int .i64)])], [(true, [.dat (.int .i64), .dat (.int .i64)])], fun x => spec_l09Line.f k x⟩
noncomputable def E164 (k : Nat) : En := ⟨tb, orcOf [(166, S166 k)], lvOf [(0, [(0, []), (2, []), (3, []), (4, [])])], k, 0, lvOf [], []⟩
noncomputable def n164_0 (x0 : Int) (x2_0 : Int) (x2_1 : Int) (x3_0 : Int) (x3_1 : Int) (x4 : Int) : St := ⟨21, lookA [(0, .dat (.int .i64) x0), (2, .box 0 0), (3, .box 1 0), (4, .dat (.int .i64) x4)], Go.V.look [(0, .cells [.dat (.int .i64) x2_0, .dat (.int .i64) x2_1]), (1, .cells [.dat (.int .i64) x3_0, .dat (.int .i64) x3_1])]⟩
def p164_0 : List Bool := [true, true, false, true, false]
theorem r164_0 (k : Nat) (rec : St → Option (Int × Int)) (v : Int × Int × Int × Int × Int × Int) : roundF (E164 k) (S164 k) Try.f164 p164_0 [] rec (n164_0 v.1 v.2.1 v.2.2.1 v.2.2.2.1 v.2.2.2.2.1 v.2.2.2.2.2) = spec_l09Line.s0 k (fun a0 a1 a2 a3 a4 a5 => rec (n164_0 a0 a1 a2 a3 a4 a5)) v.1 v.2.1 v.2.2.1 v.2.2.2.1 v.2.2.2.2.1 v.2.2.2.2.2 := by
  kernel_rfl
theorem q164_0 (k : Nat) (n : Nat) : ∀ v : Int × Int × Int × Int × Int × Int, loopF (E164 k) (S164 k) Try.f164 p164_0 [] n (n164_0 v.1 v.2.1 v.2.2.1 v.2.2.2.1 v.2.2.2.2.1 v.2.2.2.2.2) = spec_l09Line.l0 k n v.1 v.2.1 v.2.2.1 v.2.2.2.1 v.2.2.2.2.1 v.2.2.2.2.2 :=
  loopF_eq (E164 k) (S164 k) Try.f164 p164_0 [] (fun v : Int × Int × Int × Int × Int × Int => n164_0 v.1 v.2.1 v.2.2.1 v.2.2.2.1 v.2.2.2.2.1 v.2.2.2.2.2) (fun rec v => spec_l09Line.s0 k (fun a0 a1 a2 a3 a4 a5 => rec (a0, a1, a2, a3, a4, a5)) v.1 v.2.1 v.2.2.1 v.2.2.2.1 v.2.2.2.2.1 v.2.2.2.2.2) (fun n v => spec_l09Line.l0 k n v.1 v.2.1 v.2.2.1 v.2.2.2.1 v.2.2.2.2.1 v.2.2.2.2.2) (fun _ => rfl) (fun _ _ => rfl) (fun rec v => r164_0 k rec v) n
theorem e164 (k : Nat) (x : dens (flatC (S164 k).ps)) : funK (E164 k) (S164 k) Try.f164 x = (S164 k).fn x := by
  have h : funK (E164 k) (S164 k) Try.f164 x = spec_l09Line.g k (fun a0 a1 a2 a3 a4 a5 => loopF (E164 k) (S164 k) Try.f164 p164_0 [] k (n164_0 a0 a1 a2 a3 a4 a5)) x := by kernel_rfl
  rw [h]
  rw [show (fun a0 a1 a2 a3 a4 a5 => loopF (E164 k) (S164 k) Try.f164 p164_0 [] k (n164_0 a0 a1 a2 a3 a4 a5)) = spec_l09Line.l0 k k from funext fun a0 => funext fun a1 => funext fun a2 => funext fun a3 => funext fun a4 => funext fun a5 => q164_0 k k (a0, a1, a2, a3, a4, a5)]
  rfl
theorem M164 (k : Nat) : Meets Try.prog 164 (S164 k) := meets_of Try.func164 (by kernel_rfl) tbOk (orc_cons (M166 k) orc_nil) mixOk (fun x y h => (e164 k x).trans h) rfl

/-! spec_l09DrawOf: function 176 -/
noncomputable def spec_l09DrawOf.s1 (k : Nat) (r1 : (List Int) → Int → Int → Int → Int → Int → Int → Int → Int → Option (Int × Int × ((List Int) × Int × Int))) (x0_0 : List Int) (x0_1 : Int) (x0_2 : Int) (x1 : Int) (x4_0 : Int) (x4_1 : Int) (x6_0 : Int) (x6_1 : Int) (x8 : Int) : Option (Int × Int × ((List Int) × Int × Int)) := if 0 < x8 then (if 1 < x1 then ((spec_l01Next.f (x0_0, x0_1, x0_2) x1).bind fun t8 => (spec_l01Next.f (t8.2.1, t8.2.2.1, t8.2.2.2) (wrap64 (x1 - 1))).bind fun t9 => if x1 = 0 then (none) else ((spec_l09Road.f t8.1 (Int.tmod (wrap64 ((wrap64 (t8.1 + 1)) + t9.1)) x1)).bind fun t10 => r1 t9.2.1 t9.2.2.1 t9.2.2.2 x1 x4_0 x4_1 x6_0 (xorV .i64 x6_1 t10) (wrap64 (x8 - 1)))) else (some (x6_0, x6_1, x0_0, x0_1, x0_2))) else (some (x6_0, x6_1, x0_0, x0_1, x0_2))
noncomputable def spec_l09DrawOf.l1 (k : Nat) : Nat → (List Int) → Int → Int → Int → Int → Int → Int → Int → Int → Option (Int × Int × ((List Int) × Int × Int))
  | 0, _, _, _, _, _, _, _, _, _ => none
  | n + 1, x0, x1, x2, x3, x4, x5, x6, x7, x8 => spec_l09DrawOf.s1 k (spec_l09DrawOf.l1 k n) x0 x1 x2 x3 x4 x5 x6 x7 x8
noncomputable def spec_l09DrawOf.s0 (k : Nat) (r0 : (List Int) → Int → Int → Int → Int → Int → Int → Int → Int → Option (Int × Int × ((List Int) × Int × Int))) (r1 : (List Int) → Int → Int → Int → Int → Int → Int → Int → Int → Option (Int × Int × ((List Int) × Int × Int))) (x0_0 : List Int) (x0_1 : Int) (x0_2 : Int) (x1 : Int) (x4_0 : Int) (x4_1 : Int) (x6_0 : Int) (x6_1 : Int) (x7 : Int) : Option (Int × Int × ((List Int) × Int × Int)) := if x7 < x1 then ((spec_l01Next.f (x0_0, x0_1, x0_2) x7).bind fun t5 => (spec_l09Road.f t5.1 x7).bind fun t6 => r0 t5.2.1 t5.2.2.1 t5.2.2.2 x1 x4_0 x4_1 x6_0 (orV .i64 x6_1 t6) (wrap64 (x7 + 1))) else ((spec_l01Next.f (x0_0, x0_1, x0_2) 4).bind fun t7 => r1 t7.2.1 t7.2.2.1 t7.2.2.2 x1 x4_0 x4_1 x6_0 x6_1 t7.1)
noncomputable def spec_l09DrawOf.l0 (k : Nat) : Nat → (List Int) → Int → Int → Int → Int → Int → Int → Int → Int → Option (Int × Int × ((List Int) × Int × Int))
  | 0, _, _, _, _, _, _, _, _, _ => none
  | n + 1, x0, x1, x2, x3, x4, x5, x6, x7, x8 => spec_l09DrawOf.s0 k (spec_l09DrawOf.l0 k n) (spec_l09DrawOf.l1 k k) x0 x1 x2 x3 x4 x5 x6 x7 x8
noncomputable def spec_l09DrawOf.g (k : Nat) (r0 : (List Int) → Int → Int → Int → Int → Int → Int → Int → Int → Option (Int × Int × ((List Int) × Int × Int))) (a0 : (List Int) × Int × Int) (a1 : Int) : Option (Int × Int × ((List Int) × Int × Int)) := (spec_l01Next.f (a0.1, a0.2.1, a0.2.2) 4).bind fun t1 => if (decide (t1.1 = 0)) = true then ((spec_l09Line.f k a1).bind fun t2 => some (t2.1, t2.2, t1.2.1, t1.2.2.1, t1.2.2.2)) else (if (decide (t1.1 = 1)) = true then ((spec_l09Line.f k a1).bind fun t3 => if 2 < a1 then ((spec_l09Road.f 0 (wrap64 (a1 - 1))).bind fun t4 => some (t3.1, (orV .i64 t3.2 t4), t1.2.1, t1.2.2.1, t1.2.2.2)) else (some (t3.1, t3.2, t1.2.1, t1.2.2.1, t1.2.2.2))) else (r0 t1.2.1 t1.2.2.1 t1.2.2.2 a1 0 0 a1 0 1))
noncomputable def spec_l09DrawOf.f (k : Nat) (a0 : (List Int) × Int × Int) (a1 : Int) : Option (Int × Int × ((List Int) × Int × Int)) := spec_l09DrawOf.g k (spec_l09DrawOf.l0 k k) a0 a1
noncomputable def S176 (k : Nat) : Does := ⟨[(false, [.cel (.struct (.pair (.list (.int .u8)) (.pair (.int .i64) (.int .u64))))]), (false, [.dat (.int .i64)])], [(true, [.dat (.int .i64), .dat (.int .i64)])], fun x => spec_l09DrawOf.f k x.1 x.2⟩
noncomputable def E176 (k : Nat) : En := ⟨tb, orcOf [(147, S147 k), (164, S164 k), (166, S166 k)], lvOf [(1, [(0, []), (1, []), (4, []), (6, []), (7, [])]), (3, [(0, []), (1, []), (4, []), (6, []), (8, [])])], k, 1, lvOf [], [1074593792]⟩
noncomputable def n176_0 (x0_0 : List Int) (x0_1 : Int) (x0_2 : Int) (x1 : Int) (x4_0 : Int) (x4_1 : Int) (x6_0 : Int) (x6_1 : Int) (x7 : Int) : St := ⟨77, lookA [(0, .box 0 0), (1, .dat (.int .i64) x1), (4, .box 1 0), (6, .box 2 0), (7, .dat (.int .i64) x7)], Go.V.look [(0, .cells [.dat (.list (.int .u8)) x0_0, .dat (.int .i64) x0_1, .dat (.int .u64) x0_2]), (1, .cells [.dat (.int .i64) x4_0, .dat (.int .i64) x4_1]), (2, .cells [.dat (.int .i64) x6_0, .dat (.int .i64) x6_1])]⟩
def p176_0 : List Bool := [true, true, true, false, true, false]
noncomputable def n176_1 (x0_0 : List Int) (x0_1 : Int) (x0_2 : Int) (x1 : Int) (x4_0 : Int) (x4_1 : Int) (x6_0 : Int) (x6_1 : Int) (x8 : Int) : St := ⟨77, lookA [(0, .box 0 0), (1, .dat (.int .i64) x1), (4, .box 1 0), (6, .box 2 0), (8, .dat (.int .i64) x8)], Go.V.look [(0, .cells [.dat (.list (.int .u8)) x0_0, .dat (.int .i64) x0_1, .dat (.int .u64) x0_2]), (1, .cells [.dat (.int .i64) x4_0, .dat (.int .i64) x4_1]), (2, .cells [.dat (.int .i64) x6_0, .dat (.int .i64) x6_1])]⟩
def p176_1 : List Bool := [true, true, true, true, false, true, false]
theorem r176_1 (k : Nat) (rec : St → Option (Int × Int × ((List Int) × Int × Int))) (v : (List Int) × Int × Int × Int × Int × Int × Int × Int × Int) : roundF (E176 k) (S176 k) Try.f176 p176_1 [] rec (n176_1 v.1 v.2.1 v.2.2.1 v.2.2.2.1 v.2.2.2.2.1 v.2.2.2.2.2.1 v.2.2.2.2.2.2.1 v.2.2.2.2.2.2.2.1 v.2.2.2.2.2.2.2.2) = spec_l09DrawOf.s1 k (fun a0 a1 a2 a3 a4 a5 a6 a7 a8 => rec (n176_1 a0 a1 a2 a3 a4 a5 a6 a7 a8)) v.1 v.2.1 v.2.2.1 v.2.2.2.1 v.2.2.2.2.1 v.2.2.2.2.2.1 v.2.2.2.2.2.2.1 v.2.2.2.2.2.2.2.1 v.2.2.2.2.2.2.2.2 := by
  kernel_rfl
theorem q176_1 (k : Nat) (n : Nat) : ∀ v : (List Int) × Int × Int × Int × Int × Int × Int × Int × Int, loopF (E176 k) (S176 k) Try.f176 p176_1 [] n (n176_1 v.1 v.2.1 v.2.2.1 v.2.2.2.1 v.2.2.2.2.1 v.2.2.2.2.2.1 v.2.2.2.2.2.2.1 v.2.2.2.2.2.2.2.1 v.2.2.2.2.2.2.2.2) = spec_l09DrawOf.l1 k n v.1 v.2.1 v.2.2.1 v.2.2.2.1 v.2.2.2.2.1 v.2.2.2.2.2.1 v.2.2.2.2.2.2.1 v.2.2.2.2.2.2.2.1 v.2.2.2.2.2.2.2.2 :=
  loopF_eq (E176 k) (S176 k) Try.f176 p176_1 [] (fun v : (List Int) × Int × Int × Int × Int × Int × Int × Int × Int => n176_1 v.1 v.2.1 v.2.2.1 v.2.2.2.1 v.2.2.2.2.1 v.2.2.2.2.2.1 v.2.2.2.2.2.2.1 v.2.2.2.2.2.2.2.1 v.2.2.2.2.2.2.2.2) (fun rec v => spec_l09DrawOf.s1 k (fun a0 a1 a2 a3 a4 a5 a6 a7 a8 => rec (a0, a1, a2, a3, a4, a5, a6, a7, a8)) v.1 v.2.1 v.2.2.1 v.2.2.2.1 v.2.2.2.2.1 v.2.2.2.2.2.1 v.2.2.2.2.2.2.1 v.2.2.2.2.2.2.2.1 v.2.2.2.2.2.2.2.2) (fun n v => spec_l09DrawOf.l1 k n v.1 v.2.1 v.2.2.1 v.2.2.2.1 v.2.2.2.2.1 v.2.2.2.2.2.1 v.2.2.2.2.2.2.1 v.2.2.2.2.2.2.2.1 v.2.2.2.2.2.2.2.2) (fun _ => rfl) (fun _ _ => rfl) (fun rec v => r176_1 k rec v) n
theorem r176_0 (k : Nat) (rec : St → Option (Int × Int × ((List Int) × Int × Int))) (G1 : (List Int) → Int → Int → Int → Int → Int → Int → Int → Int → Option (Int × Int × ((List Int) × Int × Int))) (h1 : ∀ a0 a1 a2 a3 a4 a5 a6 a7 a8, loopF (E176 k) (S176 k) Try.f176 p176_1 [] k (n176_1 a0 a1 a2 a3 a4 a5 a6 a7 a8) = G1 a0 a1 a2 a3 a4 a5 a6 a7 a8) (v : (List Int) × Int × Int × Int × Int × Int × Int × Int × Int) : roundF (E176 k) (S176 k) Try.f176 p176_0 [] rec (n176_0 v.1 v.2.1 v.2.2.1 v.2.2.2.1 v.2.2.2.2.1 v.2.2.2.2.2.1 v.2.2.2.2.2.2.1 v.2.2.2.2.2.2.2.1 v.2.2.2.2.2.2.2.2) = spec_l09DrawOf.s0 k (fun a0 a1 a2 a3 a4 a5 a6 a7 a8 => rec (n176_0 a0 a1 a2 a3 a4 a5 a6 a7 a8)) G1 v.1 v.2.1 v.2.2.1 v.2.2.2.1 v.2.2.2.2.1 v.2.2.2.2.2.1 v.2.2.2.2.2.2.1 v.2.2.2.2.2.2.2.1 v.2.2.2.2.2.2.2.2 := by
  obtain rfl : (fun a0 a1 a2 a3 a4 a5 a6 a7 a8 => loopF (E176 k) (S176 k) Try.f176 p176_1 [] k (n176_1 a0 a1 a2 a3 a4 a5 a6 a7 a8)) = G1 := funext fun a0 => funext fun a1 => funext fun a2 => funext fun a3 => funext fun a4 => funext fun a5 => funext fun a6 => funext fun a7 => funext fun a8 => h1 a0 a1 a2 a3 a4 a5 a6 a7 a8
  kernel_rfl
theorem q176_0 (k : Nat) (n : Nat) : ∀ v : (List Int) × Int × Int × Int × Int × Int × Int × Int × Int, loopF (E176 k) (S176 k) Try.f176 p176_0 [] n (n176_0 v.1 v.2.1 v.2.2.1 v.2.2.2.1 v.2.2.2.2.1 v.2.2.2.2.2.1 v.2.2.2.2.2.2.1 v.2.2.2.2.2.2.2.1 v.2.2.2.2.2.2.2.2) = spec_l09DrawOf.l0 k n v.1 v.2.1 v.2.2.1 v.2.2.2.1 v.2.2.2.2.1 v.2.2.2.2.2.1 v.2.2.2.2.2.2.1 v.2.2.2.2.2.2.2.1 v.2.2.2.2.2.2.2.2 :=
  loopF_eq (E176 k) (S176 k) Try.f176 p176_0 [] (fun v : (List Int) × Int × Int × Int × Int × Int × Int × Int × Int => n176_0 v.1 v.2.1 v.2.2.1 v.2.2.2.1 v.2.2.2.2.1 v.2.2.2.2.2.1 v.2.2.2.2.2.2.1 v.2.2.2.2.2.2.2.1 v.2.2.2.2.2.2.2.2) (fun rec v => spec_l09DrawOf.s0 k (fun a0 a1 a2 a3 a4 a5 a6 a7 a8 => rec (a0, a1, a2, a3, a4, a5, a6, a7, a8)) (spec_l09DrawOf.l1 k k) v.1 v.2.1 v.2.2.1 v.2.2.2.1 v.2.2.2.2.1 v.2.2.2.2.2.1 v.2.2.2.2.2.2.1 v.2.2.2.2.2.2.2.1 v.2.2.2.2.2.2.2.2) (fun n v => spec_l09DrawOf.l0 k n v.1 v.2.1 v.2.2.1 v.2.2.2.1 v.2.2.2.2.1 v.2.2.2.2.2.1 v.2.2.2.2.2.2.1 v.2.2.2.2.2.2.2.1 v.2.2.2.2.2.2.2.2) (fun _ => rfl) (fun _ _ => rfl) (fun rec v => r176_0 k rec _ (fun a0 a1 a2 a3 a4 a5 a6 a7 a8 => q176_1 k k (a0, a1, a2, a3, a4, a5, a6, a7, a8)) v) n
theorem e176 (k : Nat) (x : dens (flatC (S176 k).ps)) : funK (E176 k) (S176 k) Try.f176 x = (S176 k).fn x := by
  have h : funK (E176 k) (S176 k) Try.f176 x = spec_l09DrawOf.g k (fun a0 a1 a2 a3 a4 a5 a6 a7 a8 => loopF (E176 k) (S176 k) Try.f176 p176_0 [] k (n176_0 a0 a1 a2 a3 a4 a5 a6 a7 a8)) x.1 x.2 := by kernel_rfl
  rw [h]
  rw [show (fun a0 a1 a2 a3 a4 a5 a6 a7 a8 => loopF (E176 k) (S176 k) Try.f176 p176_0 [] k (n176_0 a0 a1 a2 a3 a4 a5 a6 a7 a8)) = spec_l09DrawOf.l0 k k from funext fun a0 => funext fun a1 => funext fun a2 => funext fun a3 => funext fun a4 => funext fun a5 => funext fun a6 => funext fun a7 => funext fun a8 => q176_0 k k (a0, a1, a2, a3, a4, a5, a6, a7, a8)]
  rfl
theorem M176 (k : Nat) : Meets Try.prog 176 (S176 k) := meets_of Try.func176 (by kernel_rfl) tbOk (orc_cons (M147 k) (orc_cons (M164 k) (orc_cons (M166 k) orc_nil))) mixOk (fun x y h => (e176 k x).trans h) rfl

/-! spec_l09Bad: function 171 -/
noncomputable def spec_l09Bad.f (a0 : (List Int) × Int × Int) (a1_0 : Int) (a1_1 : Int) : Option (Int × Int × ((List Int) × Int × Int)) := (spec_l01Next.f (a0.1, a0.2.1, a0.2.2) 40).bind fun t1 => if (decide (t1.1 = 0)) = true then ((spec_l01Pick.f (t1.2.1, t1.2.2.1, t1.2.2.2) [0, 7, (-1), 1099511627776]).bind fun t2 => some (t2.1, a1_1, t2.2.1, t2.2.2.1, t2.2.2.2)) else (if (decide (t1.1 = 1)) = true then ((spec_l01Pick.f (t1.2.1, t1.2.2.1, t1.2.2.2) [(-1), 32768, 4611686018427387904]).bind fun t3 => some (a1_0, t3.1, t3.2.1, t3.2.2.1, t3.2.2.2)) else (some (a1_0, a1_1, t1.2.1, t1.2.2.1, t1.2.2.2)))
noncomputable def S171 (k : Nat) : Does := ⟨[(false, [.cel (.struct (.pair (.list (.int .u8)) (.pair (.int .i64) (.int .u64))))]), (true, [.dat (.int .i64), .dat (.int .i64)])], [(true, [.dat (.int .i64), .dat (.int .i64)])], fun x => spec_l09Bad.f x.1 x.2.1 x.2.2⟩
noncomputable def E171 (k : Nat) : En := ⟨tb, orcOf [(147, S147 k), (136, S136 k)], lvOf [], k, 1, lvOf [], []⟩
theorem e171 (k : Nat) (x : dens (flatC (S171 k).ps)) : funK (E171 k) (S171 k) Try.f171 x = (S171 k).fn x := by
  kernel_rfl
theorem M171 (k : Nat) : Meets Try.prog 171 (S171 k) := meets_of Try.func171 (by kernel_rfl) tbOk (orc_cons (M147 k) (orc_cons (M136 k) orc_nil)) mixOk (fun x y h => (e171 k x).trans h) rfl

/-! spec_l01Own: function 120 -/
noncomputable def spec_l01Own.f (l0 : List Int) : Option ((List Int)) := if 0 + l0.length ≤ 1099511627776 then (some ([] ++ l0)) else (none)
noncomputable def S120 (k : Nat) : Does := ⟨[(false, [.dat (.list (.int .i64))])], [(false, [.own 2 (.int .i64)])], fun x => spec_l01Own.f x⟩
noncomputable def E120 (k : Nat) : En := ⟨tb, orcOf [], lvOf [], k, 0, lvOf [], []⟩
theorem e120 (k : Nat) (x : dens (flatC (S120 k).ps)) : funK (E120 k) (S120 k) Try.f120 x = (S120 k).fn x := by
  kernel_rfl
theorem M120 (k : Nat) : Meets Try.prog 120 (S120 k) := meets_of Try.func120 (by kernel_rfl) tbOk orc_nil mixOk (fun x y h => (e120 k x).trans h) rfl

/-! spec_l01K: function 142 -/
noncomputable def spec_l01K.f (l0_0 : List Int) : Option (Int) := some (l0_0.length : Int)
noncomputable def S142 (k : Nat) : Does := ⟨[(true, [.dat (.list (.int .i64))])], [(false, [.dat (.int .i64)])], fun x => spec_l01K.f x⟩
noncomputable def E142 (k : Nat) : En := ⟨tb, orcOf [], lvOf [], k, 0, lvOf [], []⟩
theorem e142 (k : Nat) (x : dens (flatC (S142 k).ps)) : funK (E142 k) (S142 k) Try.f142 x = (S142 k).fn x := by
  kernel_rfl
theorem M142 (k : Nat) : Meets Try.prog 142 (S142 k) := meets_of Try.func142 (by kernel_rfl) tbOk orc_nil mixOk (fun x y h => (e142 k x).trans h) rfl

/-! spec_l01Bad: function 190 -/
noncomputable def spec_l01Bad.s0 (k : Nat) (r0 : (List Int) → (List Int) → Int → Int → Option ((List Int) × ((List Int) × Int × Int))) (x5_0 : List Int) (b0_0 : List Int) (b0_1 : Int) (b0_2 : Int) : Option ((List Int) × ((List Int) × Int × Int)) := if (x5_0.length : Int) ≤ 8 then (if x5_0.length + 1 ≤ 1099511627776 then (r0 (x5_0 ++ [9]) b0_0 b0_1 b0_2) else (none)) else (some (x5_0, b0_0, b0_1, b0_2))
noncomputable def spec_l01Bad.l0 (k : Nat) : Nat → (List Int) → (List Int) → Int → Int → Option ((List Int) × ((List Int) × Int × Int))
  | 0, _, _, _, _ => none
  | n + 1, x0, x1, x2, x3 => spec_l01Bad.s0 k (spec_l01Bad.l0 k n) x0 x1 x2 x3
noncomputable def spec_l01Bad.g (k : Nat) (r0 : (List Int) → (List Int) → Int → Int → Option ((List Int) × ((List Int) × Int × Int))) (a0 : (List Int) × Int × Int) (l1_0 : List Int) : Option ((List Int) × ((List Int) × Int × Int)) := (spec_l01Own.f l1_0).bind fun t1 => (spec_l01Next.f (a0.1, a0.2.1, a0.2.2) 50).bind fun t2 => if (decide (t2.1 = 0)) = true then (some ([], t2.2.1, t2.2.2.1, t2.2.2.2)) else (if (decide (t2.1 = 1)) = true then ((spec_l01K.f l1_0).bind fun t3 => (spec_l01Next.f (t2.2.1, t2.2.2.1, t2.2.2.2) t3).bind fun t4 => (spec_l01Pick.f (t4.2.1, t4.2.2.1, t4.2.2.2) [0, 41, (-1), 1099511627776]).bind fun t5 => if 0 ≤ t4.1 then (if t4.1 < (t1.length : Int) then (some ((t1.set t4.1.toNat t5.1), t5.2.1, t5.2.2.1, t5.2.2.2)) else (none)) else (none)) else (if (decide (t2.1 = 2)) = true then (r0 t1 t2.2.1 t2.2.2.1 t2.2.2.2) else (some (l1_0, t2.2.1, t2.2.2.1, t2.2.2.2))))
noncomputable def spec_l01Bad.f (k : Nat) (a0 : (List Int) × Int × Int) (l1_0 : List Int) : Option ((List Int) × ((List Int) × Int × Int)) := spec_l01Bad.g k (spec_l01Bad.l0 k k) a0 l1_0
noncomputable def S190 (k : Nat) : Does := ⟨[(false, [.cel (.struct (.pair (.list (.int .u8)) (.pair (.int .i64) (.int .u64))))]), (true, [.dat (.list (.int .i64))])], [(true, [.dat (.list (.int .i64))])], fun x => spec_l01Bad.f k x.1 x.2⟩
noncomputable def E190 (k : Nat) : En := ⟨tb, orcOf [(120, S120 k), (147, S147 k), (142, S142 k), (136, S136 k)], lvOf [(1, [(4, []), (5, [])])], k, 1, lvOf [], [1074135040, 1074136640]⟩
noncomputable def n190_0 (x5_0 : List Int) (b0_0 : List Int) (b0_1 : Int) (b0_2 : Int) : St := ⟨41, lookA [(4, .box 1 0), (5, .box 2 0)], Go.V.look [(0, .cells [.dat (.list (.int .u8)) b0_0, .dat (.int .i64) b0_1, .dat (.int .u64) b0_2]), (1, .cells [.nil]), (2, .cells [.own 3]), (3, .flat 2 (.int .i64) x5_0)]⟩
def p190_0 : List Bool := [true, true, false, true, false, true, true, true, true, true, false, false, false]
theorem r190_0 (k : Nat) (rec : St → Option ((List Int) × ((List Int) × Int × Int))) (v : (List Int) × (List Int) × Int × Int) : roundF (E190 k) (S190 k) Try.f190 p190_0 [] rec (n190_0 v.1 v.2.1 v.2.2.1 v.2.2.2) = spec_l01Bad.s0 k (fun a0 a1 a2 a3 => rec (n190_0 a0 a1 a2 a3)) v.1 v.2.1 v.2.2.1 v.2.2.2 := by
  kernel_rfl
theorem q190_0 (k : Nat) (n : Nat) : ∀ v : (List Int) × (List Int) × Int × Int, loopF (E190 k) (S190 k) Try.f190 p190_0 [] n (n190_0 v.1 v.2.1 v.2.2.1 v.2.2.2) = spec_l01Bad.l0 k n v.1 v.2.1 v.2.2.1 v.2.2.2 :=
  loopF_eq (E190 k) (S190 k) Try.f190 p190_0 [] (fun v : (List Int) × (List Int) × Int × Int => n190_0 v.1 v.2.1 v.2.2.1 v.2.2.2) (fun rec v => spec_l01Bad.s0 k (fun a0 a1 a2 a3 => rec (a0, a1, a2, a3)) v.1 v.2.1 v.2.2.1 v.2.2.2) (fun n v => spec_l01Bad.l0 k n v.1 v.2.1 v.2.2.1 v.2.2.2) (fun _ => rfl) (fun _ _ => rfl) (fun rec v => r190_0 k rec v) n
theorem e190 (k : Nat) (x : dens (flatC (S190 k).ps)) : funK (E190 k) (S190 k) Try.f190 x = (S190 k).fn x := by
  have h : funK (E190 k) (S190 k) Try.f190 x = spec_l01Bad.g k (fun a0 a1 a2 a3 => loopF (E190 k) (S190 k) Try.f190 p190_0 [] k (n190_0 a0 a1 a2 a3)) x.1 x.2 := by kernel_rfl
  rw [h]
  rw [show (fun a0 a1 a2 a3 => loopF (E190 k) (S190 k) Try.f190 p190_0 [] k (n190_0 a0 a1 a2 a3)) = spec_l01Bad.l0 k k from funext fun a0 => funext fun a1 => funext fun a2 => funext fun a3 => q190_0 k k (a0, a1, a2, a3)]
  rfl
theorem M190 (k : Nat) : Meets Try.prog 190 (S190 k) := meets_of Try.func190 (by kernel_rfl) tbOk (orc_cons (M120 k) (orc_cons (M147 k) (orc_cons (M142 k) (orc_cons (M136 k) orc_nil)))) mixOk (fun x y h => (e190 k x).trans h) rfl

/-! spec_l09Given: function 178 -/
noncomputable def spec_l09Given.s0 (k : Nat) (r0 : Int → Int → (List Int) → Int → Int → Int → Int → (List Int) → Int → Int → Option (Int × Int × (List Int))) (x2_0 : Int) (x2_1 : Int) (x4_0 : List Int) (x4_1 : Int) (x4_2 : Int) (x5_0 : Int) (x5_1 : Int) (x6_0 : List Int) (x7 : Int) (x8 : Int) : Option (Int × Int × (List Int)) := if x8 < x5_0 then ((spec_l01Next.f (x4_0, x4_1, x4_2) x7).bind fun t6 => if 3 < x5_0 then (if x6_0.length + 1 ≤ 1099511627776 then (r0 x2_0 x2_1 t6.2.1 t6.2.2.1 t6.2.2.2 x5_0 x5_1 (x6_0 ++ [(minV (wrap64 (1 + t6.1)) 6)]) x7 (wrap64 (x8 + 1))) else (none)) else (if x6_0.length + 1 ≤ 1099511627776 then (r0 x2_0 x2_1 t6.2.1 t6.2.2.1 t6.2.2.2 x5_0 x5_1 (x6_0 ++ [(wrap64 (1 + t6.1))]) x7 (wrap64 (x8 + 1))) else (none))) else ((spec_l01Next.f (x4_0, x4_1, x4_2) 20).bind fun t7 => if (decide (t7.1 = 0)) = true then (if x6_0.length + 1 ≤ 1099511627776 then ((spec_l09Bad.f (t7.2.1, t7.2.2.1, t7.2.2.2) x5_0 x5_1).bind fun t8 => (spec_l01Bad.f k (t8.2.2.1, t8.2.2.2.1, t8.2.2.2.2) (x6_0 ++ [2])).bind fun t9 => some (t8.1, t8.2.1, t9.1)) else (none)) else (if (decide (t7.1 = 1)) = true then ((spec_l01Pick.f (t7.2.1, t7.2.2.1, t7.2.2.2) [40, 12, 20]).bind fun t10 => if 0 < (x6_0.length : Int) then ((spec_l09Bad.f (t10.2.1, t10.2.2.1, t10.2.2.2) x5_0 x5_1).bind fun t11 => (spec_l01Bad.f k (t11.2.2.1, t11.2.2.2.1, t11.2.2.2.2) (x6_0.set (0 : Int).toNat t10.1)).bind fun t12 => some (t11.1, t11.2.1, t12.1)) else (none)) else ((spec_l09Bad.f (t7.2.1, t7.2.2.1, t7.2.2.2) x5_0 x5_1).bind fun t13 => (spec_l01Bad.f k (t13.2.2.1, t13.2.2.2.1, t13.2.2.2.2) x6_0).bind fun t14 => some (t13.1, t13.2.1, t14.1))))
noncomputable def spec_l09Given.l0 (k : Nat) : Nat → Int → Int → (List Int) → Int → Int → Int → Int → (List Int) → Int → Int → Option (Int × Int × (List Int))
  | 0, _, _, _, _, _, _, _, _, _, _ => none
  | n + 1, x0, x1, x2, x3, x4, x5, x6, x7, x8, x9 => spec_l09Given.s0 k (spec_l09Given.l0 k n) x0 x1 x2 x3 x4 x5 x6 x7 x8 x9
noncomputable def spec_l09Given.g (k : Nat) (r0 : Int → Int → (List Int) → Int → Int → Int → Int → (List Int) → Int → Int → Option (Int × Int × (List Int))) (l0 : List Int) : Option (Int × Int × (List Int)) := (spec_l01From.f k l0).bind fun t1 => (spec_l01Pick.f (t1.1, t1.2.1, t1.2.2) [3, 4, 5]).bind fun t2 => (spec_l01Next.f (t2.2.1, t2.2.2.1, t2.2.2.2) t2.1).bind fun t3 => (spec_l09DrawOf.f k (t3.2.1, t3.2.2.1, t3.2.2.2) (wrap64 (1 + t3.1))).bind fun t4 => (spec_l01Pick.f (t4.2.2.1, t4.2.2.2.1, t4.2.2.2.2) [4, 6, 8]).bind fun t5 => r0 0 0 t5.2.1 t5.2.2.1 t5.2.2.2 t4.1 t4.2.1 [] t5.1 0
noncomputable def spec_l09Given.f (k : Nat) (l0 : List Int) : Option (Int × Int × (List Int)) := spec_l09Given.g k (spec_l09Given.l0 k k) l0
noncomputable def S178 (k : Nat) : Does := ⟨[(false, [.dat (.list (.int .u8))])], [(true, [.dat (.int .i64), .dat (.int .i64)]), (true, [.dat (.list (.int .i64))])], fun x => spec_l09Given.f k x⟩
noncomputable def E178 (k : Nat) : En := ⟨tb, orcOf [(135, S135 k), (136, S136 k), (147, S147 k), (176, S176 k), (171, S171 k), (190, S190 k)], lvOf [(0, [(2, []), (3, []), (4, []), (5, []), (6, []), (7, []), (8, [])])], k, 0, lvOf [], [1074724866, 1074728768, 1074790402]⟩
noncomputable def n178_0 (x2_0 : Int) (x2_1 : Int) (x4_0 : List Int) (x4_1 : Int) (x4_2 : Int) (x5_0 : Int) (x5_1 : Int) (x6_0 : List Int) (x7 : Int) (x8 : Int) : St := ⟨69, lookA [(2, .box 0 0), (3, .box 1 0), (4, .box 2 0), (5, .box 3 0), (6, .box 4 0), (7, .dat (.int .i64) x7), (8, .dat (.int .i64) x8)], Go.V.look [(0, .cells [.dat (.int .i64) x2_0, .dat (.int .i64) x2_1]), (1, .cells [.nil]), (2, .cells [.dat (.list (.int .u8)) x4_0, .dat (.int .i64) x4_1, .dat (.int .u64) x4_2]), (3, .cells [.dat (.int .i64) x5_0, .dat (.int .i64) x5_1]), (4, .cells [.own 5]), (5, .flat 2 (.int .i64) x6_0)]⟩
def p178_0 : List Bool := [true, true, true, true, false, true, false]
theorem r178_0 (k : Nat) (rec : St → Option (Int × Int × (List Int))) (v : Int × Int × (List Int) × Int × Int × Int × Int × (List Int) × Int × Int) : roundF (E178 k) (S178 k) Try.f178 p178_0 [] rec (n178_0 v.1 v.2.1 v.2.2.1 v.2.2.2.1 v.2.2.2.2.1 v.2.2.2.2.2.1 v.2.2.2.2.2.2.1 v.2.2.2.2.2.2.2.1 v.2.2.2.2.2.2.2.2.1 v.2.2.2.2.2.2.2.2.2) = spec_l09Given.s0 k (fun a0 a1 a2 a3 a4 a5 a6 a7 a8 a9 => rec (n178_0 a0 a1 a2 a3 a4 a5 a6 a7 a8 a9)) v.1 v.2.1 v.2.2.1 v.2.2.2.1 v.2.2.2.2.1 v.2.2.2.2.2.1 v.2.2.2.2.2.2.1 v.2.2.2.2.2.2.2.1 v.2.2.2.2.2.2.2.2.1 v.2.2.2.2.2.2.2.2.2 := by
  kernel_rfl
theorem q178_0 (k : Nat) (n : Nat) : ∀ v : Int × Int × (List Int) × Int × Int × Int × Int × (List Int) × Int × Int, loopF (E178 k) (S178 k) Try.f178 p178_0 [] n (n178_0 v.1 v.2.1 v.2.2.1 v.2.2.2.1 v.2.2.2.2.1 v.2.2.2.2.2.1 v.2.2.2.2.2.2.1 v.2.2.2.2.2.2.2.1 v.2.2.2.2.2.2.2.2.1 v.2.2.2.2.2.2.2.2.2) = spec_l09Given.l0 k n v.1 v.2.1 v.2.2.1 v.2.2.2.1 v.2.2.2.2.1 v.2.2.2.2.2.1 v.2.2.2.2.2.2.1 v.2.2.2.2.2.2.2.1 v.2.2.2.2.2.2.2.2.1 v.2.2.2.2.2.2.2.2.2 :=
  loopF_eq (E178 k) (S178 k) Try.f178 p178_0 [] (fun v : Int × Int × (List Int) × Int × Int × Int × Int × (List Int) × Int × Int => n178_0 v.1 v.2.1 v.2.2.1 v.2.2.2.1 v.2.2.2.2.1 v.2.2.2.2.2.1 v.2.2.2.2.2.2.1 v.2.2.2.2.2.2.2.1 v.2.2.2.2.2.2.2.2.1 v.2.2.2.2.2.2.2.2.2) (fun rec v => spec_l09Given.s0 k (fun a0 a1 a2 a3 a4 a5 a6 a7 a8 a9 => rec (a0, a1, a2, a3, a4, a5, a6, a7, a8, a9)) v.1 v.2.1 v.2.2.1 v.2.2.2.1 v.2.2.2.2.1 v.2.2.2.2.2.1 v.2.2.2.2.2.2.1 v.2.2.2.2.2.2.2.1 v.2.2.2.2.2.2.2.2.1 v.2.2.2.2.2.2.2.2.2) (fun n v => spec_l09Given.l0 k n v.1 v.2.1 v.2.2.1 v.2.2.2.1 v.2.2.2.2.1 v.2.2.2.2.2.1 v.2.2.2.2.2.2.1 v.2.2.2.2.2.2.2.1 v.2.2.2.2.2.2.2.2.1 v.2.2.2.2.2.2.2.2.2) (fun _ => rfl) (fun _ _ => rfl) (fun rec v => r178_0 k rec v) n
theorem e178 (k : Nat) (x : dens (flatC (S178 k).ps)) : funK (E178 k) (S178 k) Try.f178 x = (S178 k).fn x := by
  have h : funK (E178 k) (S178 k) Try.f178 x = spec_l09Given.g k (fun a0 a1 a2 a3 a4 a5 a6 a7 a8 a9 => loopF (E178 k) (S178 k) Try.f178 p178_0 [] k (n178_0 a0 a1 a2 a3 a4 a5 a6 a7 a8 a9)) x := by kernel_rfl
  rw [h]
  rw [show (fun a0 a1 a2 a3 a4 a5 a6 a7 a8 a9 => loopF (E178 k) (S178 k) Try.f178 p178_0 [] k (n178_0 a0 a1 a2 a3 a4 a5 a6 a7 a8 a9)) = spec_l09Given.l0 k k from funext fun a0 => funext fun a1 => funext fun a2 => funext fun a3 => funext fun a4 => funext fun a5 => funext fun a6 => funext fun a7 => funext fun a8 => funext fun a9 => q178_0 k k (a0, a1, a2, a3, a4, a5, a6, a7, a8, a9)]
  rfl
theorem M178 (k : Nat) : Meets Try.prog 178 (S178 k) := meets_of Try.func178 (by kernel_rfl) tbOk (orc_cons (M135 k) (orc_cons (M136 k) (orc_cons (M147 k) (orc_cons (M176 k) (orc_cons (M171 k) (orc_cons (M190 k) orc_nil)))))) mixOk (fun x y h => (e178 k x).trans h) rfl

/-! spec_DrawFirstRoute: function 75 -/
noncomputable def spec_DrawFirstRoute.f (k : Nat) (l0 : List Int) : Option (Int × Int × (List Int)) := (spec_l09Given.f k l0).bind fun t1 => some (t1.1, t1.2.1, t1.2.2)
noncomputable def S75 (k : Nat) : Does := ⟨[(false, [.dat (.list (.int .u8))])], [(true, [.dat (.int .i64), .dat (.int .i64)]), (true, [.dat (.list (.int .i64))])], fun x => spec_DrawFirstRoute.f k x⟩
noncomputable def E75 (k : Nat) : En := ⟨tb, orcOf [(178, S178 k)], lvOf [], k, 0, lvOf [], [1073873088]⟩
theorem e75 (k : Nat) (x : dens (flatC (S75 k).ps)) : funK (E75 k) (S75 k) Try.f75 x = (S75 k).fn x := by
  kernel_rfl
theorem M75 (k : Nat) : Meets Try.prog 75 (S75 k) := meets_of Try.func75 (by kernel_rfl) tbOk (orc_cons (M178 k) orc_nil) mixOk (fun x y h => (e75 k x).trans h) rfl

/-! impl_within: function 108 -/
noncomputable def impl_within.f (a0 : Int) (a1 : Int) (a2 : Int) : Option (Bool) := if a1 ≤ a0 then (some (decide (a0 ≤ a2))) else (some false)
noncomputable def S108 (k : Nat) : Does := ⟨[(false, [.dat (.int .i64)]), (false, [.dat (.int .i64)]), (false, [.dat (.int .i64)])], [(false, [.dat .bool])], fun x => impl_within.f x.1 x.2.1 x.2.2⟩
noncomputable def E108 (k : Nat) : En := ⟨tb, orcOf [], lvOf [], k, 0, lvOf [], []⟩
theorem e108 (k : Nat) (x : dens (flatC (S108 k).ps)) : funK (E108 k) (S108 k) Try.f108 x = (S108 k).fn x := by
  kernel_rfl
theorem M108 (k : Nat) : Meets Try.prog 108 (S108 k) := meets_of Try.func108 (by kernel_rfl) tbOk orc_nil mixOk (fun x y h => (e108 k x).trans h) rfl

/-! impl_IsGround: function 68 -/
noncomputable def impl_IsGround.f (a0_0 : Int) (a0_1 : Int) : Option (Bool) := (impl_within.f a0_0 1 6).bind fun t1 => if t1 = true then (if (wrap64 (Int.tdiv (wrap64 (a0_0 * (wrap64 (a0_0 - 1)))) 2)) < 0 then (none) else ((impl_within.f a0_1 0 (wrap64 ((shlV .i64 1 (wrap64 (Int.tdiv (wrap64 (a0_0 * (wrap64 (a0_0 - 1)))) 2))) - 1))).bind fun t2 => some t2)) else (some false)
noncomputable def S68 (k : Nat) : Does := ⟨[(true, [.dat (.int .i64), .dat (.int .i64)])], [(false, [.dat .bool])], fun x => impl_IsGround.f x.1 x.2⟩
noncomputable def E68 (k : Nat) : En := ⟨tb, orcOf [(108, S108 k)], lvOf [], k, 0, lvOf [], []⟩
theorem e68 (k : Nat) (x : dens (flatC (S68 k).ps)) : funK (E68 k) (S68 k) Try.f68 x = (S68 k).fn x := by
  kernel_rfl
theorem M68 (k : Nat) : Meets Try.prog 68 (S68 k) := meets_of Try.func68 (by kernel_rfl) tbOk (orc_cons (M108 k) orc_nil) mixOk (fun x y h => (e68 k x).trans h) rfl

/-! impl_length_int64: function 149 -/
noncomputable def impl_length_int64.f (l0 : List Int) : Option (Int) := some (l0.length : Int)
noncomputable def S149 (k : Nat) : Does := ⟨[(false, [.dat (.list (.int .i64))])], [(false, [.dat (.int .i64)])], fun x => impl_length_int64.f x⟩
noncomputable def E149 (k : Nat) : En := ⟨tb, orcOf [], lvOf [], k, 0, lvOf [], []⟩
theorem e149 (k : Nat) (x : dens (flatC (S149 k).ps)) : funK (E149 k) (S149 k) Try.f149 x = (S149 k).fn x := by
  kernel_rfl
theorem M149 (k : Nat) : Meets Try.prog 149 (S149 k) := meets_of Try.func149 (by kernel_rfl) tbOk orc_nil mixOk (fun x y h => (e149 k x).trans h) rfl

/-! impl_IsTasks_1: function 235 -/
noncomputable def impl_IsTasks_1.f (a0 : Int) : Option (Bool) := (impl_within.f a0 1 40).bind fun t1 => some t1
noncomputable def S235 (k : Nat) : Does := ⟨[(false, [.dat (.int .i64)])], [(false, [.dat .bool])], fun x => impl_IsTasks_1.f x⟩
noncomputable def E235 (k : Nat) : En := ⟨tb, orcOf [(108, S108 k)], lvOf [], k, 0, lvOf [], []⟩
theorem e235 (k : Nat) (x : dens (flatC (S235 k).ps)) : funK (E235 k) (S235 k) Try.f235 x = (S235 k).fn x := by
  kernel_rfl
theorem M235 (k : Nat) : Meets Try.prog 235 (S235 k) := meets_of Try.func235 (by kernel_rfl) tbOk (orc_cons (M108 k) orc_nil) mixOk (fun x y h => (e235 k x).trans h) rfl

/-! impl_areAll_int64_1_impl_IsTasks_1: function 217 -/
noncomputable def impl_areAll_int64_1_impl_IsTasks_1.f (a0 : Int) (a1 : Unit) : Option (Bool) := (impl_IsTasks_1.f a0).bind fun t1 => some (!decide (t1 = true))
noncomputable def S217_c235 (k : Nat) : Does := ⟨[(false, [.dat (.int .i64)]), (false, [.dat (.ptr (.clo 235 .unit))])], [(false, [.dat .bool])], fun x => impl_areAll_int64_1_impl_IsTasks_1.f x.1 x.2⟩
noncomputable def E217_c235 (k : Nat) : En := ⟨tb, orcOf [(235, S235 k)], lvOf [], k, 0, lvOf [], []⟩
theorem e217_c235 (k : Nat) (x : dens (flatC (S217_c235 k).ps)) : funK (E217_c235 k) (S217_c235 k) Try.f217 x = (S217_c235 k).fn x := by
  kernel_rfl
theorem M217_c235 (k : Nat) : Meets Try.prog 217 (S217_c235 k) := meets_of Try.func217 (by kernel_rfl) tbOk (orc_cons (M235 k) orc_nil) mixOk (fun x y h => (e217_c235 k x).trans h) rfl

/-! slices_IndexFunc_int64_int64_impl_areAll_int64_1_impl_IsTasks_1: function 236 -/
noncomputable def slices_IndexFunc_int64_int64_impl_areAll_int64_1_impl_IsTasks_1.s0 (k : Nat) (r0 : (List Int) → Unit → Int → Int → Option (Int)) (x0 : List Int) (x1 : Unit) (x7 : Int) (x8 : Int) : Option (Int) := if x8 < x7 then (if 0 ≤ x8 then (if x8 < (x0.length : Int) then ((impl_areAll_int64_1_impl_IsTasks_1.f (rd x0 x8) x1).bind fun t1 => if t1 = true then (some x8) else (r0 x0 x1 x7 (wrap64 (x8 + 1)))) else (none)) else (none)) else (some (-1))
noncomputable def slices_IndexFunc_int64_int64_impl_areAll_int64_1_impl_IsTasks_1.l0 (k : Nat) : Nat → (List Int) → Unit → Int → Int → Option (Int)
  | 0, _, _, _, _ => none
  | n + 1, x0, x1, x2, x3 => slices_IndexFunc_int64_int64_impl_areAll_int64_1_impl_IsTasks_1.s0 k (slices_IndexFunc_int64_int64_impl_areAll_int64_1_impl_IsTasks_1.l0 k n) x0 x1 x2 x3
noncomputable def slices_IndexFunc_int64_int64_impl_areAll_int64_1_impl_IsTasks_1.g (k : Nat) (r0 : (List Int) → Unit → Int → Int → Option (Int)) (l0 : List Int) (a1 : Unit) : Option (Int) := r0 l0 a1 (l0.length : Int) 0
noncomputable def slices_IndexFunc_int64_int64_impl_areAll_int64_1_impl_IsTasks_1.f (k : Nat) (l0 : List Int) (a1 : Unit) : Option (Int) := slices_IndexFunc_int64_int64_impl_areAll_int64_1_impl_IsTasks_1.g k (slices_IndexFunc_int64_int64_impl_areAll_int64_1_impl_IsTasks_1.l0 k k) l0 a1
noncomputable def S236_c217c235 (k : Nat) : Does := ⟨[(false, [.dat (.list (.int .i64))]), (false, [.dat (.clo 217 (.ptr (.clo 235 .unit)))])], [(false, [.dat (.int .i64)])], fun x => slices_IndexFunc_int64_int64_impl_areAll_int64_1_impl_IsTasks_1.f k x.1 x.2⟩
noncomputable def E236_c217c235 (k : Nat) : En := ⟨tb, orcOf [(217, S217_c235 k)], lvOf [(0, [(0, []), (1, []), (7, []), (8, [])])], k, 0, lvOf [], []⟩
noncomputable def n236_c217c235_0 (x0 : List Int) (x1 : Unit) (x7 : Int) (x8 : Int) : St := ⟨19, lookA [(0, .dat (.list (.int .i64)) x0), (1, .dat (.clo 217 (.ptr (.clo 235 .unit))) x1), (7, .dat (.int .i64) x7), (8, .dat (.int .i64) x8)], Go.V.look []⟩
def p236_c217c235_0 : List Bool := [true, false, true, false]
theorem r236_c217c235_0 (k : Nat) (rec : St → Option (Int)) (v : (List Int) × Unit × Int × Int) : roundF (E236_c217c235 k) (S236_c217c235 k) Try.f236 p236_c217c235_0 [] rec (n236_c217c235_0 v.1 v.2.1 v.2.2.1 v.2.2.2) = slices_IndexFunc_int64_int64_impl_areAll_int64_1_impl_IsTasks_1.s0 k (fun a0 a1 a2 a3 => rec (n236_c217c235_0 a0 a1 a2 a3)) v.1 v.2.1 v.2.2.1 v.2.2.2 := by
  kernel_rfl
theorem q236_c217c235_0 (k : Nat) (n : Nat) : ∀ v : (List Int) × Unit × Int × Int, loopF (E236_c217c235 k) (S236_c217c235 k) Try.f236 p236_c217c235_0 [] n (n236_c217c235_0 v.1 v.2.1 v.2.2.1 v.2.2.2) = slices_IndexFunc_int64_int64_impl_areAll_int64_1_impl_IsTasks_1.l0 k n v.1 v.2.1 v.2.2.1 v.2.2.2 :=
  loopF_eq (E236_c217c235 k) (S236_c217c235 k) Try.f236 p236_c217c235_0 [] (fun v : (List Int) × Unit × Int × Int => n236_c217c235_0 v.1 v.2.1 v.2.2.1 v.2.2.2) (fun rec v => slices_IndexFunc_int64_int64_impl_areAll_int64_1_impl_IsTasks_1.s0 k (fun a0 a1 a2 a3 => rec (a0, a1, a2, a3)) v.1 v.2.1 v.2.2.1 v.2.2.2) (fun n v => slices_IndexFunc_int64_int64_impl_areAll_int64_1_impl_IsTasks_1.l0 k n v.1 v.2.1 v.2.2.1 v.2.2.2) (fun _ => rfl) (fun _ _ => rfl) (fun rec v => r236_c217c235_0 k rec v) n
theorem e236_c217c235 (k : Nat) (x : dens (flatC (S236_c217c235 k).ps)) : funK (E236_c217c235 k) (S236_c217c235 k) Try.f236 x = (S236_c217c235 k).fn x := by
  have h : funK (E236_c217c235 k) (S236_c217c235 k) Try.f236 x = slices_IndexFunc_int64_int64_impl_areAll_int64_1_impl_IsTasks_1.g k (fun a0 a1 a2 a3 => loopF (E236_c217c235 k) (S236_c217c235 k) Try.f236 p236_c217c235_0 [] k (n236_c217c235_0 a0 a1 a2 a3)) x.1 x.2 := by kernel_rfl
  rw [h]
  rw [show (fun a0 a1 a2 a3 => loopF (E236_c217c235 k) (S236_c217c235 k) Try.f236 p236_c217c235_0 [] k (n236_c217c235_0 a0 a1 a2 a3)) = slices_IndexFunc_int64_int64_impl_areAll_int64_1_impl_IsTasks_1.l0 k k from funext fun a0 => funext fun a1 => funext fun a2 => funext fun a3 => q236_c217c235_0 k k (a0, a1, a2, a3)]
  rfl
theorem M236_c217c235 (k : Nat) : Meets Try.prog 236 (S236_c217c235 k) := meets_of Try.func236 (by kernel_rfl) tbOk (orc_cons (M217_c235 k) orc_nil) mixOk (fun x y h => (e236_c217c235 k x).trans h) rfl

/-! slices_ContainsFunc_int64_int64_impl_areAll_int64_1_impl_IsTasks_1: function 216 -/
noncomputable def slices_ContainsFunc_int64_int64_impl_areAll_int64_1_impl_IsTasks_1.f (k : Nat) (l0 : List Int) (a1 : Unit) : Option (Bool) := (slices_IndexFunc_int64_int64_impl_areAll_int64_1_impl_IsTasks_1.f k l0 a1).bind fun t1 => some (decide (0 ≤ t1))
noncomputable def S216_c217c235 (k : Nat) : Does := ⟨[(false, [.dat (.list (.int .i64))]), (false, [.dat (.clo 217 (.ptr (.clo 235 .unit)))])], [(false, [.dat .bool])], fun x => slices_ContainsFunc_int64_int64_impl_areAll_int64_1_impl_IsTasks_1.f k x.1 x.2⟩
noncomputable def E216_c217c235 (k : Nat) : En := ⟨tb, orcOf [(236, S236_c217c235 k)], lvOf [], k, 0, lvOf [], []⟩
theorem e216_c217c235 (k : Nat) (x : dens (flatC (S216_c217c235 k).ps)) : funK (E216_c217c235 k) (S216_c217c235 k) Try.f216 x = (S216_c217c235 k).fn x := by
  kernel_rfl
theorem M216_c217c235 (k : Nat) : Meets Try.prog 216 (S216_c217c235 k) := meets_of Try.func216 (by kernel_rfl) tbOk (orc_cons (M236_c217c235 k) orc_nil) mixOk (fun x y h => (e216_c217c235 k x).trans h) rfl

/-! impl_areAll_int64_impl_IsTasks_1: function 148 -/
noncomputable def impl_areAll_int64_impl_IsTasks_1.f (k : Nat) (l0 : List Int) (a1 : Unit) : Option (Bool) := (slices_ContainsFunc_int64_int64_impl_areAll_int64_1_impl_IsTasks_1.f k l0 a1).bind fun t1 => some (!decide (t1 = true))
noncomputable def S148_c235 (k : Nat) : Does := ⟨[(false, [.dat (.list (.int .i64))]), (false, [.dat (.clo 235 .unit)])], [(false, [.dat .bool])], fun x => impl_areAll_int64_impl_IsTasks_1.f k x.1 x.2⟩
noncomputable def E148_c235 (k : Nat) : En := ⟨tb, orcOf [(216, S216_c217c235 k)], lvOf [], k, 0, lvOf [], []⟩
theorem e148_c235 (k : Nat) (x : dens (flatC (S148_c235 k).ps)) : funK (E148_c235 k) (S148_c235 k) Try.f148 x = (S148_c235 k).fn x := by
  kernel_rfl
theorem M148_c235 (k : Nat) : Meets Try.prog 148 (S148_c235 k) := meets_of Try.func148 (by kernel_rfl) tbOk (orc_cons (M216_c217c235 k) orc_nil) mixOk (fun x y h => (e148_c235 k x).trans h) rfl

/-! impl_IsTasks: function 214 -/
noncomputable def impl_IsTasks.f (k : Nat) (l0_0 : List Int) : Option (Bool) := (impl_length_int64.f l0_0).bind fun t1 => (impl_within.f t1 1 8).bind fun t2 => if t2 = true then ((impl_areAll_int64_impl_IsTasks_1.f k l0_0 ()).bind fun t3 => some t3) else (some false)
noncomputable def S214 (k : Nat) : Does := ⟨[(true, [.dat (.list (.int .i64))])], [(false, [.dat .bool])], fun x => impl_IsTasks.f k x⟩
noncomputable def E214 (k : Nat) : En := ⟨tb, orcOf [(149, S149 k), (108, S108 k), (148, S148_c235 k)], lvOf [], k, 0, lvOf [], []⟩
theorem e214 (k : Nat) (x : dens (flatC (S214 k).ps)) : funK (E214 k) (S214 k) Try.f214 x = (S214 k).fn x := by
  kernel_rfl
theorem M214 (k : Nat) : Meets Try.prog 214 (S214 k) := meets_of Try.func214 (by kernel_rfl) tbOk (orc_cons (M149 k) (orc_cons (M108 k) (orc_cons (M148_c235 k) orc_nil))) mixOk (fun x y h => (e214 k x).trans h) rfl

/-! impl_Tasks_many: function 197 -/
noncomputable def impl_Tasks_many.f (l0_0 : List Int) : Option (Int) := (impl_length_int64.f l0_0).bind fun t1 => some t1
noncomputable def S197 (k : Nat) : Does := ⟨[(true, [.dat (.list (.int .i64))])], [(false, [.dat (.int .i64)])], fun x => impl_Tasks_many.f x⟩
noncomputable def E197 (k : Nat) : En := ⟨tb, orcOf [(149, S149 k)], lvOf [], k, 0, lvOf [], []⟩
theorem e197 (k : Nat) (x : dens (flatC (S197 k).ps)) : funK (E197 k) (S197 k) Try.f197 x = (S197 k).fn x := by
  kernel_rfl
theorem M197 (k : Nat) : Meets Try.prog 197 (S197 k) := meets_of Try.func197 (by kernel_rfl) tbOk (orc_cons (M149 k) orc_nil) mixOk (fun x y h => (e197 k x).trans h) rfl

/-! impl_bothCode: function 185 -/
noncomputable def impl_bothCode.f (k : Nat) (a0_0 : Int) (a0_1 : Int) (l1_0 : List Int) (a2 : Bool) : Option (Int) := (impl_IsGround.f a0_0 a0_1).bind fun t1 => if t1 = true then ((impl_IsTasks.f k l1_0).bind fun t2 => if (!decide (t2 = true)) = true then (some 1) else (if a2 = true then ((impl_Tasks_many.f l1_0).bind fun t3 => if (!decide (t3 = a0_0)) = true then (some 2) else (some 0)) else (some 2))) else (some 1)
noncomputable def S185 (k : Nat) : Does := ⟨[(true, [.dat (.int .i64), .dat (.int .i64)]), (true, [.dat (.list (.int .i64))]), (false, [.dat .bool])], [(false, [.dat (.int .i64)])], fun x => impl_bothCode.f k x.1 x.2.1 x.2.2.1 x.2.2.2⟩
noncomputable def E185 (k : Nat) : En := ⟨tb, orcOf [(68, S68 k), (214, S214 k), (197, S197 k)], lvOf [], k, 0, lvOf [], []⟩
theorem e185 (k : Nat) (x : dens (flatC (S185 k).ps)) : funK (E185 k) (S185 k) Try.f185 x = (S185 k).fn x := by
  kernel_rfl
theorem M185 (k : Nat) : Meets Try.prog 185 (S185 k) := meets_of Try.func185 (by kernel_rfl) tbOk (orc_cons (M68 k) (orc_cons (M214 k) (orc_cons (M197 k) orc_nil))) mixOk (fun x y h => (e185 k x).trans h) rfl

/-! impl_Tasks_states: function 124 -/
noncomputable def impl_Tasks_states.s0 (k : Nat) (r0 : Int → (List Int) → Int → Int → Option (Int)) (x3 : Int) (x7 : List Int) (x8 : Int) (x9 : Int) : Option (Int) := if x9 < x8 then (if 0 ≤ x9 then (if x9 < (x7.length : Int) then (r0 (wrap64 (x3 * (rd x7 x9))) x7 x8 (wrap64 (x9 + 1))) else (none)) else (none)) else (some x3)
noncomputable def impl_Tasks_states.l0 (k : Nat) : Nat → Int → (List Int) → Int → Int → Option (Int)
  | 0, _, _, _, _ => none
  | n + 1, x0, x1, x2, x3 => impl_Tasks_states.s0 k (impl_Tasks_states.l0 k n) x0 x1 x2 x3
noncomputable def impl_Tasks_states.g (k : Nat) (r0 : Int → (List Int) → Int → Int → Option (Int)) (l0_0 : List Int) : Option (Int) := r0 1 l0_0 (l0_0.length : Int) 0
noncomputable def impl_Tasks_states.f (k : Nat) (l0_0 : List Int) : Option (Int) := impl_Tasks_states.g k (impl_Tasks_states.l0 k k) l0_0
noncomputable def S124 (k : Nat) : Does := ⟨[(true, [.dat (.list (.int .i64))])], [(false, [.dat (.int .i64)])], fun x => impl_Tasks_states.f k x⟩
noncomputable def E124 (k : Nat) : En := ⟨tb, orcOf [], lvOf [(0, [(3, []), (7, []), (8, []), (9, [])])], k, 0, lvOf [], []⟩
noncomputable def n124_0 (x3 : Int) (x7 : List Int) (x8 : Int) (x9 : Int) : St := ⟨18, lookA [(3, .dat (.int .i64) x3), (7, .dat (.list (.int .i64)) x7), (8, .dat (.int .i64) x8), (9, .dat (.int .i64) x9)], Go.V.look []⟩
def p124_0 : List Bool := [true, true, false, true, false]
theorem r124_0 (k : Nat) (rec : St → Option (Int)) (v : Int × (List Int) × Int × Int) : roundF (E124 k) (S124 k) Try.f124 p124_0 [] rec (n124_0 v.1 v.2.1 v.2.2.1 v.2.2.2) = impl_Tasks_states.s0 k (fun a0 a1 a2 a3 => rec (n124_0 a0 a1 a2 a3)) v.1 v.2.1 v.2.2.1 v.2.2.2 := by
  kernel_rfl
theorem q124_0 (k : Nat) (n : Nat) : ∀ v : Int × (List Int) × Int × Int, loopF (E124 k) (S124 k) Try.f124 p124_0 [] n (n124_0 v.1 v.2.1 v.2.2.1 v.2.2.2) = impl_Tasks_states.l0 k n v.1 v.2.1 v.2.2.1 v.2.2.2 :=
  loopF_eq (E124 k) (S124 k) Try.f124 p124_0 [] (fun v : Int × (List Int) × Int × Int => n124_0 v.1 v.2.1 v.2.2.1 v.2.2.2) (fun rec v => impl_Tasks_states.s0 k (fun a0 a1 a2 a3 => rec (a0, a1, a2, a3)) v.1 v.2.1 v.2.2.1 v.2.2.2) (fun n v => impl_Tasks_states.l0 k n v.1 v.2.1 v.2.2.1 v.2.2.2) (fun _ => rfl) (fun _ _ => rfl) (fun rec v => r124_0 k rec v) n
theorem e124 (k : Nat) (x : dens (flatC (S124 k).ps)) : funK (E124 k) (S124 k) Try.f124 x = (S124 k).fn x := by
  have h : funK (E124 k) (S124 k) Try.f124 x = impl_Tasks_states.g k (fun a0 a1 a2 a3 => loopF (E124 k) (S124 k) Try.f124 p124_0 [] k (n124_0 a0 a1 a2 a3)) x := by kernel_rfl
  rw [h]
  rw [show (fun a0 a1 a2 a3 => loopF (E124 k) (S124 k) Try.f124 p124_0 [] k (n124_0 a0 a1 a2 a3)) = impl_Tasks_states.l0 k k from funext fun a0 => funext fun a1 => funext fun a2 => funext fun a3 => q124_0 k k (a0, a1, a2, a3)]
  rfl
theorem M124 (k : Nat) : Meets Try.prog 124 (S124 k) := meets_of Try.func124 (by kernel_rfl) tbOk orc_nil mixOk (fun x y h => (e124 k x).trans h) rfl

/-! impl_Tasks_numbered: function 155 -/
noncomputable def impl_Tasks_numbered.s0 (k : Nat) (r0 : Int → (List Int) → (List Int) → Int → Option ((List Int))) (x1 : Int) (x2_0 : List Int) (x5 : List Int) (x6 : Int) : Option ((List Int)) := if 0 ≤ x6 then (if 0 ≤ x6 then (if x6 < (x2_0.length : Int) then (if (rd x2_0 x6) = 0 then (none) else (if 0 ≤ x6 then (if x6 < (x5.length : Int) then (if 0 ≤ x6 then (if x6 < (x2_0.length : Int) then (if (rd x2_0 x6) = 0 then (none) else (r0 (wrap64 (Int.tdiv x1 (rd x2_0 x6))) x2_0 (x5.set x6.toNat (wrap64 ((Int.tmod x1 (rd x2_0 x6)) + 1))) (wrap64 (x6 - 1)))) else (none)) else (none)) else (none)) else (none))) else (none)) else (none)) else (some x5)
noncomputable def impl_Tasks_numbered.l0 (k : Nat) : Nat → Int → (List Int) → (List Int) → Int → Option ((List Int))
  | 0, _, _, _, _ => none
  | n + 1, x0, x1, x2, x3 => impl_Tasks_numbered.s0 k (impl_Tasks_numbered.l0 k n) x0 x1 x2 x3
noncomputable def impl_Tasks_numbered.g (k : Nat) (r0 : Int → (List Int) → (List Int) → Int → Option ((List Int))) (l0_0 : List Int) (a1 : Int) : Option ((List Int)) := (impl_Tasks_many.f l0_0).bind fun t1 => if 0 ≤ t1 then (if t1 ≤ t1 then (if t1.toNat ≤ 1099511627776 then ((impl_Tasks_many.f l0_0).bind fun t2 => r0 a1 l0_0 (List.replicate t1.toNat (0 : Int)) (wrap64 (t2 - 1))) else (none)) else (none)) else (none)
noncomputable def impl_Tasks_numbered.f (k : Nat) (l0_0 : List Int) (a1 : Int) : Option ((List Int)) := impl_Tasks_numbered.g k (impl_Tasks_numbered.l0 k k) l0_0 a1
noncomputable def S155 (k : Nat) : Does := ⟨[(true, [.dat (.list (.int .i64))]), (false, [.dat (.int .i64)])], [(false, [.own 2 (.int .i64)])], fun x => impl_Tasks_numbered.f k x.1 x.2⟩
noncomputable def E155 (k : Nat) : En := ⟨tb, orcOf [(197, S197 k)], lvOf [(0, [(1, []), (2, []), (5, []), (6, [])])], k, 0, lvOf [], []⟩
noncomputable def n155_0 (x1 : Int) (x2_0 : List Int) (x5 : List Int) (x6 : Int) : St := ⟨36, lookA [(1, .dat (.int .i64) x1), (2, .box 0 0), (5, .own 1), (6, .dat (.int .i64) x6)], Go.V.look [(0, .cells [.dat (.list (.int .i64)) x2_0]), (1, .flat 2 (.int .i64) x5)]⟩
def p155_0 : List Bool := [true, true, false, true, false]
theorem r155_0 (k : Nat) (rec : St → Option ((List Int))) (v : Int × (List Int) × (List Int) × Int) : roundF (E155 k) (S155 k) Try.f155 p155_0 [] rec (n155_0 v.1 v.2.1 v.2.2.1 v.2.2.2) = impl_Tasks_numbered.s0 k (fun a0 a1 a2 a3 => rec (n155_0 a0 a1 a2 a3)) v.1 v.2.1 v.2.2.1 v.2.2.2 := by
  kernel_rfl
theorem q155_0 (k : Nat) (n : Nat) : ∀ v : Int × (List Int) × (List Int) × Int, loopF (E155 k) (S155 k) Try.f155 p155_0 [] n (n155_0 v.1 v.2.1 v.2.2.1 v.2.2.2) = impl_Tasks_numbered.l0 k n v.1 v.2.1 v.2.2.1 v.2.2.2 :=
  loopF_eq (E155 k) (S155 k) Try.f155 p155_0 [] (fun v : Int × (List Int) × (List Int) × Int => n155_0 v.1 v.2.1 v.2.2.1 v.2.2.2) (fun rec v => impl_Tasks_numbered.s0 k (fun a0 a1 a2 a3 => rec (a0, a1, a2, a3)) v.1 v.2.1 v.2.2.1 v.2.2.2) (fun n v => impl_Tasks_numbered.l0 k n v.1 v.2.1 v.2.2.1 v.2.2.2) (fun _ => rfl) (fun _ _ => rfl) (fun rec v => r155_0 k rec v) n
theorem e155 (k : Nat) (x : dens (flatC (S155 k).ps)) : funK (E155 k) (S155 k) Try.f155 x = (S155 k).fn x := by
  have h : funK (E155 k) (S155 k) Try.f155 x = impl_Tasks_numbered.g k (fun a0 a1 a2 a3 => loopF (E155 k) (S155 k) Try.f155 p155_0 [] k (n155_0 a0 a1 a2 a3)) x.1 x.2 := by kernel_rfl
  rw [h]
  rw [show (fun a0 a1 a2 a3 => loopF (E155 k) (S155 k) Try.f155 p155_0 [] k (n155_0 a0 a1 a2 a3)) = impl_Tasks_numbered.l0 k k from funext fun a0 => funext fun a1 => funext fun a2 => funext fun a3 => q155_0 k k (a0, a1, a2, a3)]
  rfl
theorem M155 (k : Nat) : Meets Try.prog 155 (S155 k) := meets_of Try.func155 (by kernel_rfl) tbOk (orc_cons (M197 k) orc_nil) mixOk (fun x y h => (e155 k x).trans h) rfl

/-! slices_Clone_int64_int64: function 125 -/
def slices_Clone_int64_int64.f (l : List Int) : Option (List Int) := if l.length = 0 then some [] else if 0 + l.length ≤ 1099511627776 then some ([] ++ l) else none
def S125 (k : Nat) : Does := ⟨[(false, [.dat (.list (.int .i64))])], [(false, [.own 2 (.int .i64)])], fun x => slices_Clone_int64_int64.f x⟩
def E125 : En := ⟨tb, orcOf [], lvOf [], 0, 0, lvOf [], []⟩
theorem slices_Clone_int64_int64.e (l : List Int) (h : l.length ≠ 0) : slices_Clone_int64_int64.f l = (if l.length = 0 then none else if 0 + l.length ≤ 1099511627776 then some ([] ++ l) else none) := by
  unfold slices_Clone_int64_int64.f; rw [if_neg h, if_neg h]
theorem M125 (k : Nat) : Meets Try.prog 125 (S125 k) := by
  refine meets_nil (E := E125) (t := (.int .i64)) (rs := [(false, [.own 2 (.int .i64)])]) (F := slices_Clone_int64_int64.f) Try.func125 (by kernel_rfl) tbOk orc_nil mixOk rfl rfl rfl (fun l hl => ?_) (by kernel_rfl) (by kernel_rfl)
  refine Eq.trans ?_ (slices_Clone_int64_int64.e l hl).symm
  kernel_rfl

/-! impl_Tasks_step: function 140 -/
noncomputable def impl_Tasks_step.s0 (k : Nat) (r0 : Int → (List Int) → (List Int) → Int → Int → Option ((List Int) × Bool)) (x2 : Int) (x3_0 : List Int) (x8 : List Int) (x13 : Int) (x14 : Int) : Option ((List Int) × Bool) := if x14 < x13 then (if (decide (x14 = x2)) = true then (if 0 ≤ x14 then (if x14 < (x3_0.length : Int) then (if 0 ≤ x14 then (if x14 < (x8.length : Int) then (r0 x2 x3_0 (x8.set x14.toNat (rd x3_0 x14)) x13 (wrap64 (x14 + 1))) else (none)) else (none)) else (none)) else (none)) else (if 0 ≤ x14 then (if x14 < (x8.length : Int) then (if (decide ((rd x8 x14) < 2)) = true then (some ([], false)) else (if 0 ≤ x14 then (if x14 < (x8.length : Int) then (if 0 ≤ x14 then (if x14 < (x8.length : Int) then (r0 x2 x3_0 (x8.set x14.toNat (wrap64 ((rd x8 x14) - 1))) x13 (wrap64 (x14 + 1))) else (none)) else (none)) else (none)) else (none))) else (none)) else (none))) else (some (x8, true))
noncomputable def impl_Tasks_step.l0 (k : Nat) : Nat → Int → (List Int) → (List Int) → Int → Int → Option ((List Int) × Bool)
  | 0, _, _, _, _, _ => none
  | n + 1, x0, x1, x2, x3, x4 => impl_Tasks_step.s0 k (impl_Tasks_step.l0 k n) x0 x1 x2 x3 x4
noncomputable def impl_Tasks_step.g (k : Nat) (r0 : Int → (List Int) → (List Int) → Int → Int → Option ((List Int) × Bool)) (l0_0 : List Int) (l1 : List Int) (a2 : Int) : Option ((List Int) × Bool) := (slices_Clone_int64_int64.f l1).bind fun t1 => r0 a2 l0_0 t1 (t1.length : Int) 0
noncomputable def impl_Tasks_step.f (k : Nat) (l0_0 : List Int) (l1 : List Int) (a2 : Int) : Option ((List Int) × Bool) := impl_Tasks_step.g k (impl_Tasks_step.l0 k k) l0_0 l1 a2
noncomputable def S140 (k : Nat) : Does := ⟨[(true, [.dat (.list (.int .i64))]), (false, [.dat (.list (.int .i64))]), (false, [.dat (.int .i64)])], [(false, [.own 2 (.int .i64)]), (false, [.dat .bool])], fun x => impl_Tasks_step.f k x.1 x.2.1 x.2.2⟩
noncomputable def E140 (k : Nat) : En := ⟨tb, orcOf [(125, S125 k)], lvOf [(0, [(2, []), (3, []), (8, []), (13, []), (14, [])])], k, 0, lvOf [], []⟩
noncomputable def n140_0 (x2 : Int) (x3_0 : List Int) (x8 : List Int) (x13 : Int) (x14 : Int) : St := ⟨43, lookA [(2, .dat (.int .i64) x2), (3, .box 0 0), (8, .own 1), (13, .dat (.int .i64) x13), (14, .dat (.int .i64) x14)], Go.V.look [(0, .cells [.dat (.list (.int .i64)) x3_0]), (1, .flat 2 (.int .i64) x8)]⟩
def p140_0 : List Bool := [true, true, false, true, false]
theorem r140_0 (k : Nat) (rec : St → Option ((List Int) × Bool)) (v : Int × (List Int) × (List Int) × Int × Int) : roundF (E140 k) (S140 k) Try.f140 p140_0 [] rec (n140_0 v.1 v.2.1 v.2.2.1 v.2.2.2.1 v.2.2.2.2) = impl_Tasks_step.s0 k (fun a0 a1 a2 a3 a4 => rec (n140_0 a0 a1 a2 a3 a4)) v.1 v.2.1 v.2.2.1 v.2.2.2.1 v.2.2.2.2 := by
  kernel_rfl
theorem q140_0 (k : Nat) (n : Nat) : ∀ v : Int × (List Int) × (List Int) × Int × Int, loopF (E140 k) (S140 k) Try.f140 p140_0 [] n (n140_0 v.1 v.2.1 v.2.2.1 v.2.2.2.1 v.2.2.2.2) = impl_Tasks_step.l0 k n v.1 v.2.1 v.2.2.1 v.2.2.2.1 v.2.2.2.2 :=
  loopF_eq (E140 k) (S140 k) Try.f140 p140_0 [] (fun v : Int × (List Int) × (List Int) × Int × Int => n140_0 v.1 v.2.1 v.2.2.1 v.2.2.2.1 v.2.2.2.2) (fun rec v => impl_Tasks_step.s0 k (fun a0 a1 a2 a3 a4 => rec (a0, a1, a2, a3, a4)) v.1 v.2.1 v.2.2.1 v.2.2.2.1 v.2.2.2.2) (fun n v => impl_Tasks_step.l0 k n v.1 v.2.1 v.2.2.1 v.2.2.2.1 v.2.2.2.2) (fun _ => rfl) (fun _ _ => rfl) (fun rec v => r140_0 k rec v) n
theorem e140 (k : Nat) (x : dens (flatC (S140 k).ps)) : funK (E140 k) (S140 k) Try.f140 x = (S140 k).fn x := by
  have h : funK (E140 k) (S140 k) Try.f140 x = impl_Tasks_step.g k (fun a0 a1 a2 a3 a4 => loopF (E140 k) (S140 k) Try.f140 p140_0 [] k (n140_0 a0 a1 a2 a3 a4)) x.1 x.2.1 x.2.2 := by kernel_rfl
  rw [h]
  rw [show (fun a0 a1 a2 a3 a4 => loopF (E140 k) (S140 k) Try.f140 p140_0 [] k (n140_0 a0 a1 a2 a3 a4)) = impl_Tasks_step.l0 k k from funext fun a0 => funext fun a1 => funext fun a2 => funext fun a3 => funext fun a4 => q140_0 k k (a0, a1, a2, a3, a4)]
  rfl
theorem M140 (k : Nat) : Meets Try.prog 140 (S140 k) := meets_of Try.func140 (by kernel_rfl) tbOk (orc_cons (M125 k) orc_nil) mixOk (fun x y h => (e140 k x).trans h) rfl

/-! impl_road: function 165 -/
noncomputable def impl_road.f (a0 : Int) (a1 : Int) : Option (Int) := if (wrap64 ((wrap64 (Int.tdiv (wrap64 ((maxV a0 a1) * (wrap64 ((maxV a0 a1) - 1)))) 2)) + (minV a0 a1))) < 0 then (none) else (some (shlV .i64 1 (wrap64 ((wrap64 (Int.tdiv (wrap64 ((maxV a0 a1) * (wrap64 ((maxV a0 a1) - 1)))) 2)) + (minV a0 a1)))))
noncomputable def S165 (k : Nat) : Does := ⟨[(false, [.dat (.int .i64)]), (false, [.dat (.int .i64)])], [(false, [.dat (.int .i64)])], fun x => impl_road.f x.1 x.2⟩
noncomputable def E165 (k : Nat) : En := ⟨tb, orcOf [], lvOf [], k, 0, lvOf [], []⟩
theorem e165 (k : Nat) (x : dens (flatC (S165 k).ps)) : funK (E165 k) (S165 k) Try.f165 x = (S165 k).fn x := by
  kernel_rfl
theorem M165 (k : Nat) : Meets Try.prog 165 (S165 k) := meets_of Try.func165 (by kernel_rfl) tbOk orc_nil mixOk (fun x y h => (e165 k x).trans h) rfl

/-! impl_Ground_joins: function 218 -/
noncomputable def impl_Ground_joins.f (a0_0 : Int) (a0_1 : Int) (a1 : Int) (a2 : Int) : Option (Bool) := if a1 = a2 then (some false) else ((impl_road.f a1 a2).bind fun t1 => some (!decide ((andV .i64 a0_1 t1) = 0)))
noncomputable def S218 (k : Nat) : Does := ⟨[(true, [.dat (.int .i64), .dat (.int .i64)]), (false, [.dat (.int .i64)]), (false, [.dat (.int .i64)])], [(false, [.dat .bool])], fun x => impl_Ground_joins.f x.1 x.2.1 x.2.2.1 x.2.2.2⟩
noncomputable def E218 (k : Nat) : En := ⟨tb, orcOf [(165, S165 k)], lvOf [], k, 0, lvOf [], []⟩
theorem e218 (k : Nat) (x : dens (flatC (S218 k).ps)) : funK (E218 k) (S218 k) Try.f218 x = (S218 k).fn x := by
  kernel_rfl
theorem M218 (k : Nat) : Meets Try.prog 218 (S218 k) := meets_of Try.func218 (by kernel_rfl) tbOk (orc_cons (M165 k) orc_nil) mixOk (fun x y h => (e218 k x).trans h) rfl

/-! impl_Ground_isNear: function 175 -/
noncomputable def impl_Ground_isNear.f (a0_0 : Int) (a0_1 : Int) (a1 : Int) (a2 : Int) : Option (Bool) := if a1 = a2 then (some true) else ((impl_Ground_joins.f a0_0 a0_1 a1 a2).bind fun t1 => some t1)
noncomputable def S175 (k : Nat) : Does := ⟨[(true, [.dat (.int .i64), .dat (.int .i64)]), (false, [.dat (.int .i64)]), (false, [.dat (.int .i64)])], [(false, [.dat .bool])], fun x => impl_Ground_isNear.f x.1 x.2.1 x.2.2.1 x.2.2.2⟩
noncomputable def E175 (k : Nat) : En := ⟨tb, orcOf [(218, S218 k)], lvOf [], k, 0, lvOf [], []⟩
theorem e175 (k : Nat) (x : dens (flatC (S175 k).ps)) : funK (E175 k) (S175 k) Try.f175 x = (S175 k).fn x := by
  kernel_rfl
theorem M175 (k : Nat) : Meets Try.prog 175 (S175 k) := meets_of Try.func175 (by kernel_rfl) tbOk (orc_cons (M218 k) orc_nil) mixOk (fun x y h => (e175 k x).trans h) rfl

/-! impl_Tasks_number: function 130 -/
noncomputable def impl_Tasks_number.s0 (k : Nat) (r0 : (List Int) → Int → (List Int) → Int → Int → Option (Int)) (x2_0 : List Int) (x5 : Int) (x8 : List Int) (x9 : Int) (x10 : Int) : Option (Int) := if x10 < x9 then (if 0 ≤ x10 then (if x10 < (x8.length : Int) then (if 0 ≤ x10 then (if x10 < (x2_0.length : Int) then (r0 x2_0 (wrap64 ((wrap64 ((wrap64 (x5 * (rd x2_0 x10))) + (rd x8 x10))) - 1)) x8 x9 (wrap64 (x10 + 1))) else (none)) else (none)) else (none)) else (none)) else (some x5)
noncomputable def impl_Tasks_number.l0 (k : Nat) : Nat → (List Int) → Int → (List Int) → Int → Int → Option (Int)
  | 0, _, _, _, _, _ => none
  | n + 1, x0, x1, x2, x3, x4 => impl_Tasks_number.s0 k (impl_Tasks_number.l0 k n) x0 x1 x2 x3 x4
noncomputable def impl_Tasks_number.g (k : Nat) (r0 : (List Int) → Int → (List Int) → Int → Int → Option (Int)) (l0_0 : List Int) (l1 : List Int) : Option (Int) := r0 l0_0 0 l1 (l1.length : Int) 0
noncomputable def impl_Tasks_number.f (k : Nat) (l0_0 : List Int) (l1 : List Int) : Option (Int) := impl_Tasks_number.g k (impl_Tasks_number.l0 k k) l0_0 l1
noncomputable def S130 (k : Nat) : Does := ⟨[(true, [.dat (.list (.int .i64))]), (false, [.dat (.list (.int .i64))])], [(false, [.dat (.int .i64)])], fun x => impl_Tasks_number.f k x.1 x.2⟩
noncomputable def E130 (k : Nat) : En := ⟨tb, orcOf [], lvOf [(0, [(2, []), (5, []), (8, []), (9, []), (10, [])])], k, 0, lvOf [], []⟩
noncomputable def n130_0 (x2_0 : List Int) (x5 : Int) (x8 : List Int) (x9 : Int) (x10 : Int) : St := ⟨27, lookA [(2, .box 0 0), (5, .dat (.int .i64) x5), (8, .dat (.list (.int .i64)) x8), (9, .dat (.int .i64) x9), (10, .dat (.int .i64) x10)], Go.V.look [(0, .cells [.dat (.list (.int .i64)) x2_0])]⟩
def p130_0 : List Bool := [true, true, false, true, false]
theorem r130_0 (k : Nat) (rec : St → Option (Int)) (v : (List Int) × Int × (List Int) × Int × Int) : roundF (E130 k) (S130 k) Try.f130 p130_0 [] rec (n130_0 v.1 v.2.1 v.2.2.1 v.2.2.2.1 v.2.2.2.2) = impl_Tasks_number.s0 k (fun a0 a1 a2 a3 a4 => rec (n130_0 a0 a1 a2 a3 a4)) v.1 v.2.1 v.2.2.1 v.2.2.2.1 v.2.2.2.2 := by
  kernel_rfl
theorem q130_0 (k : Nat) (n : Nat) : ∀ v : (List Int) × Int × (List Int) × Int × Int, loopF (E130 k) (S130 k) Try.f130 p130_0 [] n (n130_0 v.1 v.2.1 v.2.2.1 v.2.2.2.1 v.2.2.2.2) = impl_Tasks_number.l0 k n v.1 v.2.1 v.2.2.1 v.2.2.2.1 v.2.2.2.2 :=
  loopF_eq (E130 k) (S130 k) Try.f130 p130_0 [] (fun v : (List Int) × Int × (List Int) × Int × Int => n130_0 v.1 v.2.1 v.2.2.1 v.2.2.2.1 v.2.2.2.2) (fun rec v => impl_Tasks_number.s0 k (fun a0 a1 a2 a3 a4 => rec (a0, a1, a2, a3, a4)) v.1 v.2.1 v.2.2.1 v.2.2.2.1 v.2.2.2.2) (fun n v => impl_Tasks_number.l0 k n v.1 v.2.1 v.2.2.1 v.2.2.2.1 v.2.2.2.2) (fun _ => rfl) (fun _ _ => rfl) (fun rec v => r130_0 k rec v) n
theorem e130 (k : Nat) (x : dens (flatC (S130 k).ps)) : funK (E130 k) (S130 k) Try.f130 x = (S130 k).fn x := by
  have h : funK (E130 k) (S130 k) Try.f130 x = impl_Tasks_number.g k (fun a0 a1 a2 a3 a4 => loopF (E130 k) (S130 k) Try.f130 p130_0 [] k (n130_0 a0 a1 a2 a3 a4)) x.1 x.2 := by kernel_rfl
  rw [h]
  rw [show (fun a0 a1 a2 a3 a4 => loopF (E130 k) (S130 k) Try.f130 p130_0 [] k (n130_0 a0 a1 a2 a3 a4)) = impl_Tasks_number.l0 k k from funext fun a0 => funext fun a1 => funext fun a2 => funext fun a3 => funext fun a4 => q130_0 k k (a0, a1, a2, a3, a4)]
  rfl
theorem M130 (k : Nat) : Meets Try.prog 130 (S130 k) := meets_of Try.func130 (by kernel_rfl) tbOk orc_nil mixOk (fun x y h => (e130 k x).trans h) rfl

/-! impl_watch_moves: function 237 -/
noncomputable def impl_watch_moves.s0 (k : Nat) (r0 : ((Int × Int) × (List Int) × (List (List Int)) × (List Bool)) → Int → (List Int) → (List Int) → Int → Int → Option ((List Int))) (x0 : (Int × Int) × (List Int) × (List (List Int)) × (List Bool)) (x5 : Int) (x6 : List Int) (x7 : List Int) (x34 : Int) (x35 : Int) : Option ((List Int)) := if x35 < x34 then ((impl_Tasks_step.f k x0.2.1 x6 x35).bind fun t2 => if t2.2 = true then ((impl_Ground_isNear.f x0.1.1 x0.1.2 x5 x35).bind fun t3 => if t3 = true then ((impl_Tasks_number.f k x0.2.1 t2.1).bind fun t4 => if x7.length + 1 ≤ 1099511627776 then (r0 x0 x5 x6 (x7 ++ [(wrap64 ((wrap64 (t4 * x0.1.1)) + x35))]) x34 (wrap64 (x35 + 1))) else (none)) else (r0 x0 x5 x6 x7 x34 (wrap64 (x35 + 1)))) else (r0 x0 x5 x6 x7 x34 (wrap64 (x35 + 1)))) else (some x7)
noncomputable def impl_watch_moves.l0 (k : Nat) : Nat → ((Int × Int) × (List Int) × (List (List Int)) × (List Bool)) → Int → (List Int) → (List Int) → Int → Int → Option ((List Int))
  | 0, _, _, _, _, _, _ => none
  | n + 1, x0, x1, x2, x3, x4, x5 => impl_watch_moves.s0 k (impl_watch_moves.l0 k n) x0 x1 x2 x3 x4 x5
noncomputable def impl_watch_moves.g (k : Nat) (r0 : ((Int × Int) × (List Int) × (List (List Int)) × (List Bool)) → Int → (List Int) → (List Int) → Int → Int → Option ((List Int))) (a0 : (Int × Int) × (List Int) × (List (List Int)) × (List Bool)) (a1 : Int) : Option ((List Int)) := if a0.1.1 = 0 then (none) else (if a0.1.1 = 0 then (none) else ((impl_Tasks_numbered.f k a0.2.1 (wrap64 (Int.tdiv a1 a0.1.1))).bind fun t1 => r0 a0 (Int.tmod a1 a0.1.1) t1 [] a0.1.1 0))
noncomputable def impl_watch_moves.f (k : Nat) (a0 : (Int × Int) × (List Int) × (List (List Int)) × (List Bool)) (a1 : Int) : Option ((List Int)) := impl_watch_moves.g k (impl_watch_moves.l0 k k) a0 a1
noncomputable def S237 (k : Nat) : Does := ⟨[(false, [.dat (.ptr (.struct (.pair (.struct (.pair (.int .i64) (.int .i64))) (.pair (.struct (.list (.int .i64))) (.pair (.list (.list (.int .i64))) (.list .bool))))))]), (false, [.dat (.int .i64)])], [(false, [.own 2 (.int .i64)])], fun x => impl_watch_moves.f k x.1 x.2⟩
noncomputable def E237 (k : Nat) : En := ⟨tb, orcOf [(155, S155 k), (140, S140 k), (175, S175 k), (130, S130 k)], lvOf [(0, [(0, []), (5, []), (6, []), (7, [.nil 2 (.int .i64)]), (34, []), (35, [])])], k, 0, lvOf [], []⟩
noncomputable def n237_0 (x0 : (Int × Int) × (List Int) × (List (List Int)) × (List Bool)) (x5 : Int) (x6 : List Int) (x7 : List Int) (x34 : Int) (x35 : Int) : St := ⟨77, lookA [(0, .dp (.struct (.pair (.struct (.pair (.int .i64) (.int .i64))) (.pair (.struct (.list (.int .i64))) (.pair (.list (.list (.int .i64))) (.list .bool))))) x0), (5, .dat (.int .i64) x5), (6, .own 0), (7, .own 1), (34, .dat (.int .i64) x34), (35, .dat (.int .i64) x35)], Go.V.look [(0, .flat 2 (.int .i64) x6), (1, .flat 2 (.int .i64) x7)]⟩
def p237_0 : List Bool := [true, true, true, false, true, false]
theorem r237_0 (k : Nat) (rec : St → Option ((List Int))) (v : ((Int × Int) × (List Int) × (List (List Int)) × (List Bool)) × Int × (List Int) × (List Int) × Int × Int) : roundF (E237 k) (S237 k) Try.f237 p237_0 [] rec (n237_0 v.1 v.2.1 v.2.2.1 v.2.2.2.1 v.2.2.2.2.1 v.2.2.2.2.2) = impl_watch_moves.s0 k (fun a0 a1 a2 a3 a4 a5 => rec (n237_0 a0 a1 a2 a3 a4 a5)) v.1 v.2.1 v.2.2.1 v.2.2.2.1 v.2.2.2.2.1 v.2.2.2.2.2 := by
  kernel_rfl
theorem q237_0 (k : Nat) (n : Nat) : ∀ v : ((Int × Int) × (List Int) × (List (List Int)) × (List Bool)) × Int × (List Int) × (List Int) × Int × Int, loopF (E237 k) (S237 k) Try.f237 p237_0 [] n (n237_0 v.1 v.2.1 v.2.2.1 v.2.2.2.1 v.2.2.2.2.1 v.2.2.2.2.2) = impl_watch_moves.l0 k n v.1 v.2.1 v.2.2.1 v.2.2.2.1 v.2.2.2.2.1 v.2.2.2.2.2 :=
  loopF_eq (E237 k) (S237 k) Try.f237 p237_0 [] (fun v : ((Int × Int) × (List Int) × (List (List Int)) × (List Bool)) × Int × (List Int) × (List Int) × Int × Int => n237_0 v.1 v.2.1 v.2.2.1 v.2.2.2.1 v.2.2.2.2.1 v.2.2.2.2.2) (fun rec v => impl_watch_moves.s0 k (fun a0 a1 a2 a3 a4 a5 => rec (a0, a1, a2, a3, a4, a5)) v.1 v.2.1 v.2.2.1 v.2.2.2.1 v.2.2.2.2.1 v.2.2.2.2.2) (fun n v => impl_watch_moves.l0 k n v.1 v.2.1 v.2.2.1 v.2.2.2.1 v.2.2.2.2.1 v.2.2.2.2.2) (fun _ => rfl) (fun _ _ => rfl) (fun rec v => r237_0 k rec v) n
theorem e237 (k : Nat) (x : dens (flatC (S237 k).ps)) : funK (E237 k) (S237 k) Try.f237 x = (S237 k).fn x := by
  have h : funK (E237 k) (S237 k) Try.f237 x = impl_watch_moves.g k (fun a0 a1 a2 a3 a4 a5 => loopF (E237 k) (S237 k) Try.f237 p237_0 [] k (n237_0 a0 a1 a2 a3 a4 a5)) x.1 x.2 := by kernel_rfl
  rw [h]
  rw [show (fun a0 a1 a2 a3 a4 a5 => loopF (E237 k) (S237 k) Try.f237 p237_0 [] k (n237_0 a0 a1 a2 a3 a4 a5)) = impl_watch_moves.l0 k k from funext fun a0 => funext fun a1 => funext fun a2 => funext fun a3 => funext fun a4 => funext fun a5 => q237_0 k k (a0, a1, a2, a3, a4, a5)]
  rfl
theorem M237 (k : Nat) : Meets Try.prog 237 (S237 k) := meets_of Try.func237 (by kernel_rfl) tbOk (orc_cons (M155 k) (orc_cons (M140 k) (orc_cons (M175 k) (orc_cons (M130 k) orc_nil)))) mixOk (fun x y h => (e237 k x).trans h) rfl

/-! impl_watch_move: function 181 -/
noncomputable def impl_watch_move.s0 (k : Nat) (r0 : ((Int × Int) × (List Int) × (List (List Int)) × (List Bool)) → (List Int) → Int → Int → Option (Int)) (x0 : (Int × Int) × (List Int) × (List (List Int)) × (List Bool)) (x13 : List Int) (x14 : Int) (x15 : Int) : Option (Int) := if x15 < x14 then (if 0 ≤ x15 then (if x15 < (x13.length : Int) then (if 0 ≤ (rd x13 x15) then (if (rd x13 x15) < (x0.2.2.2.length : Int) then (if (rdOf false x0.2.2.2 (rd x13 x15)) = true then (some (rd x13 x15)) else (r0 x0 x13 x14 (wrap64 (x15 + 1)))) else (none)) else (none)) else (none)) else (none)) else (some (-1))
noncomputable def impl_watch_move.l0 (k : Nat) : Nat → ((Int × Int) × (List Int) × (List (List Int)) × (List Bool)) → (List Int) → Int → Int → Option (Int)
  | 0, _, _, _, _ => none
  | n + 1, x0, x1, x2, x3 => impl_watch_move.s0 k (impl_watch_move.l0 k n) x0 x1 x2 x3
noncomputable def impl_watch_move.g (k : Nat) (r0 : ((Int × Int) × (List Int) × (List (List Int)) × (List Bool)) → (List Int) → Int → Int → Option (Int)) (a0 : (Int × Int) × (List Int) × (List (List Int)) × (List Bool)) (a1 : Int) : Option (Int) := if 0 ≤ a1 then (if a1 < (a0.2.2.1.length : Int) then (r0 a0 (rdOf ([] : List Int) a0.2.2.1 a1) ((rdOf ([] : List Int) a0.2.2.1 a1).length : Int) 0) else (none)) else (none)
noncomputable def impl_watch_move.f (k : Nat) (a0 : (Int × Int) × (List Int) × (List (List Int)) × (List Bool)) (a1 : Int) : Option (Int) := impl_watch_move.g k (impl_watch_move.l0 k k) a0 a1
noncomputable def S181 (k : Nat) : Does := ⟨[(false, [.dat (.ptr (.struct (.pair (.struct (.pair (.int .i64) (.int .i64))) (.pair (.struct (.list (.int .i64))) (.pair (.list (.list (.int .i64))) (.list .bool))))))]), (false, [.dat (.int .i64)])], [(false, [.dat (.int .i64)])], fun x => impl_watch_move.f k x.1 x.2⟩
noncomputable def E181 (k : Nat) : En := ⟨tb, orcOf [], lvOf [(0, [(0, []), (13, []), (14, []), (15, [])])], k, 0, lvOf [], []⟩
noncomputable def n181_0 (x0 : (Int × Int) × (List Int) × (List (List Int)) × (List Bool)) (x13 : List Int) (x14 : Int) (x15 : Int) : St := ⟨28, lookA [(0, .dp (.struct (.pair (.struct (.pair (.int .i64) (.int .i64))) (.pair (.struct (.list (.int .i64))) (.pair (.list (.list (.int .i64))) (.list .bool))))) x0), (13, .dat (.list (.int .i64)) x13), (14, .dat (.int .i64) x14), (15, .dat (.int .i64) x15)], Go.V.look []⟩
def p181_0 : List Bool := [true, false, true, false]
theorem r181_0 (k : Nat) (rec : St → Option (Int)) (v : ((Int × Int) × (List Int) × (List (List Int)) × (List Bool)) × (List Int) × Int × Int) : roundF (E181 k) (S181 k) Try.f181 p181_0 [] rec (n181_0 v.1 v.2.1 v.2.2.1 v.2.2.2) = impl_watch_move.s0 k (fun a0 a1 a2 a3 => rec (n181_0 a0 a1 a2 a3)) v.1 v.2.1 v.2.2.1 v.2.2.2 := by
  kernel_rfl
theorem q181_0 (k : Nat) (n : Nat) : ∀ v : ((Int × Int) × (List Int) × (List (List Int)) × (List Bool)) × (List Int) × Int × Int, loopF (E181 k) (S181 k) Try.f181 p181_0 [] n (n181_0 v.1 v.2.1 v.2.2.1 v.2.2.2) = impl_watch_move.l0 k n v.1 v.2.1 v.2.2.1 v.2.2.2 :=
  loopF_eq (E181 k) (S181 k) Try.f181 p181_0 [] (fun v : ((Int × Int) × (List Int) × (List (List Int)) × (List Bool)) × (List Int) × Int × Int => n181_0 v.1 v.2.1 v.2.2.1 v.2.2.2) (fun rec v => impl_watch_move.s0 k (fun a0 a1 a2 a3 => rec (a0, a1, a2, a3)) v.1 v.2.1 v.2.2.1 v.2.2.2) (fun n v => impl_watch_move.l0 k n v.1 v.2.1 v.2.2.1 v.2.2.2) (fun _ => rfl) (fun _ _ => rfl) (fun rec v => r181_0 k rec v) n
theorem e181 (k : Nat) (x : dens (flatC (S181 k).ps)) : funK (E181 k) (S181 k) Try.f181 x = (S181 k).fn x := by
  have h : funK (E181 k) (S181 k) Try.f181 x = impl_watch_move.g k (fun a0 a1 a2 a3 => loopF (E181 k) (S181 k) Try.f181 p181_0 [] k (n181_0 a0 a1 a2 a3)) x.1 x.2 := by kernel_rfl
  rw [h]
  rw [show (fun a0 a1 a2 a3 => loopF (E181 k) (S181 k) Try.f181 p181_0 [] k (n181_0 a0 a1 a2 a3)) = impl_watch_move.l0 k k from funext fun a0 => funext fun a1 => funext fun a2 => funext fun a3 => q181_0 k k (a0, a1, a2, a3)]
  rfl
theorem M181 (k : Nat) : Meets Try.prog 181 (S181 k) := meets_of Try.func181 (by kernel_rfl) tbOk orc_nil mixOk (fun x y h => (e181 k x).trans h) rfl

/-! impl_watchOf: function 219 -/
noncomputable def impl_watchOf.s2 (k : Nat) (r1 : Int → Int → (List Int) → (List (List Int)) → (List Bool) → Bool → Option (((Int × Int) × (List Int) × (List (List Int)) × (List Bool)))) (r2 : Int → Int → (List Int) → (List (List Int)) → (List Bool) → Bool → Int → Int → Option (((Int × Int) × (List Int) × (List (List Int)) × (List Bool)))) (x5_0 : Int) (x5_1 : Int) (x5_2 : List Int) (x5_3 : List (List Int)) (x5_4 : List Bool) (x8 : Bool) (x69 : Int) (x70 : Int) : Option (((Int × Int) × (List Int) × (List (List Int)) × (List Bool))) := if x70 < x69 then (if 0 ≤ x70 then (if x70 < (x5_4.length : Int) then (if (rdOf false x5_4 x70) = true then ((impl_watch_move.f k ((x5_0, x5_1), x5_2, x5_3, x5_4) x70).bind fun t4 => if t4 < 0 then (if 0 ≤ x70 then (if x70 < (x5_4.length : Int) then (r2 x5_0 x5_1 x5_2 x5_3 (x5_4.set x70.toNat false) true x69 (wrap64 (x70 + 1))) else (none)) else (none)) else (r2 x5_0 x5_1 x5_2 x5_3 x5_4 x8 x69 (wrap64 (x70 + 1)))) else (r2 x5_0 x5_1 x5_2 x5_3 x5_4 x8 x69 (wrap64 (x70 + 1)))) else (none)) else (none)) else (r1 x5_0 x5_1 x5_2 x5_3 x5_4 x8)
noncomputable def impl_watchOf.l2 (k : Nat) (r1 : Int → Int → (List Int) → (List (List Int)) → (List Bool) → Bool → Option (((Int × Int) × (List Int) × (List (List Int)) × (List Bool)))) : Nat → Int → Int → (List Int) → (List (List Int)) → (List Bool) → Bool → Int → Int → Option (((Int × Int) × (List Int) × (List (List Int)) × (List Bool)))
  | 0, _, _, _, _, _, _, _, _ => none
  | n + 1, x0, x1, x2, x3, x4, x5, x6, x7 => impl_watchOf.s2 k r1 (impl_watchOf.l2 k r1 n) x0 x1 x2 x3 x4 x5 x6 x7
noncomputable def impl_watchOf.s1 (k : Nat) (r1 : Int → Int → (List Int) → (List (List Int)) → (List Bool) → Bool → Option (((Int × Int) × (List Int) × (List (List Int)) × (List Bool)))) (r2 : Int → Int → (List Int) → (List (List Int)) → (List Bool) → Bool → Int → Int → Option (((Int × Int) × (List Int) × (List (List Int)) × (List Bool)))) (x5_0 : Int) (x5_1 : Int) (x5_2 : List Int) (x5_3 : List (List Int)) (x5_4 : List Bool) (x8 : Bool) : Option (((Int × Int) × (List Int) × (List (List Int)) × (List Bool))) := if x8 = true then (r2 x5_0 x5_1 x5_2 x5_3 x5_4 false (x5_4.length : Int) 0) else (some ((x5_0, x5_1), x5_2, x5_3, x5_4))
noncomputable def impl_watchOf.l1 (k : Nat) : Nat → Int → Int → (List Int) → (List (List Int)) → (List Bool) → Bool → Option (((Int × Int) × (List Int) × (List (List Int)) × (List Bool)))
  | 0, _, _, _, _, _, _ => none
  | n + 1, x0, x1, x2, x3, x4, x5 => impl_watchOf.s1 k (impl_watchOf.l1 k n) (impl_watchOf.l2 k (impl_watchOf.l1 k n) k) x0 x1 x2 x3 x4 x5
noncomputable def impl_watchOf.s0 (k : Nat) (r0 : Int → Int → (List Int) → Int → Int → (List Int) → (List (List Int)) → (List Bool) → Int → Int → Option (((Int × Int) × (List Int) × (List (List Int)) × (List Bool)))) (r1 : Int → Int → (List Int) → (List (List Int)) → (List Bool) → Bool → Option (((Int × Int) × (List Int) × (List (List Int)) × (List Bool)))) (x2_0 : Int) (x2_1 : Int) (x3_0 : List Int) (x5_0 : Int) (x5_1 : Int) (x5_2 : List Int) (x5_3 : List (List Int)) (x5_4 : List Bool) (x19 : Int) (x20 : Int) : Option (((Int × Int) × (List Int) × (List (List Int)) × (List Bool))) := if x20 < x19 then (if x2_0 = 0 then (none) else ((impl_watch_moves.f k ((x5_0, x5_1), x5_2, x5_3, x5_4) x20).bind fun t2 => if x5_3.length + 1 ≤ 1099511627776 then (if x2_0 = 0 then (none) else ((impl_Tasks_numbered.f k x3_0 (wrap64 (Int.tdiv x20 x2_0))).bind fun t3 => if 0 ≤ (Int.tmod x20 x2_0) then (if (Int.tmod x20 x2_0) < (t3.length : Int) then (if 0 ≤ (Int.tmod x20 x2_0) then (if (Int.tmod x20 x2_0) < (x3_0.length : Int) then (if x5_4.length + 1 ≤ 1099511627776 then (r0 x2_0 x2_1 x3_0 x5_0 x5_1 x5_2 (x5_3 ++ [t2]) (x5_4 ++ [(decide ((rd t3 (Int.tmod x20 x2_0)) = (rd x3_0 (Int.tmod x20 x2_0))))]) x19 (wrap64 (x20 + 1))) else (none)) else (none)) else (none)) else (none)) else (none))) else (none))) else (r1 x5_0 x5_1 x5_2 x5_3 x5_4 true)
noncomputable def impl_watchOf.l0 (k : Nat) : Nat → Int → Int → (List Int) → Int → Int → (List Int) → (List (List Int)) → (List Bool) → Int → Int → Option (((Int × Int) × (List Int) × (List (List Int)) × (List Bool)))
  | 0, _, _, _, _, _, _, _, _, _, _ => none
  | n + 1, x0, x1, x2, x3, x4, x5, x6, x7, x8, x9 => impl_watchOf.s0 k (impl_watchOf.l0 k n) (impl_watchOf.l1 k k) x0 x1 x2 x3 x4 x5 x6 x7 x8 x9
noncomputable def impl_watchOf.g (k : Nat) (r0 : Int → Int → (List Int) → Int → Int → (List Int) → (List (List Int)) → (List Bool) → Int → Int → Option (((Int × Int) × (List Int) × (List (List Int)) × (List Bool)))) (a0_0 : Int) (a0_1 : Int) (l1_0 : List Int) : Option (((Int × Int) × (List Int) × (List (List Int)) × (List Bool))) := (impl_Tasks_states.f k l1_0).bind fun t1 => r0 a0_0 a0_1 l1_0 a0_0 a0_1 l1_0 [] [] (wrap64 (t1 * a0_0)) 0
noncomputable def impl_watchOf.f (k : Nat) (a0_0 : Int) (a0_1 : Int) (l1_0 : List Int) : Option (((Int × Int) × (List Int) × (List (List Int)) × (List Bool))) := impl_watchOf.g k (impl_watchOf.l0 k k) a0_0 a0_1 l1_0
noncomputable def S219 (k : Nat) : Does := ⟨[(true, [.dat (.int .i64), .dat (.int .i64)]), (true, [.dat (.list (.int .i64))])], [(false, [.dat (.ptr (.struct (.pair (.struct (.pair (.int .i64) (.int .i64))) (.pair (.struct (.list (.int .i64))) (.pair (.list (.list (.int .i64))) (.list .bool))))))])], fun x => impl_watchOf.f k x.1 x.2.1 x.2.2⟩
noncomputable def E219 (k : Nat) : En := ⟨tb, orcOf [(124, S124 k), (237, S237 k), (155, S155 k), (181, S181 k)], lvOf [(0, [(2, []), (3, []), (5, [.cell 3 29 (.list (.int .i64)), .cell 4 4 .bool]), (19, []), (20, [])]), (2, [(5, []), (8, [])]), (4, [(5, []), (8, []), (68, []), (69, []), (70, [])])], k, 0, lvOf [], [34]⟩
noncomputable def n219_0 (x2_0 : Int) (x2_1 : Int) (x3_0 : List Int) (x5_0 : Int) (x5_1 : Int) (x5_2 : List Int) (x5_3 : List (List Int)) (x5_4 : List Bool) (x19 : Int) (x20 : Int) : St := ⟨90, lookA [(2, .box 0 0), (3, .box 1 0), (5, .box 2 0), (19, .dat (.int .i64) x19), (20, .dat (.int .i64) x20)], Go.V.look [(0, .cells [.dat (.int .i64) x2_0, .dat (.int .i64) x2_1]), (1, .cells [.dat (.list (.int .i64)) x3_0]), (2, .cells [.dat (.int .i64) x5_0, .dat (.int .i64) x5_1, .dat (.list (.int .i64)) x5_2, .own 3, .own 4]), (3, .flat 29 (.list (.int .i64)) x5_3), (4, .flat 4 .bool x5_4)]⟩
def p219_0 : List Bool := [true, true, false, true, false]
noncomputable def n219_1 (x5_0 : Int) (x5_1 : Int) (x5_2 : List Int) (x5_3 : List (List Int)) (x5_4 : List Bool) (x8 : Bool) : St := ⟨90, lookA [(5, .box 0 0), (8, .dat .bool x8)], Go.V.look [(0, .cells [.dat (.int .i64) x5_0, .dat (.int .i64) x5_1, .dat (.list (.int .i64)) x5_2, .own 1, .own 2]), (1, .flat 29 (.list (.int .i64)) x5_3), (2, .flat 4 .bool x5_4)]⟩
def p219_1 : List Bool := [true, true, true, false, true, false]
noncomputable def n219_2 (x5_0 : Int) (x5_1 : Int) (x5_2 : List Int) (x5_3 : List (List Int)) (x5_4 : List Bool) (x8 : Bool) (x69 : Int) (x70 : Int) : St := ⟨90, lookA [(5, .box 0 0), (8, .dat .bool x8), (68, .own 1), (69, .dat (.int .i64) x69), (70, .dat (.int .i64) x70)], Go.V.look [(0, .cells [.dat (.int .i64) x5_0, .dat (.int .i64) x5_1, .dat (.list (.int .i64)) x5_2, .own 2, .own 1]), (1, .flat 4 .bool x5_4), (2, .flat 29 (.list (.int .i64)) x5_3)]⟩
def p219_2 : List Bool := [true, true, true, false, true, false, false, true, false, true, true, false]
theorem r219_2 (k : Nat) (R1 : St → Option (((Int × Int) × (List Int) × (List (List Int)) × (List Bool)))) (rec : St → Option (((Int × Int) × (List Int) × (List (List Int)) × (List Bool)))) (v : Int × Int × (List Int) × (List (List Int)) × (List Bool) × Bool × Int × Int) : roundF (E219 k) (S219 k) Try.f219 p219_2 [R1] rec (n219_2 v.1 v.2.1 v.2.2.1 v.2.2.2.1 v.2.2.2.2.1 v.2.2.2.2.2.1 v.2.2.2.2.2.2.1 v.2.2.2.2.2.2.2) = impl_watchOf.s2 k (fun a0 a1 a2 a3 a4 a5 => R1 (n219_1 a0 a1 a2 a3 a4 a5)) (fun a0 a1 a2 a3 a4 a5 a6 a7 => rec (n219_2 a0 a1 a2 a3 a4 a5 a6 a7)) v.1 v.2.1 v.2.2.1 v.2.2.2.1 v.2.2.2.2.1 v.2.2.2.2.2.1 v.2.2.2.2.2.2.1 v.2.2.2.2.2.2.2 := by
  kernel_rfl
theorem q219_2 (k : Nat) (R1 : St → Option (((Int × Int) × (List Int) × (List (List Int)) × (List Bool)))) (n : Nat) : ∀ v : Int × Int × (List Int) × (List (List Int)) × (List Bool) × Bool × Int × Int, loopF (E219 k) (S219 k) Try.f219 p219_2 [R1] n (n219_2 v.1 v.2.1 v.2.2.1 v.2.2.2.1 v.2.2.2.2.1 v.2.2.2.2.2.1 v.2.2.2.2.2.2.1 v.2.2.2.2.2.2.2) = impl_watchOf.l2 k (fun a0 a1 a2 a3 a4 a5 => R1 (n219_1 a0 a1 a2 a3 a4 a5)) n v.1 v.2.1 v.2.2.1 v.2.2.2.1 v.2.2.2.2.1 v.2.2.2.2.2.1 v.2.2.2.2.2.2.1 v.2.2.2.2.2.2.2 :=
  loopF_eq (E219 k) (S219 k) Try.f219 p219_2 [R1] (fun v : Int × Int × (List Int) × (List (List Int)) × (List Bool) × Bool × Int × Int => n219_2 v.1 v.2.1 v.2.2.1 v.2.2.2.1 v.2.2.2.2.1 v.2.2.2.2.2.1 v.2.2.2.2.2.2.1 v.2.2.2.2.2.2.2) (fun rec v => impl_watchOf.s2 k (fun a0 a1 a2 a3 a4 a5 => R1 (n219_1 a0 a1 a2 a3 a4 a5)) (fun a0 a1 a2 a3 a4 a5 a6 a7 => rec (a0, a1, a2, a3, a4, a5, a6, a7)) v.1 v.2.1 v.2.2.1 v.2.2.2.1 v.2.2.2.2.1 v.2.2.2.2.2.1 v.2.2.2.2.2.2.1 v.2.2.2.2.2.2.2) (fun n v => impl_watchOf.l2 k (fun a0 a1 a2 a3 a4 a5 => R1 (n219_1 a0 a1 a2 a3 a4 a5)) n v.1 v.2.1 v.2.2.1 v.2.2.2.1 v.2.2.2.2.1 v.2.2.2.2.2.1 v.2.2.2.2.2.2.1 v.2.2.2.2.2.2.2) (fun _ => rfl) (fun _ _ => rfl) (fun rec v => r219_2 k R1 rec v) n
theorem r219_1 (k : Nat) (rec : St → Option (((Int × Int) × (List Int) × (List (List Int)) × (List Bool)))) (G2 : Int → Int → (List Int) → (List (List Int)) → (List Bool) → Bool → Int → Int → Option (((Int × Int) × (List Int) × (List (List Int)) × (List Bool)))) (h2 : ∀ a0 a1 a2 a3 a4 a5 a6 a7, loopF (E219 k) (S219 k) Try.f219 p219_2 [rec] k (n219_2 a0 a1 a2 a3 a4 a5 a6 a7) = G2 a0 a1 a2 a3 a4 a5 a6 a7) (v : Int × Int × (List Int) × (List (List Int)) × (List Bool) × Bool) : roundF (E219 k) (S219 k) Try.f219 p219_1 [] rec (n219_1 v.1 v.2.1 v.2.2.1 v.2.2.2.1 v.2.2.2.2.1 v.2.2.2.2.2) = impl_watchOf.s1 k (fun a0 a1 a2 a3 a4 a5 => rec (n219_1 a0 a1 a2 a3 a4 a5)) G2 v.1 v.2.1 v.2.2.1 v.2.2.2.1 v.2.2.2.2.1 v.2.2.2.2.2 := by
  obtain rfl : (fun a0 a1 a2 a3 a4 a5 a6 a7 => loopF (E219 k) (S219 k) Try.f219 p219_2 [rec] k (n219_2 a0 a1 a2 a3 a4 a5 a6 a7)) = G2 := funext fun a0 => funext fun a1 => funext fun a2 => funext fun a3 => funext fun a4 => funext fun a5 => funext fun a6 => funext fun a7 => h2 a0 a1 a2 a3 a4 a5 a6 a7
  kernel_rfl
theorem q219_1 (k : Nat) (n : Nat) : ∀ v : Int × Int × (List Int) × (List (List Int)) × (List Bool) × Bool, loopF (E219 k) (S219 k) Try.f219 p219_1 [] n (n219_1 v.1 v.2.1 v.2.2.1 v.2.2.2.1 v.2.2.2.2.1 v.2.2.2.2.2) = impl_watchOf.l1 k n v.1 v.2.1 v.2.2.1 v.2.2.2.1 v.2.2.2.2.1 v.2.2.2.2.2 :=
  loopF_eq (E219 k) (S219 k) Try.f219 p219_1 [] (fun v : Int × Int × (List Int) × (List (List Int)) × (List Bool) × Bool => n219_1 v.1 v.2.1 v.2.2.1 v.2.2.2.1 v.2.2.2.2.1 v.2.2.2.2.2) (fun rec v => impl_watchOf.s1 k (fun a0 a1 a2 a3 a4 a5 => rec (a0, a1, a2, a3, a4, a5)) (impl_watchOf.l2 k (fun a0 a1 a2 a3 a4 a5 => rec (a0, a1, a2, a3, a4, a5)) k) v.1 v.2.1 v.2.2.1 v.2.2.2.1 v.2.2.2.2.1 v.2.2.2.2.2) (fun n v => impl_watchOf.l1 k n v.1 v.2.1 v.2.2.1 v.2.2.2.1 v.2.2.2.2.1 v.2.2.2.2.2) (fun _ => rfl) (fun _ _ => rfl) (fun rec v => r219_1 k rec _ (fun a0 a1 a2 a3 a4 a5 a6 a7 => q219_2 k rec k (a0, a1, a2, a3, a4, a5, a6, a7)) v) n
theorem r219_0 (k : Nat) (rec : St → Option (((Int × Int) × (List Int) × (List (List Int)) × (List Bool)))) (G1 : Int → Int → (List Int) → (List (List Int)) → (List Bool) → Bool → Option (((Int × Int) × (List Int) × (List (List Int)) × (List Bool)))) (h1 : ∀ a0 a1 a2 a3 a4 a5, loopF (E219 k) (S219 k) Try.f219 p219_1 [] k (n219_1 a0 a1 a2 a3 a4 a5) = G1 a0 a1 a2 a3 a4 a5) (v : Int × Int × (List Int) × Int × Int × (List Int) × (List (List Int)) × (List Bool) × Int × Int) : roundF (E219 k) (S219 k) Try.f219 p219_0 [] rec (n219_0 v.1 v.2.1 v.2.2.1 v.2.2.2.1 v.2.2.2.2.1 v.2.2.2.2.2.1 v.2.2.2.2.2.2.1 v.2.2.2.2.2.2.2.1 v.2.2.2.2.2.2.2.2.1 v.2.2.2.2.2.2.2.2.2) = impl_watchOf.s0 k (fun a0 a1 a2 a3 a4 a5 a6 a7 a8 a9 => rec (n219_0 a0 a1 a2 a3 a4 a5 a6 a7 a8 a9)) G1 v.1 v.2.1 v.2.2.1 v.2.2.2.1 v.2.2.2.2.1 v.2.2.2.2.2.1 v.2.2.2.2.2.2.1 v.2.2.2.2.2.2.2.1 v.2.2.2.2.2.2.2.2.1 v.2.2.2.2.2.2.2.2.2 := by
  obtain rfl : (fun a0 a1 a2 a3 a4 a5 => loopF (E219 k) (S219 k) Try.f219 p219_1 [] k (n219_1 a0 a1 a2 a3 a4 a5)) = G1 := funext fun a0 => funext fun a1 => funext fun a2 => funext fun a3 => funext fun a4 => funext fun a5 => h1 a0 a1 a2 a3 a4 a5
  kernel_rfl
theorem q219_0 (k : Nat) (n : Nat) : ∀ v : Int × Int × (List Int) × Int × Int × (List Int) × (List (List Int)) × (List Bool) × Int × Int, loopF (E219 k) (S219 k) Try.f219 p219_0 [] n (n219_0 v.1 v.2.1 v.2.2.1 v.2.2.2.1 v.2.2.2.2.1 v.2.2.2.2.2.1 v.2.2.2.2.2.2.1 v.2.2.2.2.2.2.2.1 v.2.2.2.2.2.2.2.2.1 v.2.2.2.2.2.2.2.2.2) = impl_watchOf.l0 k n v.1 v.2.1 v.2.2.1 v.2.2.2.1 v.2.2.2.2.1 v.2.2.2.2.2.1 v.2.2.2.2.2.2.1 v.2.2.2.2.2.2.2.1 v.2.2.2.2.2.2.2.2.1 v.2.2.2.2.2.2.2.2.2 :=
  loopF_eq (E219 k) (S219 k) Try.f219 p219_0 [] (fun v : Int × Int × (List Int) × Int × Int × (List Int) × (List (List Int)) × (List Bool) × Int × Int => n219_0 v.1 v.2.1 v.2.2.1 v.2.2.2.1 v.2.2.2.2.1 v.2.2.2.2.2.1 v.2.2.2.2.2.2.1 v.2.2.2.2.2.2.2.1 v.2.2.2.2.2.2.2.2.1 v.2.2.2.2.2.2.2.2.2) (fun rec v => impl_watchOf.s0 k (fun a0 a1 a2 a3 a4 a5 a6 a7 a8 a9 => rec (a0, a1, a2, a3, a4, a5, a6, a7, a8, a9)) (impl_watchOf.l1 k k) v.1 v.2.1 v.2.2.1 v.2.2.2.1 v.2.2.2.2.1 v.2.2.2.2.2.1 v.2.2.2.2.2.2.1 v.2.2.2.2.2.2.2.1 v.2.2.2.2.2.2.2.2.1 v.2.2.2.2.2.2.2.2.2) (fun n v => impl_watchOf.l0 k n v.1 v.2.1 v.2.2.1 v.2.2.2.1 v.2.2.2.2.1 v.2.2.2.2.2.1 v.2.2.2.2.2.2.1 v.2.2.2.2.2.2.2.1 v.2.2.2.2.2.2.2.2.1 v.2.2.2.2.2.2.2.2.2) (fun _ => rfl) (fun _ _ => rfl) (fun rec v => r219_0 k rec _ (fun a0 a1 a2 a3 a4 a5 => q219_1 k k (a0, a1, a2, a3, a4, a5)) v) n
theorem e219 (k : Nat) (x : dens (flatC (S219 k).ps)) : funK (E219 k) (S219 k) Try.f219 x = (S219 k).fn x := by
  have h : funK (E219 k) (S219 k) Try.f219 x = impl_watchOf.g k (fun a0 a1 a2 a3 a4 a5 a6 a7 a8 a9 => loopF (E219 k) (S219 k) Try.f219 p219_0 [] k (n219_0 a0 a1 a2 a3 a4 a5 a6 a7 a8 a9)) x.1 x.2.1 x.2.2 := by kernel_rfl
  rw [h]
  rw [show (fun a0 a1 a2 a3 a4 a5 a6 a7 a8 a9 => loopF (E219 k) (S219 k) Try.f219 p219_0 [] k (n219_0 a0 a1 a2 a3 a4 a5 a6 a7 a8 a9)) = impl_watchOf.l0 k k from funext fun a0 => funext fun a1 => funext fun a2 => funext fun a3 => funext fun a4 => funext fun a5 => funext fun a6 => funext fun a7 => funext fun a8 => funext fun a9 => q219_0 k k (a0, a1, a2, a3, a4, a5, a6, a7, a8, a9)]
  rfl
theorem M219 (k : Nat) : Meets Try.prog 219 (S219 k) := meets_of Try.func219 (by kernel_rfl) tbOk (orc_cons (M124 k) (orc_cons (M237 k) (orc_cons (M155 k) (orc_cons (M181 k) orc_nil)))) mixOk (fun x y h => (e219 k x).trans h) rfl

/-! impl_watched: function 179 -/
noncomputable def impl_watched.f (k : Nat) (a0_0 : Int) (a0_1 : Int) (l1_0 : List Int) : Option ((Option ((Int × Int) × (List Int) × (List (List Int)) × (List Bool))) × Int) := (impl_bothCode.f k a0_0 a0_1 l1_0 true).bind fun t1 => if t1 = 0 then ((impl_Tasks_states.f k l1_0).bind fun t2 => if 20000 < (wrap64 (a0_0 * t2)) then (some (none, 3)) else ((impl_watchOf.f k a0_0 a0_1 l1_0).bind fun t3 => some ((some t3), 0))) else (some (none, t1))
noncomputable def S179 (k : Nat) : Does := ⟨[(true, [.dat (.int .i64), .dat (.int .i64)]), (true, [.dat (.list (.int .i64))])], [(false, [.dat (.optr (.struct (.pair (.struct (.pair (.int .i64) (.int .i64))) (.pair (.struct (.list (.int .i64))) (.pair (.list (.list (.int .i64))) (.list .bool))))))]), (false, [.dat (.int .i64)])], fun x => impl_watched.f k x.1 x.2.1 x.2.2⟩
noncomputable def E179 (k : Nat) : En := ⟨tb, orcOf [(185, S185 k), (124, S124 k), (219, S219 k)], lvOf [], k, 0, lvOf [], []⟩
theorem e179 (k : Nat) (x : dens (flatC (S179 k).ps)) : funK (E179 k) (S179 k) Try.f179 x = (S179 k).fn x := by
  kernel_rfl
theorem M179 (k : Nat) : Meets Try.prog 179 (S179 k) := meets_of Try.func179 (by kernel_rfl) tbOk (orc_cons (M185 k) (orc_cons (M124 k) (orc_cons (M219 k) orc_nil))) mixOk (fun x y h => (e179 k x).trans h) rfl

/-! impl_watch_whole: function 220 -/
noncomputable def impl_watch_whole.f (k : Nat) (a0 : (Int × Int) × (List Int) × (List (List Int)) × (List Bool)) (a1 : Int) : Option (Int) := (impl_Tasks_states.f k a0.2.1).bind fun t1 => some (wrap64 ((wrap64 ((wrap64 (t1 - 1)) * a0.1.1)) + a1))
noncomputable def S220 (k : Nat) : Does := ⟨[(false, [.dat (.ptr (.struct (.pair (.struct (.pair (.int .i64) (.int .i64))) (.pair (.struct (.list (.int .i64))) (.pair (.list (.list (.int .i64))) (.list .bool))))))]), (false, [.dat (.int .i64)])], [(false, [.dat (.int .i64)])], fun x => impl_watch_whole.f k x.1 x.2⟩
noncomputable def E220 (k : Nat) : En := ⟨tb, orcOf [(124, S124 k)], lvOf [], k, 0, lvOf [], []⟩
theorem e220 (k : Nat) (x : dens (flatC (S220 k).ps)) : funK (E220 k) (S220 k) Try.f220 x = (S220 k).fn x := by
  kernel_rfl
theorem M220 (k : Nat) : Meets Try.prog 220 (S220 k) := meets_of Try.func220 (by kernel_rfl) tbOk (orc_cons (M124 k) orc_nil) mixOk (fun x y h => (e220 k x).trans h) rfl

/-! impl_watch_start: function 180 -/
noncomputable def impl_watch_start.s0 (k : Nat) (r0 : ((Int × Int) × (List Int) × (List (List Int)) × (List Bool)) → Int → Int → Option (Int)) (x0 : (Int × Int) × (List Int) × (List (List Int)) × (List Bool)) (x8 : Int) (x9 : Int) : Option (Int) := if x9 < x8 then ((impl_watch_whole.f k x0 x9).bind fun t1 => if 0 ≤ t1 then (if t1 < (x0.2.2.2.length : Int) then (if (rdOf false x0.2.2.2 t1) = true then ((impl_watch_whole.f k x0 x9).bind fun t2 => some t2) else (r0 x0 x8 (wrap64 (x9 + 1)))) else (none)) else (none)) else (some (-1))
noncomputable def impl_watch_start.l0 (k : Nat) : Nat → ((Int × Int) × (List Int) × (List (List Int)) × (List Bool)) → Int → Int → Option (Int)
  | 0, _, _, _ => none
  | n + 1, x0, x1, x2 => impl_watch_start.s0 k (impl_watch_start.l0 k n) x0 x1 x2
noncomputable def impl_watch_start.g (k : Nat) (r0 : ((Int × Int) × (List Int) × (List (List Int)) × (List Bool)) → Int → Int → Option (Int)) (a0 : (Int × Int) × (List Int) × (List (List Int)) × (List Bool)) : Option (Int) := r0 a0 a0.1.1 0
noncomputable def impl_watch_start.f (k : Nat) (a0 : (Int × Int) × (List Int) × (List (List Int)) × (List Bool)) : Option (Int) := impl_watch_start.g k (impl_watch_start.l0 k k) a0
noncomputable def S180 (k : Nat) : Does := ⟨[(false, [.dat (.ptr (.struct (.pair (.struct (.pair (.int .i64) (.int .i64))) (.pair (.struct (.list (.int .i64))) (.pair (.list (.list (.int .i64))) (.list .bool))))))])], [(false, [.dat (.int .i64)])], fun x => impl_watch_start.f k x⟩
noncomputable def E180 (k : Nat) : En := ⟨tb, orcOf [(220, S220 k)], lvOf [(0, [(0, []), (8, []), (9, [])])], k, 0, lvOf [], []⟩
noncomputable def n180_0 (x0 : (Int × Int) × (List Int) × (List (List Int)) × (List Bool)) (x8 : Int) (x9 : Int) : St := ⟨25, lookA [(0, .dp (.struct (.pair (.struct (.pair (.int .i64) (.int .i64))) (.pair (.struct (.list (.int .i64))) (.pair (.list (.list (.int .i64))) (.list .bool))))) x0), (8, .dat (.int .i64) x8), (9, .dat (.int .i64) x9)], Go.V.look []⟩
def p180_0 : List Bool := [true, false, true, false]
theorem r180_0 (k : Nat) (rec : St → Option (Int)) (v : ((Int × Int) × (List Int) × (List (List Int)) × (List Bool)) × Int × Int) : roundF (E180 k) (S180 k) Try.f180 p180_0 [] rec (n180_0 v.1 v.2.1 v.2.2) = impl_watch_start.s0 k (fun a0 a1 a2 => rec (n180_0 a0 a1 a2)) v.1 v.2.1 v.2.2 := by
  kernel_rfl
theorem q180_0 (k : Nat) (n : Nat) : ∀ v : ((Int × Int) × (List Int) × (List (List Int)) × (List Bool)) × Int × Int, loopF (E180 k) (S180 k) Try.f180 p180_0 [] n (n180_0 v.1 v.2.1 v.2.2) = impl_watch_start.l0 k n v.1 v.2.1 v.2.2 :=
  loopF_eq (E180 k) (S180 k) Try.f180 p180_0 [] (fun v : ((Int × Int) × (List Int) × (List (List Int)) × (List Bool)) × Int × Int => n180_0 v.1 v.2.1 v.2.2) (fun rec v => impl_watch_start.s0 k (fun a0 a1 a2 => rec (a0, a1, a2)) v.1 v.2.1 v.2.2) (fun n v => impl_watch_start.l0 k n v.1 v.2.1 v.2.2) (fun _ => rfl) (fun _ _ => rfl) (fun rec v => r180_0 k rec v) n
theorem e180 (k : Nat) (x : dens (flatC (S180 k).ps)) : funK (E180 k) (S180 k) Try.f180 x = (S180 k).fn x := by
  have h : funK (E180 k) (S180 k) Try.f180 x = impl_watch_start.g k (fun a0 a1 a2 => loopF (E180 k) (S180 k) Try.f180 p180_0 [] k (n180_0 a0 a1 a2)) x := by kernel_rfl
  rw [h]
  rw [show (fun a0 a1 a2 => loopF (E180 k) (S180 k) Try.f180 p180_0 [] k (n180_0 a0 a1 a2)) = impl_watch_start.l0 k k from funext fun a0 => funext fun a1 => funext fun a2 => q180_0 k k (a0, a1, a2)]
  rfl
theorem M180 (k : Nat) : Meets Try.prog 180 (S180 k) := meets_of Try.func180 (by kernel_rfl) tbOk (orc_cons (M220 k) orc_nil) mixOk (fun x y h => (e180 k x).trans h) rfl

/-! impl_FirstRoute: function 76 -/
noncomputable def impl_FirstRoute.s0 (k : Nat) (r0 : Int → Int → (Option ((Int × Int) × (List Int) × (List (List Int)) × (List Bool))) → Int → (List (Int × Int)) → (List Int) → Option ((List Int) × Int)) (x2_0 : Int) (x2_1 : Int) (x6 : Option ((Int × Int) × (List Int) × (List (List Int)) × (List Bool))) (x8 : Int) (x9 : List (Int × Int)) (x10 : List Int) : Option ((List Int) × Int) := if (mgI x9 x8).isSome = true then (if 120 < (wrap64 ((x10.length : Int) - ((mgI x9 x8).getD 0))) then (some ([], 3)) else (if 0 ≤ ((mgI x9 x8).getD 0) then (if ((mgI x9 x8).getD 0) ≤ (x10.length : Int) then (if (x10.length : Int) ≤ (x10.length : Int) then ((slices_Clone_int64_int64.f ((x10.take (x10.length : Int).toNat).drop ((mgI x9 x8).getD 0).toNat)).bind fun t4 => some (t4, 0)) else (none)) else (none)) else (none))) else (if x2_0 = 0 then (none) else (if x10.length + 1 ≤ 1099511627776 then ((x6).bind fun u5 => (impl_watch_move.f k u5 x8).bind fun t6 => r0 x2_0 x2_1 x6 t6 (mpI x9 x8 (x10.length : Int)) (x10 ++ [(Int.tmod x8 x2_0)])) else (none)))
noncomputable def impl_FirstRoute.l0 (k : Nat) : Nat → Int → Int → (Option ((Int × Int) × (List Int) × (List (List Int)) × (List Bool))) → Int → (List (Int × Int)) → (List Int) → Option ((List Int) × Int)
  | 0, _, _, _, _, _, _ => none
  | n + 1, x0, x1, x2, x3, x4, x5 => impl_FirstRoute.s0 k (impl_FirstRoute.l0 k n) x0 x1 x2 x3 x4 x5
noncomputable def impl_FirstRoute.g (k : Nat) (r0 : Int → Int → (Option ((Int × Int) × (List Int) × (List (List Int)) × (List Bool))) → Int → (List (Int × Int)) → (List Int) → Option ((List Int) × Int)) (a0_0 : Int) (a0_1 : Int) (l1_0 : List Int) : Option ((List Int) × Int) := (impl_watched.f k a0_0 a0_1 l1_0).bind fun t1 => if t1.2 = 0 then ((t1.1).bind fun u2 => (impl_watch_start.f k u2).bind fun t3 => if t3 < 0 then (some ([], 4)) else (r0 a0_0 a0_1 t1.1 t3 [] [])) else (some ([], t1.2))
noncomputable def impl_FirstRoute.f (k : Nat) (a0_0 : Int) (a0_1 : Int) (l1_0 : List Int) : Option ((List Int) × Int) := impl_FirstRoute.g k (impl_FirstRoute.l0 k k) a0_0 a0_1 l1_0
noncomputable def S76 (k : Nat) : Does := ⟨[(true, [.dat (.int .i64), .dat (.int .i64)]), (true, [.dat (.list (.int .i64))])], [(false, [.own 2 (.int .i64)]), (false, [.dat (.int .i64)])], fun x => impl_FirstRoute.f k x.1 x.2.1 x.2.2⟩
noncomputable def E76 (k : Nat) : En := ⟨tb, orcOf [(179, S179 k), (180, S180 k), (125, S125 k), (181, S181 k)], lvOf [(0, [(2, []), (6, []), (8, []), (9, []), (10, [.nil 2 (.int .i64)])])], k, 0, lvOf [], []⟩
noncomputable def n76_0 (x2_0 : Int) (x2_1 : Int) (x6 : Option ((Int × Int) × (List Int) × (List (List Int)) × (List Bool))) (x8 : Int) (x9 : List (Int × Int)) (x10 : List Int) : St := ⟨57, lookA [(2, .box 0 0), (6, .dat (.optr (.struct (.pair (.struct (.pair (.int .i64) (.int .i64))) (.pair (.struct (.list (.int .i64))) (.pair (.list (.list (.int .i64))) (.list .bool)))))) x6), (8, .dat (.int .i64) x8), (9, .om 1), (10, .own 2)], Go.V.look [(0, .cells [.dat (.int .i64) x2_0, .dat (.int .i64) x2_1]), (1, .mp (.int .i64) (.int .i64) x9), (2, .flat 2 (.int .i64) x10)]⟩
def p76_0 : List Bool := [true, true, true, true, true, true, true, false]
theorem r76_0 (k : Nat) (rec : St → Option ((List Int) × Int)) (v : Int × Int × (Option ((Int × Int) × (List Int) × (List (List Int)) × (List Bool))) × Int × (List (Int × Int)) × (List Int)) : roundF (E76 k) (S76 k) Try.f76 p76_0 [] rec (n76_0 v.1 v.2.1 v.2.2.1 v.2.2.2.1 v.2.2.2.2.1 v.2.2.2.2.2) = impl_FirstRoute.s0 k (fun a0 a1 a2 a3 a4 a5 => rec (n76_0 a0 a1 a2 a3 a4 a5)) v.1 v.2.1 v.2.2.1 v.2.2.2.1 v.2.2.2.2.1 v.2.2.2.2.2 := by
  kernel_rfl
theorem q76_0 (k : Nat) (n : Nat) : ∀ v : Int × Int × (Option ((Int × Int) × (List Int) × (List (List Int)) × (List Bool))) × Int × (List (Int × Int)) × (List Int), loopF (E76 k) (S76 k) Try.f76 p76_0 [] n (n76_0 v.1 v.2.1 v.2.2.1 v.2.2.2.1 v.2.2.2.2.1 v.2.2.2.2.2) = impl_FirstRoute.l0 k n v.1 v.2.1 v.2.2.1 v.2.2.2.1 v.2.2.2.2.1 v.2.2.2.2.2 :=
  loopF_eq (E76 k) (S76 k) Try.f76 p76_0 [] (fun v : Int × Int × (Option ((Int × Int) × (List Int) × (List (List Int)) × (List Bool))) × Int × (List (Int × Int)) × (List Int) => n76_0 v.1 v.2.1 v.2.2.1 v.2.2.2.1 v.2.2.2.2.1 v.2.2.2.2.2) (fun rec v => impl_FirstRoute.s0 k (fun a0 a1 a2 a3 a4 a5 => rec (a0, a1, a2, a3, a4, a5)) v.1 v.2.1 v.2.2.1 v.2.2.2.1 v.2.2.2.2.1 v.2.2.2.2.2) (fun n v => impl_FirstRoute.l0 k n v.1 v.2.1 v.2.2.1 v.2.2.2.1 v.2.2.2.2.1 v.2.2.2.2.2) (fun _ => rfl) (fun _ _ => rfl) (fun rec v => r76_0 k rec v) n
theorem e76 (k : Nat) (x : dens (flatC (S76 k).ps)) : funK (E76 k) (S76 k) Try.f76 x = (S76 k).fn x := by
  have h : funK (E76 k) (S76 k) Try.f76 x = impl_FirstRoute.g k (fun a0 a1 a2 a3 a4 a5 => loopF (E76 k) (S76 k) Try.f76 p76_0 [] k (n76_0 a0 a1 a2 a3 a4 a5)) x.1 x.2.1 x.2.2 := by kernel_rfl
  rw [h]
  rw [show (fun a0 a1 a2 a3 a4 a5 => loopF (E76 k) (S76 k) Try.f76 p76_0 [] k (n76_0 a0 a1 a2 a3 a4 a5)) = impl_FirstRoute.l0 k k from funext fun a0 => funext fun a1 => funext fun a2 => funext fun a3 => funext fun a4 => funext fun a5 => q76_0 k k (a0, a1, a2, a3, a4, a5)]
  rfl
theorem M76 (k : Nat) : Meets Try.prog 76 (S76 k) := meets_of Try.func76 (by kernel_rfl) tbOk (orc_cons (M179 k) (orc_cons (M180 k) (orc_cons (M125 k) (orc_cons (M181 k) orc_nil)))) mixOk (fun x y h => (e76 k x).trans h) rfl

/-! spec_l01In: function 102 -/
noncomputable def spec_l01In.f (a0 : Int) (a1 : Int) (a2 : Int) : Option (Bool) := if a1 ≤ a0 then (some (decide (a0 ≤ a2))) else (some false)
noncomputable def S102 (k : Nat) : Does := ⟨[(false, [.dat (.int .i64)]), (false, [.dat (.int .i64)]), (false, [.dat (.int .i64)])], [(false, [.dat .bool])], fun x => spec_l01In.f x.1 x.2.1 x.2.2⟩
noncomputable def E102 (k : Nat) : En := ⟨tb, orcOf [], lvOf [], k, 0, lvOf [], []⟩
theorem e102 (k : Nat) (x : dens (flatC (S102 k).ps)) : funK (E102 k) (S102 k) Try.f102 x = (S102 k).fn x := by
  kernel_rfl
theorem M102 (k : Nat) : Meets Try.prog 102 (S102 k) := meets_of Try.func102 (by kernel_rfl) tbOk orc_nil mixOk (fun x y h => (e102 k x).trans h) rfl

/-! spec_l09Is: function 101 -/
noncomputable def spec_l09Is.f (a0_0 : Int) (a0_1 : Int) : Option (Bool) := (spec_l01In.f a0_0 1 6).bind fun t1 => if t1 = true then (if (IntKind.wrap .u64 ((wrap64 (Int.tdiv (wrap64 (a0_0 * (wrap64 (a0_0 - 1)))) 2)))) < 0 then (none) else ((spec_l01In.f a0_1 0 (wrap64 ((shlV .i64 1 (IntKind.wrap .u64 ((wrap64 (Int.tdiv (wrap64 (a0_0 * (wrap64 (a0_0 - 1)))) 2))))) - 1))).bind fun t2 => some t2)) else (some false)
noncomputable def S101 (k : Nat) : Does := ⟨[(true, [.dat (.int .i64), .dat (.int .i64)])], [(false, [.dat .bool])], fun x => spec_l09Is.f x.1 x.2⟩
noncomputable def E101 (k : Nat) : En := ⟨tb, orcOf [(102, S102 k)], lvOf [], k, 0, lvOf [], []⟩
theorem e101 (k : Nat) (x : dens (flatC (S101 k).ps)) : funK (E101 k) (S101 k) Try.f101 x = (S101 k).fn x := by
  kernel_rfl
theorem M101 (k : Nat) : Meets Try.prog 101 (S101 k) := meets_of Try.func101 (by kernel_rfl) tbOk (orc_cons (M102 k) orc_nil) mixOk (fun x y h => (e101 k x).trans h) rfl

/-! spec_l01Is: function 144 -/
noncomputable def spec_l01Is.s0 (k : Nat) (r0 : (List Int) → Int → Option (Bool)) (x1_0 : List Int) (x3 : Int) : Option (Bool) := if x3 < (x1_0.length : Int) then (if 0 ≤ x3 then (if x3 < (x1_0.length : Int) then ((spec_l01In.f (rd x1_0 x3) 1 40).bind fun t1 => if t1 = true then (r0 x1_0 (wrap64 (x3 + 1))) else (some false)) else (none)) else (none)) else ((spec_l01K.f x1_0).bind fun t2 => (spec_l01In.f t2 1 8).bind fun t3 => some t3)
noncomputable def spec_l01Is.l0 (k : Nat) : Nat → (List Int) → Int → Option (Bool)
  | 0, _, _ => none
  | n + 1, x0, x1 => spec_l01Is.s0 k (spec_l01Is.l0 k n) x0 x1
noncomputable def spec_l01Is.g (k : Nat) (r0 : (List Int) → Int → Option (Bool)) (l0_0 : List Int) : Option (Bool) := r0 l0_0 0
noncomputable def spec_l01Is.f (k : Nat) (l0_0 : List Int) : Option (Bool) := spec_l01Is.g k (spec_l01Is.l0 k k) l0_0
noncomputable def S144 (k : Nat) : Does := ⟨[(true, [.dat (.list (.int .i64))])], [(false, [.dat .bool])], fun x => spec_l01Is.f k x⟩
noncomputable def E144 (k : Nat) : En := ⟨tb, orcOf [(102, S102 k), (142, S142 k)], lvOf [(0, [(1, []), (3, [])])], k, 0, lvOf [], []⟩
noncomputable def n144_0 (x1_0 : List Int) (x3 : Int) : St := ⟨21, lookA [(1, .box 0 0), (3, .dat (.int .i64) x3)], Go.V.look [(0, .cells [.dat (.list (.int .i64)) x1_0])]⟩
def p144_0 : List Bool := [true, false, true, false]
theorem r144_0 (k : Nat) (rec : St → Option (Bool)) (v : (List Int) × Int) : roundF (E144 k) (S144 k) Try.f144 p144_0 [] rec (n144_0 v.1 v.2) = spec_l01Is.s0 k (fun a0 a1 => rec (n144_0 a0 a1)) v.1 v.2 := by
  kernel_rfl
theorem q144_0 (k : Nat) (n : Nat) : ∀ v : (List Int) × Int, loopF (E144 k) (S144 k) Try.f144 p144_0 [] n (n144_0 v.1 v.2) = spec_l01Is.l0 k n v.1 v.2 :=
  loopF_eq (E144 k) (S144 k) Try.f144 p144_0 [] (fun v : (List Int) × Int => n144_0 v.1 v.2) (fun rec v => spec_l01Is.s0 k (fun a0 a1 => rec (a0, a1)) v.1 v.2) (fun n v => spec_l01Is.l0 k n v.1 v.2) (fun _ => rfl) (fun _ _ => rfl) (fun rec v => r144_0 k rec v) n
theorem e144 (k : Nat) (x : dens (flatC (S144 k).ps)) : funK (E144 k) (S144 k) Try.f144 x = (S144 k).fn x := by
  have h : funK (E144 k) (S144 k) Try.f144 x = spec_l01Is.g k (fun a0 a1 => loopF (E144 k) (S144 k) Try.f144 p144_0 [] k (n144_0 a0 a1)) x := by kernel_rfl
  rw [h]
  rw [show (fun a0 a1 => loopF (E144 k) (S144 k) Try.f144 p144_0 [] k (n144_0 a0 a1)) = spec_l01Is.l0 k k from funext fun a0 => funext fun a1 => q144_0 k k (a0, a1)]
  rfl
theorem M144 (k : Nat) : Meets Try.prog 144 (S144 k) := meets_of Try.func144 (by kernel_rfl) tbOk (orc_cons (M102 k) (orc_cons (M142 k) orc_nil)) mixOk (fun x y h => (e144 k x).trans h) rfl

/-! spec_l09Size: function 103 -/
noncomputable def spec_l09Size.s0 (k : Nat) (r0 : (List Int) → Int → Int → Int → Option (Int)) (x3_0 : List Int) (x5 : Int) (x11 : Int) (x12 : Int) : Option (Int) := if x12 < x11 then (if 0 ≤ x12 then (if x12 < (x3_0.length : Int) then (r0 x3_0 (wrap64 (x5 * (rd x3_0 x12))) x11 (wrap64 (x12 + 1))) else (none)) else (none)) else (some x5)
noncomputable def spec_l09Size.l0 (k : Nat) : Nat → (List Int) → Int → Int → Int → Option (Int)
  | 0, _, _, _, _ => none
  | n + 1, x0, x1, x2, x3 => spec_l09Size.s0 k (spec_l09Size.l0 k n) x0 x1 x2 x3
noncomputable def spec_l09Size.g (k : Nat) (r0 : (List Int) → Int → Int → Int → Option (Int)) (a0_0 : Int) (a0_1 : Int) (l1_0 : List Int) : Option (Int) := r0 l1_0 a0_0 (l1_0.length : Int) 0
noncomputable def spec_l09Size.f (k : Nat) (a0_0 : Int) (a0_1 : Int) (l1_0 : List Int) : Option (Int) := spec_l09Size.g k (spec_l09Size.l0 k k) a0_0 a0_1 l1_0
noncomputable def S103 (k : Nat) : Does := ⟨[(true, [.dat (.int .i64), .dat (.int .i64)]), (true, [.dat (.list (.int .i64))])], [(false, [.dat (.int .i64)])], fun x => spec_l09Size.f k x.1 x.2.1 x.2.2⟩
noncomputable def E103 (k : Nat) : En := ⟨tb, orcOf [], lvOf [(0, [(3, []), (5, []), (11, []), (12, [])])], k, 0, lvOf [], []⟩
noncomputable def n103_0 (x3_0 : List Int) (x5 : Int) (x11 : Int) (x12 : Int) : St := ⟨24, lookA [(3, .box 0 0), (5, .dat (.int .i64) x5), (11, .dat (.int .i64) x11), (12, .dat (.int .i64) x12)], Go.V.look [(0, .cells [.dat (.list (.int .i64)) x3_0])]⟩
def p103_0 : List Bool := [true, true, false, true, false]
theorem r103_0 (k : Nat) (rec : St → Option (Int)) (v : (List Int) × Int × Int × Int) : roundF (E103 k) (S103 k) Try.f103 p103_0 [] rec (n103_0 v.1 v.2.1 v.2.2.1 v.2.2.2) = spec_l09Size.s0 k (fun a0 a1 a2 a3 => rec (n103_0 a0 a1 a2 a3)) v.1 v.2.1 v.2.2.1 v.2.2.2 := by
  kernel_rfl
theorem q103_0 (k : Nat) (n : Nat) : ∀ v : (List Int) × Int × Int × Int, loopF (E103 k) (S103 k) Try.f103 p103_0 [] n (n103_0 v.1 v.2.1 v.2.2.1 v.2.2.2) = spec_l09Size.l0 k n v.1 v.2.1 v.2.2.1 v.2.2.2 :=
  loopF_eq (E103 k) (S103 k) Try.f103 p103_0 [] (fun v : (List Int) × Int × Int × Int => n103_0 v.1 v.2.1 v.2.2.1 v.2.2.2) (fun rec v => spec_l09Size.s0 k (fun a0 a1 a2 a3 => rec (a0, a1, a2, a3)) v.1 v.2.1 v.2.2.1 v.2.2.2) (fun n v => spec_l09Size.l0 k n v.1 v.2.1 v.2.2.1 v.2.2.2) (fun _ => rfl) (fun _ _ => rfl) (fun rec v => r103_0 k rec v) n
theorem e103 (k : Nat) (x : dens (flatC (S103 k).ps)) : funK (E103 k) (S103 k) Try.f103 x = (S103 k).fn x := by
  have h : funK (E103 k) (S103 k) Try.f103 x = spec_l09Size.g k (fun a0 a1 a2 a3 => loopF (E103 k) (S103 k) Try.f103 p103_0 [] k (n103_0 a0 a1 a2 a3)) x.1 x.2.1 x.2.2 := by kernel_rfl
  rw [h]
  rw [show (fun a0 a1 a2 a3 => loopF (E103 k) (S103 k) Try.f103 p103_0 [] k (n103_0 a0 a1 a2 a3)) = spec_l09Size.l0 k k from funext fun a0 => funext fun a1 => funext fun a2 => funext fun a3 => q103_0 k k (a0, a1, a2, a3)]
  rfl
theorem M103 (k : Nat) : Meets Try.prog 103 (S103 k) := meets_of Try.func103 (by kernel_rfl) tbOk orc_nil mixOk (fun x y h => (e103 k x).trans h) rfl

/-! spec_l09Code: function 182 -/
noncomputable def spec_l09Code.f (k : Nat) (a0_0 : Int) (a0_1 : Int) (l1_0 : List Int) : Option (Int) := (spec_l09Is.f a0_0 a0_1).bind fun t1 => if t1 = true then ((spec_l01Is.f k l1_0).bind fun t2 => if (!decide (t2 = true)) = true then (some 1) else ((spec_l01K.f l1_0).bind fun t3 => if (!decide (t3 = a0_0)) = true then (some 2) else ((spec_l09Size.f k a0_0 a0_1 l1_0).bind fun t4 => if (decide (20000 < t4)) = true then (some 3) else (some 0)))) else (some 1)
noncomputable def S182 (k : Nat) : Does := ⟨[(true, [.dat (.int .i64), .dat (.int .i64)]), (true, [.dat (.list (.int .i64))])], [(false, [.dat (.int .i64)])], fun x => spec_l09Code.f k x.1 x.2.1 x.2.2⟩
noncomputable def E182 (k : Nat) : En := ⟨tb, orcOf [(101, S101 k), (144, S144 k), (142, S142 k), (103, S103 k)], lvOf [], k, 0, lvOf [], []⟩
theorem e182 (k : Nat) (x : dens (flatC (S182 k).ps)) : funK (E182 k) (S182 k) Try.f182 x = (S182 k).fn x := by
  kernel_rfl
theorem M182 (k : Nat) : Meets Try.prog 182 (S182 k) := meets_of Try.func182 (by kernel_rfl) tbOk (orc_cons (M101 k) (orc_cons (M144 k) (orc_cons (M142 k) (orc_cons (M103 k) orc_nil)))) mixOk (fun x y h => (e182 k x).trans h) rfl

/-! spec_l09State: function 183 -/
noncomputable def spec_l09State.s0 (k : Nat) (r0 : (List Int) → Int → Int → (List Int) → Int → Option ((List Int) × Int)) (x2_0 : List Int) (x6 : Int) (x7 : Int) (x8 : List Int) (x9 : Int) : Option ((List Int) × Int) := if 0 ≤ x9 then (if 0 ≤ x9 then (if x9 < (x2_0.length : Int) then (if (rd x2_0 x9) = 0 then (none) else (if 0 ≤ x9 then (if x9 < (x8.length : Int) then (if 0 ≤ x9 then (if x9 < (x2_0.length : Int) then (if (rd x2_0 x9) = 0 then (none) else (r0 x2_0 x6 (wrap64 (Int.tdiv x7 (rd x2_0 x9))) (x8.set x9.toNat (wrap64 ((Int.tmod x7 (rd x2_0 x9)) + 1))) (wrap64 (x9 - 1)))) else (none)) else (none)) else (none)) else (none))) else (none)) else (none)) else (some (x8, x6))
noncomputable def spec_l09State.l0 (k : Nat) : Nat → (List Int) → Int → Int → (List Int) → Int → Option ((List Int) × Int)
  | 0, _, _, _, _, _ => none
  | n + 1, x0, x1, x2, x3, x4 => spec_l09State.s0 k (spec_l09State.l0 k n) x0 x1 x2 x3 x4
noncomputable def spec_l09State.g (k : Nat) (r0 : (List Int) → Int → Int → (List Int) → Int → Option ((List Int) × Int)) (l0_0 : List Int) (a1 : Int) : Option ((List Int) × Int) := (spec_l01K.f l0_0).bind fun t1 => if t1 = 0 then (none) else ((spec_l01K.f l0_0).bind fun t2 => if t2 = 0 then (none) else ((spec_l01K.f l0_0).bind fun t3 => if 0 ≤ t3 then (if t3 ≤ t3 then (if t3.toNat ≤ 1099511627776 then ((spec_l01K.f l0_0).bind fun t4 => r0 l0_0 (Int.tmod a1 t1) (wrap64 (Int.tdiv a1 t2)) (List.replicate t3.toNat (0 : Int)) (wrap64 (t4 - 1))) else (none)) else (none)) else (none)))
noncomputable def spec_l09State.f (k : Nat) (l0_0 : List Int) (a1 : Int) : Option ((List Int) × Int) := spec_l09State.g k (spec_l09State.l0 k k) l0_0 a1
noncomputable def S183 (k : Nat) : Does := ⟨[(true, [.dat (.list (.int .i64))]), (false, [.dat (.int .i64)])], [(false, [.own 2 (.int .i64)]), (false, [.dat (.int .i64)])], fun x => spec_l09State.f k x.1 x.2⟩
noncomputable def E183 (k : Nat) : En := ⟨tb, orcOf [(142, S142 k)], lvOf [(0, [(2, []), (6, []), (7, []), (8, []), (9, [])])], k, 0, lvOf [], []⟩
noncomputable def n183_0 (x2_0 : List Int) (x6 : Int) (x7 : Int) (x8 : List Int) (x9 : Int) : St := ⟨48, lookA [(2, .box 0 0), (6, .dat (.int .i64) x6), (7, .dat (.int .i64) x7), (8, .own 1), (9, .dat (.int .i64) x9)], Go.V.look [(0, .cells [.dat (.list (.int .i64)) x2_0]), (1, .flat 2 (.int .i64) x8)]⟩
def p183_0 : List Bool := [true, true, false, true, false]
theorem r183_0 (k : Nat) (rec : St → Option ((List Int) × Int)) (v : (List Int) × Int × Int × (List Int) × Int) : roundF (E183 k) (S183 k) Try.f183 p183_0 [] rec (n183_0 v.1 v.2.1 v.2.2.1 v.2.2.2.1 v.2.2.2.2) = spec_l09State.s0 k (fun a0 a1 a2 a3 a4 => rec (n183_0 a0 a1 a2 a3 a4)) v.1 v.2.1 v.2.2.1 v.2.2.2.1 v.2.2.2.2 := by
  kernel_rfl
theorem q183_0 (k : Nat) (n : Nat) : ∀ v : (List Int) × Int × Int × (List Int) × Int, loopF (E183 k) (S183 k) Try.f183 p183_0 [] n (n183_0 v.1 v.2.1 v.2.2.1 v.2.2.2.1 v.2.2.2.2) = spec_l09State.l0 k n v.1 v.2.1 v.2.2.1 v.2.2.2.1 v.2.2.2.2 :=
  loopF_eq (E183 k) (S183 k) Try.f183 p183_0 [] (fun v : (List Int) × Int × Int × (List Int) × Int => n183_0 v.1 v.2.1 v.2.2.1 v.2.2.2.1 v.2.2.2.2) (fun rec v => spec_l09State.s0 k (fun a0 a1 a2 a3 a4 => rec (a0, a1, a2, a3, a4)) v.1 v.2.1 v.2.2.1 v.2.2.2.1 v.2.2.2.2) (fun n v => spec_l09State.l0 k n v.1 v.2.1 v.2.2.1 v.2.2.2.1 v.2.2.2.2) (fun _ => rfl) (fun _ _ => rfl) (fun rec v => r183_0 k rec v) n
theorem e183 (k : Nat) (x : dens (flatC (S183 k).ps)) : funK (E183 k) (S183 k) Try.f183 x = (S183 k).fn x := by
  have h : funK (E183 k) (S183 k) Try.f183 x = spec_l09State.g k (fun a0 a1 a2 a3 a4 => loopF (E183 k) (S183 k) Try.f183 p183_0 [] k (n183_0 a0 a1 a2 a3 a4)) x.1 x.2 := by kernel_rfl
  rw [h]
  rw [show (fun a0 a1 a2 a3 a4 => loopF (E183 k) (S183 k) Try.f183 p183_0 [] k (n183_0 a0 a1 a2 a3 a4)) = spec_l09State.l0 k k from funext fun a0 => funext fun a1 => funext fun a2 => funext fun a3 => funext fun a4 => q183_0 k k (a0, a1, a2, a3, a4)]
  rfl
theorem M183 (k : Nat) : Meets Try.prog 183 (S183 k) := meets_of Try.func183 (by kernel_rfl) tbOk (orc_cons (M142 k) orc_nil) mixOk (fun x y h => (e183 k x).trans h) rfl

/-! spec_l09Near: function 177 -/
noncomputable def spec_l09Near.f (a0_0 : Int) (a0_1 : Int) (a1 : Int) (a2 : Int) : Option (Bool) := if a1 = a2 then (some true) else ((spec_l09Road.f a1 a2).bind fun t1 => some (!decide ((andV .i64 a0_1 t1) = 0)))
noncomputable def S177 (k : Nat) : Does := ⟨[(true, [.dat (.int .i64), .dat (.int .i64)]), (false, [.dat (.int .i64)]), (false, [.dat (.int .i64)])], [(false, [.dat .bool])], fun x => spec_l09Near.f x.1 x.2.1 x.2.2.1 x.2.2.2⟩
noncomputable def E177 (k : Nat) : En := ⟨tb, orcOf [(166, S166 k)], lvOf [], k, 0, lvOf [], []⟩
theorem e177 (k : Nat) (x : dens (flatC (S177 k).ps)) : funK (E177 k) (S177 k) Try.f177 x = (S177 k).fn x := by
  kernel_rfl
theorem M177 (k : Nat) : Meets Try.prog 177 (S177 k) := meets_of Try.func177 (by kernel_rfl) tbOk (orc_cons (M166 k) orc_nil) mixOk (fun x y h => (e177 k x).trans h) rfl

/-! spec_l09Number: function 208 -/
noncomputable def spec_l09Number.s0 (k : Nat) (r0 : (List Int) → Int → (List Int) → Int → Int → Int → Option (Int)) (x1 : List Int) (x2 : Int) (x3_0 : List Int) (x7 : Int) (x10 : Int) (x11 : Int) : Option (Int) := if x11 < x10 then (if 0 ≤ x11 then (if x11 < (x3_0.length : Int) then (if 0 ≤ x11 then (if x11 < (x1.length : Int) then (r0 x1 x2 x3_0 (wrap64 ((wrap64 ((wrap64 (x7 * (rd x3_0 x11))) + (rd x1 x11))) - 1)) x10 (wrap64 (x11 + 1))) else (none)) else (none)) else (none)) else (none)) else ((spec_l01K.f x3_0).bind fun t1 => some (wrap64 ((wrap64 (x7 * t1)) + x2)))
noncomputable def spec_l09Number.l0 (k : Nat) : Nat → (List Int) → Int → (List Int) → Int → Int → Int → Option (Int)
  | 0, _, _, _, _, _, _ => none
  | n + 1, x0, x1, x2, x3, x4, x5 => spec_l09Number.s0 k (spec_l09Number.l0 k n) x0 x1 x2 x3 x4 x5
noncomputable def spec_l09Number.g (k : Nat) (r0 : (List Int) → Int → (List Int) → Int → Int → Int → Option (Int)) (l0_0 : List Int) (l1 : List Int) (a2 : Int) : Option (Int) := r0 l1 a2 l0_0 0 (l1.length : Int) 0
noncomputable def spec_l09Number.f (k : Nat) (l0_0 : List Int) (l1 : List Int) (a2 : Int) : Option (Int) := spec_l09Number.g k (spec_l09Number.l0 k k) l0_0 l1 a2
noncomputable def S208 (k : Nat) : Does := ⟨[(true, [.dat (.list (.int .i64))]), (false, [.dat (.list (.int .i64))]), (false, [.dat (.int .i64)])], [(false, [.dat (.int .i64)])], fun x => spec_l09Number.f k x.1 x.2.1 x.2.2⟩
noncomputable def E208 (k : Nat) : En := ⟨tb, orcOf [(142, S142 k)], lvOf [(0, [(1, []), (2, []), (3, []), (7, []), (10, []), (11, [])])], k, 0, lvOf [], []⟩
noncomputable def n208_0 (x1 : List Int) (x2 : Int) (x3_0 : List Int) (x7 : Int) (x10 : Int) (x11 : Int) : St := ⟨34, lookA [(1, .dat (.list (.int .i64)) x1), (2, .dat (.int .i64) x2), (3, .box 0 0), (7, .dat (.int .i64) x7), (10, .dat (.int .i64) x10), (11, .dat (.int .i64) x11)], Go.V.look [(0, .cells [.dat (.list (.int .i64)) x3_0])]⟩
def p208_0 : List Bool := [true, true, false, true, false]
theorem r208_0 (k : Nat) (rec : St → Option (Int)) (v : (List Int) × Int × (List Int) × Int × Int × Int) : roundF (E208 k) (S208 k) Try.f208 p208_0 [] rec (n208_0 v.1 v.2.1 v.2.2.1 v.2.2.2.1 v.2.2.2.2.1 v.2.2.2.2.2) = spec_l09Number.s0 k (fun a0 a1 a2 a3 a4 a5 => rec (n208_0 a0 a1 a2 a3 a4 a5)) v.1 v.2.1 v.2.2.1 v.2.2.2.1 v.2.2.2.2.1 v.2.2.2.2.2 := by
  kernel_rfl
theorem q208_0 (k : Nat) (n : Nat) : ∀ v : (List Int) × Int × (List Int) × Int × Int × Int, loopF (E208 k) (S208 k) Try.f208 p208_0 [] n (n208_0 v.1 v.2.1 v.2.2.1 v.2.2.2.1 v.2.2.2.2.1 v.2.2.2.2.2) = spec_l09Number.l0 k n v.1 v.2.1 v.2.2.1 v.2.2.2.1 v.2.2.2.2.1 v.2.2.2.2.2 :=
  loopF_eq (E208 k) (S208 k) Try.f208 p208_0 [] (fun v : (List Int) × Int × (List Int) × Int × Int × Int => n208_0 v.1 v.2.1 v.2.2.1 v.2.2.2.1 v.2.2.2.2.1 v.2.2.2.2.2) (fun rec v => spec_l09Number.s0 k (fun a0 a1 a2 a3 a4 a5 => rec (a0, a1, a2, a3, a4, a5)) v.1 v.2.1 v.2.2.1 v.2.2.2.1 v.2.2.2.2.1 v.2.2.2.2.2) (fun n v => spec_l09Number.l0 k n v.1 v.2.1 v.2.2.1 v.2.2.2.1 v.2.2.2.2.1 v.2.2.2.2.2) (fun _ => rfl) (fun _ _ => rfl) (fun rec v => r208_0 k rec v) n
theorem e208 (k : Nat) (x : dens (flatC (S208 k).ps)) : funK (E208 k) (S208 k) Try.f208 x = (S208 k).fn x := by
  have h : funK (E208 k) (S208 k) Try.f208 x = spec_l09Number.g k (fun a0 a1 a2 a3 a4 a5 => loopF (E208 k) (S208 k) Try.f208 p208_0 [] k (n208_0 a0 a1 a2 a3 a4 a5)) x.1 x.2.1 x.2.2 := by kernel_rfl
  rw [h]
  rw [show (fun a0 a1 a2 a3 a4 a5 => loopF (E208 k) (S208 k) Try.f208 p208_0 [] k (n208_0 a0 a1 a2 a3 a4 a5)) = spec_l09Number.l0 k k from funext fun a0 => funext fun a1 => funext fun a2 => funext fun a3 => funext fun a4 => funext fun a5 => q208_0 k k (a0, a1, a2, a3, a4, a5)]
  rfl
theorem M208 (k : Nat) : Meets Try.prog 208 (S208 k) := meets_of Try.func208 (by kernel_rfl) tbOk (orc_cons (M142 k) orc_nil) mixOk (fun x y h => (e208 k x).trans h) rfl

/-! spec_l09Move: function 184 -/
noncomputable def spec_l09Move.s0 (k : Nat) (r0 : Int → (List Int) → (List Int) → Int → Int → Option (Int)) (x2 : Int) (x3_0 : List Int) (x7 : List Int) (x12 : Int) (x13 : Int) : Option (Int) := if x13 < x12 then (if 0 ≤ x13 then (if x13 < (x7.length : Int) then (if 0 ≤ x13 then (if x13 < (x7.length : Int) then (if x13 = x2 then (if 0 ≤ x13 then (if x13 < (x3_0.length : Int) then (if 0 ≤ x13 then (if x13 < ((x7.set x13.toNat (wrap64 ((rd x7 x13) - 1))).length : Int) then (if 0 ≤ x13 then (if x13 < (((x7.set x13.toNat (wrap64 ((rd x7 x13) - 1))).set x13.toNat (rd x3_0 x13)).length : Int) then (if (rd ((x7.set x13.toNat (wrap64 ((rd x7 x13) - 1))).set x13.toNat (rd x3_0 x13)) x13) = 0 then (some (-1)) else (r0 x2 x3_0 ((x7.set x13.toNat (wrap64 ((rd x7 x13) - 1))).set x13.toNat (rd x3_0 x13)) x12 (wrap64 (x13 + 1)))) else (none)) else (none)) else (none)) else (none)) else (none)) else (none)) else (if 0 ≤ x13 then (if x13 < ((x7.set x13.toNat (wrap64 ((rd x7 x13) - 1))).length : Int) then (if (rd (x7.set x13.toNat (wrap64 ((rd x7 x13) - 1))) x13) = 0 then (some (-1)) else (r0 x2 x3_0 (x7.set x13.toNat (wrap64 ((rd x7 x13) - 1))) x12 (wrap64 (x13 + 1)))) else (none)) else (none))) else (none)) else (none)) else (none)) else (none)) else ((spec_l09Number.f k x3_0 x7 x2).bind fun t2 => some t2)
noncomputable def spec_l09Move.l0 (k : Nat) : Nat → Int → (List Int) → (List Int) → Int → Int → Option (Int)
  | 0, _, _, _, _, _ => none
  | n + 1, x0, x1, x2, x3, x4 => spec_l09Move.s0 k (spec_l09Move.l0 k n) x0 x1 x2 x3 x4
noncomputable def spec_l09Move.g (k : Nat) (r0 : Int → (List Int) → (List Int) → Int → Int → Option (Int)) (l0_0 : List Int) (l1 : List Int) (a2 : Int) : Option (Int) := (spec_l01Own.f l1).bind fun t1 => r0 a2 l0_0 t1 (t1.length : Int) 0
noncomputable def spec_l09Move.f (k : Nat) (l0_0 : List Int) (l1 : List Int) (a2 : Int) : Option (Int) := spec_l09Move.g k (spec_l09Move.l0 k k) l0_0 l1 a2
noncomputable def S184 (k : Nat) : Does := ⟨[(true, [.dat (.list (.int .i64))]), (false, [.dat (.list (.int .i64))]), (false, [.dat (.int .i64)])], [(false, [.dat (.int .i64)])], fun x => spec_l09Move.f k x.1 x.2.1 x.2.2⟩
noncomputable def E184 (k : Nat) : En := ⟨tb, orcOf [(120, S120 k), (208, S208 k)], lvOf [(0, [(2, []), (3, []), (7, []), (12, []), (13, [])])], k, 0, lvOf [], []⟩
noncomputable def n184_0 (x2 : Int) (x3_0 : List Int) (x7 : List Int) (x12 : Int) (x13 : Int) : St := ⟨43, lookA [(2, .dat (.int .i64) x2), (3, .box 0 0), (7, .own 1), (12, .dat (.int .i64) x12), (13, .dat (.int .i64) x13)], Go.V.look [(0, .cells [.dat (.list (.int .i64)) x3_0]), (1, .flat 2 (.int .i64) x7)]⟩
def p184_0 : List Bool := [true, true, false, true, false]
theorem r184_0 (k : Nat) (rec : St → Option (Int)) (v : Int × (List Int) × (List Int) × Int × Int) : roundF (E184 k) (S184 k) Try.f184 p184_0 [] rec (n184_0 v.1 v.2.1 v.2.2.1 v.2.2.2.1 v.2.2.2.2) = spec_l09Move.s0 k (fun a0 a1 a2 a3 a4 => rec (n184_0 a0 a1 a2 a3 a4)) v.1 v.2.1 v.2.2.1 v.2.2.2.1 v.2.2.2.2 := by
  kernel_rfl
theorem q184_0 (k : Nat) (n : Nat) : ∀ v : Int × (List Int) × (List Int) × Int × Int, loopF (E184 k) (S184 k) Try.f184 p184_0 [] n (n184_0 v.1 v.2.1 v.2.2.1 v.2.2.2.1 v.2.2.2.2) = spec_l09Move.l0 k n v.1 v.2.1 v.2.2.1 v.2.2.2.1 v.2.2.2.2 :=
  loopF_eq (E184 k) (S184 k) Try.f184 p184_0 [] (fun v : Int × (List Int) × (List Int) × Int × Int => n184_0 v.1 v.2.1 v.2.2.1 v.2.2.2.1 v.2.2.2.2) (fun rec v => spec_l09Move.s0 k (fun a0 a1 a2 a3 a4 => rec (a0, a1, a2, a3, a4)) v.1 v.2.1 v.2.2.1 v.2.2.2.1 v.2.2.2.2) (fun n v => spec_l09Move.l0 k n v.1 v.2.1 v.2.2.1 v.2.2.2.1 v.2.2.2.2) (fun _ => rfl) (fun _ _ => rfl) (fun rec v => r184_0 k rec v) n
theorem e184 (k : Nat) (x : dens (flatC (S184 k).ps)) : funK (E184 k) (S184 k) Try.f184 x = (S184 k).fn x := by
  have h : funK (E184 k) (S184 k) Try.f184 x = spec_l09Move.g k (fun a0 a1 a2 a3 a4 => loopF (E184 k) (S184 k) Try.f184 p184_0 [] k (n184_0 a0 a1 a2 a3 a4)) x.1 x.2.1 x.2.2 := by kernel_rfl
  rw [h]
  rw [show (fun a0 a1 a2 a3 a4 => loopF (E184 k) (S184 k) Try.f184 p184_0 [] k (n184_0 a0 a1 a2 a3 a4)) = spec_l09Move.l0 k k from funext fun a0 => funext fun a1 => funext fun a2 => funext fun a3 => funext fun a4 => q184_0 k k (a0, a1, a2, a3, a4)]
  rfl
theorem M184 (k : Nat) : Meets Try.prog 184 (S184 k) := meets_of Try.func184 (by kernel_rfl) tbOk (orc_cons (M120 k) (orc_cons (M208 k) orc_nil)) mixOk (fun x y h => (e184 k x).trans h) rfl

/-! spec_l09Safe: function 106 -/
noncomputable def spec_l09Safe.s3 (k : Nat) (r2 : Int → Int → (List Int) → (List Bool) → Bool → Int → Int → Option ((List Bool))) (r3 : Int → Int → (List Int) → (List Bool) → Bool → Int → (List Int) → Int → Bool → Int → Int → Int → Option ((List Bool))) (x2_0 : Int) (x2_1 : Int) (x3_0 : List Int) (x5 : List Bool) (x9 : Bool) (x10 : Int) (x11 : List Int) (x12 : Int) (x13 : Bool) (x14 : Int) (x47 : Int) (x48 : Int) : Option ((List Bool)) := if x14 < x2_0 then (if x13 = true then (if x13 = true then (r2 x2_0 x2_1 x3_0 x5 x9 x47 (wrap64 (x48 + 1))) else (if 0 ≤ x10 then (if x10 < (x5.length : Int) then (r2 x2_0 x2_1 x3_0 (x5.set x10.toNat false) true x47 (wrap64 (x48 + 1))) else (none)) else (none))) else ((spec_l09Near.f x2_0 x2_1 x12 x14).bind fun t4 => if t4 = true then ((spec_l09Move.f k x3_0 x11 x14).bind fun t5 => if 0 ≤ t5 then (if 0 ≤ t5 then (if t5 < (x5.length : Int) then (r3 x2_0 x2_1 x3_0 x5 x9 x10 x11 x12 (rdOf false x5 t5) (wrap64 (x14 + 1)) x47 x48) else (none)) else (none)) else (r3 x2_0 x2_1 x3_0 x5 x9 x10 x11 x12 false (wrap64 (x14 + 1)) x47 x48)) else (r3 x2_0 x2_1 x3_0 x5 x9 x10 x11 x12 x13 (wrap64 (x14 + 1)) x47 x48))) else (if x13 = true then (r2 x2_0 x2_1 x3_0 x5 x9 x47 (wrap64 (x48 + 1))) else (if 0 ≤ x10 then (if x10 < (x5.length : Int) then (r2 x2_0 x2_1 x3_0 (x5.set x10.toNat false) true x47 (wrap64 (x48 + 1))) else (none)) else (none)))
noncomputable def spec_l09Safe.l3 (k : Nat) (r1 : Int → Int → (List Int) → (List Bool) → Bool → Option ((List Bool))) (r2 : Int → Int → (List Int) → (List Bool) → Bool → Int → Int → Option ((List Bool))) : Nat → Int → Int → (List Int) → (List Bool) → Bool → Int → (List Int) → Int → Bool → Int → Int → Int → Option ((List Bool))
  | 0, _, _, _, _, _, _, _, _, _, _, _, _ => none
  | n + 1, x0, x1, x2, x3, x4, x5, x6, x7, x8, x9, x10, x11 => spec_l09Safe.s3 k r2 (spec_l09Safe.l3 k r1 r2 n) x0 x1 x2 x3 x4 x5 x6 x7 x8 x9 x10 x11
noncomputable def spec_l09Safe.s2 (k : Nat) (r1 : Int → Int → (List Int) → (List Bool) → Bool → Option ((List Bool))) (r2 : Int → Int → (List Int) → (List Bool) → Bool → Int → Int → Option ((List Bool))) (r3 : Int → Int → (List Int) → (List Bool) → Bool → Int → (List Int) → Int → Bool → Int → Int → Int → Option ((List Bool))) (x2_0 : Int) (x2_1 : Int) (x3_0 : List Int) (x5 : List Bool) (x9 : Bool) (x47 : Int) (x48 : Int) : Option ((List Bool)) := if x48 < x47 then (if 0 ≤ x48 then (if x48 < (x5.length : Int) then (if (rdOf false x5 x48) = true then ((spec_l09State.f k x3_0 x48).bind fun t3 => r3 x2_0 x2_1 x3_0 x5 x9 x48 t3.1 t3.2 false 0 x47 x48) else (r2 x2_0 x2_1 x3_0 x5 x9 x47 (wrap64 (x48 + 1)))) else (none)) else (none)) else (r1 x2_0 x2_1 x3_0 x5 x9)
noncomputable def spec_l09Safe.l2 (k : Nat) (r1 : Int → Int → (List Int) → (List Bool) → Bool → Option ((List Bool))) : Nat → Int → Int → (List Int) → (List Bool) → Bool → Int → Int → Option ((List Bool))
  | 0, _, _, _, _, _, _, _ => none
  | n + 1, x0, x1, x2, x3, x4, x5, x6 => spec_l09Safe.s2 k r1 (spec_l09Safe.l2 k r1 n) (spec_l09Safe.l3 k r1 (spec_l09Safe.l2 k r1 n) k) x0 x1 x2 x3 x4 x5 x6
noncomputable def spec_l09Safe.s1 (k : Nat) (r1 : Int → Int → (List Int) → (List Bool) → Bool → Option ((List Bool))) (r2 : Int → Int → (List Int) → (List Bool) → Bool → Int → Int → Option ((List Bool))) (x2_0 : Int) (x2_1 : Int) (x3_0 : List Int) (x5 : List Bool) (x9 : Bool) : Option ((List Bool)) := if x9 = true then (r2 x2_0 x2_1 x3_0 x5 false (x5.length : Int) 0) else (some x5)
noncomputable def spec_l09Safe.l1 (k : Nat) : Nat → Int → Int → (List Int) → (List Bool) → Bool → Option ((List Bool))
  | 0, _, _, _, _, _ => none
  | n + 1, x0, x1, x2, x3, x4 => spec_l09Safe.s1 k (spec_l09Safe.l1 k n) (spec_l09Safe.l2 k (spec_l09Safe.l1 k n) k) x0 x1 x2 x3 x4
noncomputable def spec_l09Safe.s0 (k : Nat) (r0 : Int → Int → (List Int) → (List Bool) → Int → Int → Option ((List Bool))) (r1 : Int → Int → (List Int) → (List Bool) → Bool → Option ((List Bool))) (x2_0 : Int) (x2_1 : Int) (x3_0 : List Int) (x5 : List Bool) (x21 : Int) (x22 : Int) : Option ((List Bool)) := if x22 < x21 then ((spec_l09State.f k x3_0 x22).bind fun t2 => if 0 ≤ t2.2 then (if t2.2 < (t2.1.length : Int) then (if 0 ≤ t2.2 then (if t2.2 < (x3_0.length : Int) then (if 0 ≤ x22 then (if x22 < (x5.length : Int) then (r0 x2_0 x2_1 x3_0 (x5.set x22.toNat (decide ((rd t2.1 t2.2) = (rd x3_0 t2.2)))) x21 (wrap64 (x22 + 1))) else (none)) else (none)) else (none)) else (none)) else (none)) else (none)) else (r1 x2_0 x2_1 x3_0 x5 true)
noncomputable def spec_l09Safe.l0 (k : Nat) : Nat → Int → Int → (List Int) → (List Bool) → Int → Int → Option ((List Bool))
  | 0, _, _, _, _, _, _ => none
  | n + 1, x0, x1, x2, x3, x4, x5 => spec_l09Safe.s0 k (spec_l09Safe.l0 k n) (spec_l09Safe.l1 k k) x0 x1 x2 x3 x4 x5
noncomputable def spec_l09Safe.g (k : Nat) (r0 : Int → Int → (List Int) → (List Bool) → Int → Int → Option ((List Bool))) (a0_0 : Int) (a0_1 : Int) (l1_0 : List Int) : Option ((List Bool)) := (spec_l09Size.f k a0_0 a0_1 l1_0).bind fun t1 => if 0 ≤ t1 then (if t1 ≤ t1 then (if t1.toNat ≤ 1099511627776 then (r0 a0_0 a0_1 l1_0 (List.replicate t1.toNat (false : Bool)) ((List.replicate t1.toNat (false : Bool)).length : Int) 0) else (none)) else (none)) else (none)
noncomputable def spec_l09Safe.f (k : Nat) (a0_0 : Int) (a0_1 : Int) (l1_0 : List Int) : Option ((List Bool)) := spec_l09Safe.g k (spec_l09Safe.l0 k k) a0_0 a0_1 l1_0
noncomputable def S106 (k : Nat) : Does := ⟨[(true, [.dat (.int .i64), .dat (.int .i64)]), (true, [.dat (.list (.int .i64))])], [(false, [.own 4 .bool])], fun x => spec_l09Safe.f k x.1 x.2.1 x.2.2⟩
noncomputable def E106 (k : Nat) : En := ⟨tb, orcOf [(103, S103 k), (183, S183 k), (177, S177 k), (184, S184 k)], lvOf [(0, [(2, []), (3, []), (5, []), (21, []), (22, [])]), (2, [(2, []), (3, []), (5, []), (9, [])]), (4, [(2, []), (3, []), (5, []), (9, []), (47, []), (48, [])]), (6, [(2, []), (3, []), (5, []), (9, []), (10, []), (11, []), (12, []), (13, []), (14, []), (47, []), (48, [])])], k, 0, lvOf [], []⟩
noncomputable def n106_0 (x2_0 : Int) (x2_1 : Int) (x3_0 : List Int) (x5 : List Bool) (x21 : Int) (x22 : Int) : St := ⟨95, lookA [(2, .box 0 0), (3, .box 1 0), (5, .own 2), (21, .dat (.int .i64) x21), (22, .dat (.int .i64) x22)], Go.V.look [(0, .cells [.dat (.int .i64) x2_0, .dat (.int .i64) x2_1]), (1, .cells [.dat (.list (.int .i64)) x3_0]), (2, .flat 4 .bool x5)]⟩
def p106_0 : List Bool := [true, true, false, true, false]
noncomputable def n106_1 (x2_0 : Int) (x2_1 : Int) (x3_0 : List Int) (x5 : List Bool) (x9 : Bool) : St := ⟨95, lookA [(2, .box 0 0), (3, .box 1 0), (5, .own 2), (9, .dat .bool x9)], Go.V.look [(0, .cells [.dat (.int .i64) x2_0, .dat (.int .i64) x2_1]), (1, .cells [.dat (.list (.int .i64)) x3_0]), (2, .flat 4 .bool x5)]⟩
def p106_1 : List Bool := [true, true, true, false, true, false]
noncomputable def n106_2 (x2_0 : Int) (x2_1 : Int) (x3_0 : List Int) (x5 : List Bool) (x9 : Bool) (x47 : Int) (x48 : Int) : St := ⟨95, lookA [(2, .box 0 0), (3, .box 1 0), (5, .own 2), (9, .dat .bool x9), (47, .dat (.int .i64) x47), (48, .dat (.int .i64) x48)], Go.V.look [(0, .cells [.dat (.int .i64) x2_0, .dat (.int .i64) x2_1]), (1, .cells [.dat (.list (.int .i64)) x3_0]), (2, .flat 4 .bool x5)]⟩
def p106_2 : List Bool := [true, true, true, false, true, false, false, true, false, true, true, false]
noncomputable def n106_3 (x2_0 : Int) (x2_1 : Int) (x3_0 : List Int) (x5 : List Bool) (x9 : Bool) (x10 : Int) (x11 : List Int) (x12 : Int) (x13 : Bool) (x14 : Int) (x47 : Int) (x48 : Int) : St := ⟨95, lookA [(2, .box 0 0), (3, .box 1 0), (5, .own 2), (9, .dat .bool x9), (10, .dat (.int .i64) x10), (11, .own 3), (12, .dat (.int .i64) x12), (13, .dat .bool x13), (14, .dat (.int .i64) x14), (47, .dat (.int .i64) x47), (48, .dat (.int .i64) x48)], Go.V.look [(0, .cells [.dat (.int .i64) x2_0, .dat (.int .i64) x2_1]), (1, .cells [.dat (.list (.int .i64)) x3_0]), (2, .flat 4 .bool x5), (3, .flat 2 (.int .i64) x11)]⟩
def p106_3 : List Bool := [true, true, true, false, true, false, false, true, false, true, true, false, false, true, true, false, false, true, true, true, true, false, true, false]
theorem r106_3 (k : Nat) (R1 : St → Option ((List Bool))) (R2 : St → Option ((List Bool))) (rec : St → Option ((List Bool))) (v : Int × Int × (List Int) × (List Bool) × Bool × Int × (List Int) × Int × Bool × Int × Int × Int) : roundF (E106 k) (S106 k) Try.f106 p106_3 [R1, R2] rec (n106_3 v.1 v.2.1 v.2.2.1 v.2.2.2.1 v.2.2.2.2.1 v.2.2.2.2.2.1 v.2.2.2.2.2.2.1 v.2.2.2.2.2.2.2.1 v.2.2.2.2.2.2.2.2.1 v.2.2.2.2.2.2.2.2.2.1 v.2.2.2.2.2.2.2.2.2.2.1 v.2.2.2.2.2.2.2.2.2.2.2) = spec_l09Safe.s3 k (fun a0 a1 a2 a3 a4 a5 a6 => R2 (n106_2 a0 a1 a2 a3 a4 a5 a6)) (fun a0 a1 a2 a3 a4 a5 a6 a7 a8 a9 a10 a11 => rec (n106_3 a0 a1 a2 a3 a4 a5 a6 a7 a8 a9 a10 a11)) v.1 v.2.1 v.2.2.1 v.2.2.2.1 v.2.2.2.2.1 v.2.2.2.2.2.1 v.2.2.2.2.2.2.1 v.2.2.2.2.2.2.2.1 v.2.2.2.2.2.2.2.2.1 v.2.2.2.2.2.2.2.2.2.1 v.2.2.2.2.2.2.2.2.2.2.1 v.2.2.2.2.2.2.2.2.2.2.2 := by
  kernel_rfl
theorem q106_3 (k : Nat) (R1 : St → Option ((List Bool))) (R2 : St → Option ((List Bool))) (n : Nat) : ∀ v : Int × Int × (List Int) × (List Bool) × Bool × Int × (List Int) × Int × Bool × Int × Int × Int, loopF (E106 k) (S106 k) Try.f106 p106_3 [R1, R2] n (n106_3 v.1 v.2.1 v.2.2.1 v.2.2.2.1 v.2.2.2.2.1 v.2.2.2.2.2.1 v.2.2.2.2.2.2.1 v.2.2.2.2.2.2.2.1 v.2.2.2.2.2.2.2.2.1 v.2.2.2.2.2.2.2.2.2.1 v.2.2.2.2.2.2.2.2.2.2.1 v.2.2.2.2.2.2.2.2.2.2.2) = spec_l09Safe.l3 k (fun a0 a1 a2 a3 a4 => R1 (n106_1 a0 a1 a2 a3 a4)) (fun a0 a1 a2 a3 a4 a5 a6 => R2 (n106_2 a0 a1 a2 a3 a4 a5 a6)) n v.1 v.2.1 v.2.2.1 v.2.2.2.1 v.2.2.2.2.1 v.2.2.2.2.2.1 v.2.2.2.2.2.2.1 v.2.2.2.2.2.2.2.1 v.2.2.2.2.2.2.2.2.1 v.2.2.2.2.2.2.2.2.2.1 v.2.2.2.2.2.2.2.2.2.2.1 v.2.2.2.2.2.2.2.2.2.2.2 :=
  loopF_eq (E106 k) (S106 k) Try.f106 p106_3 [R1, R2] (fun v : Int × Int × (List Int) × (List Bool) × Bool × Int × (List Int) × Int × Bool × Int × Int × Int => n106_3 v.1 v.2.1 v.2.2.1 v.2.2.2.1 v.2.2.2.2.1 v.2.2.2.2.2.1 v.2.2.2.2.2.2.1 v.2.2.2.2.2.2.2.1 v.2.2.2.2.2.2.2.2.1 v.2.2.2.2.2.2.2.2.2.1 v.2.2.2.2.2.2.2.2.2.2.1 v.2.2.2.2.2.2.2.2.2.2.2) (fun rec v => spec_l09Safe.s3 k (fun a0 a1 a2 a3 a4 a5 a6 => R2 (n106_2 a0 a1 a2 a3 a4 a5 a6)) (fun a0 a1 a2 a3 a4 a5 a6 a7 a8 a9 a10 a11 => rec (a0, a1, a2, a3, a4, a5, a6, a7, a8, a9, a10, a11)) v.1 v.2.1 v.2.2.1 v.2.2.2.1 v.2.2.2.2.1 v.2.2.2.2.2.1 v.2.2.2.2.2.2.1 v.2.2.2.2.2.2.2.1 v.2.2.2.2.2.2.2.2.1 v.2.2.2.2.2.2.2.2.2.1 v.2.2.2.2.2.2.2.2.2.2.1 v.2.2.2.2.2.2.2.2.2.2.2) (fun n v => spec_l09Safe.l3 k (fun a0 a1 a2 a3 a4 => R1 (n106_1 a0 a1 a2 a3 a4)) (fun a0 a1 a2 a3 a4 a5 a6 => R2 (n106_2 a0 a1 a2 a3 a4 a5 a6)) n v.1 v.2.1 v.2.2.1 v.2.2.2.1 v.2.2.2.2.1 v.2.2.2.2.2.1 v.2.2.2.2.2.2.1 v.2.2.2.2.2.2.2.1 v.2.2.2.2.2.2.2.2.1 v.2.2.2.2.2.2.2.2.2.1 v.2.2.2.2.2.2.2.2.2.2.1 v.2.2.2.2.2.2.2.2.2.2.2) (fun _ => rfl) (fun _ _ => rfl) (fun rec v => r106_3 k R1 R2 rec v) n
theorem r106_2 (k : Nat) (R1 : St → Option ((List Bool))) (rec : St → Option ((List Bool))) (G3 : Int → Int → (List Int) → (List Bool) → Bool → Int → (List Int) → Int → Bool → Int → Int → Int → Option ((List Bool))) (h3 : ∀ a0 a1 a2 a3 a4 a5 a6 a7 a8 a9 a10 a11, loopF (E106 k) (S106 k) Try.f106 p106_3 [R1, rec] k (n106_3 a0 a1 a2 a3 a4 a5 a6 a7 a8 a9 a10 a11) = G3 a0 a1 a2 a3 a4 a5 a6 a7 a8 a9 a10 a11) (v : Int × Int × (List Int) × (List Bool) × Bool × Int × Int) : roundF (E106 k) (S106 k) Try.f106 p106_2 [R1] rec (n106_2 v.1 v.2.1 v.2.2.1 v.2.2.2.1 v.2.2.2.2.1 v.2.2.2.2.2.1 v.2.2.2.2.2.2) = spec_l09Safe.s2 k (fun a0 a1 a2 a3 a4 => R1 (n106_1 a0 a1 a2 a3 a4)) (fun a0 a1 a2 a3 a4 a5 a6 => rec (n106_2 a0 a1 a2 a3 a4 a5 a6)) G3 v.1 v.2.1 v.2.2.1 v.2.2.2.1 v.2.2.2.2.1 v.2.2.2.2.2.1 v.2.2.2.2.2.2 := by
  obtain rfl : (fun a0 a1 a2 a3 a4 a5 a6 a7 a8 a9 a10 a11 => loopF (E106 k) (S106 k) Try.f106 p106_3 [R1, rec] k (n106_3 a0 a1 a2 a3 a4 a5 a6 a7 a8 a9 a10 a11)) = G3 := funext fun a0 => funext fun a1 => funext fun a2 => funext fun a3 => funext fun a4 => funext fun a5 => funext fun a6 => funext fun a7 => funext fun a8 => funext fun a9 => funext fun a10 => funext fun a11 => h3 a0 a1 a2 a3 a4 a5 a6 a7 a8 a9 a10 a11
  kernel_rfl
theorem q106_2 (k : Nat) (R1 : St → Option ((List Bool))) (n : Nat) : ∀ v : Int × Int × (List Int) × (List Bool) × Bool × Int × Int, loopF (E106 k) (S106 k) Try.f106 p106_2 [R1] n (n106_2 v.1 v.2.1 v.2.2.1 v.2.2.2.1 v.2.2.2.2.1 v.2.2.2.2.2.1 v.2.2.2.2.2.2) = spec_l09Safe.l2 k (fun a0 a1 a2 a3 a4 => R1 (n106_1 a0 a1 a2 a3 a4)) n v.1 v.2.1 v.2.2.1 v.2.2.2.1 v.2.2.2.2.1 v.2.2.2.2.2.1 v.2.2.2.2.2.2 :=
  loopF_eq (E106 k) (S106 k) Try.f106 p106_2 [R1] (fun v : Int × Int × (List Int) × (List Bool) × Bool × Int × Int => n106_2 v.1 v.2.1 v.2.2.1 v.2.2.2.1 v.2.2.2.2.1 v.2.2.2.2.2.1 v.2.2.2.2.2.2) (fun rec v => spec_l09Safe.s2 k (fun a0 a1 a2 a3 a4 => R1 (n106_1 a0 a1 a2 a3 a4)) (fun a0 a1 a2 a3 a4 a5 a6 => rec (a0, a1, a2, a3, a4, a5, a6)) (spec_l09Safe.l3 k (fun a0 a1 a2 a3 a4 => R1 (n106_1 a0 a1 a2 a3 a4)) (fun a0 a1 a2 a3 a4 a5 a6 => rec (a0, a1, a2, a3, a4, a5, a6)) k) v.1 v.2.1 v.2.2.1 v.2.2.2.1 v.2.2.2.2.1 v.2.2.2.2.2.1 v.2.2.2.2.2.2) (fun n v => spec_l09Safe.l2 k (fun a0 a1 a2 a3 a4 => R1 (n106_1 a0 a1 a2 a3 a4)) n v.1 v.2.1 v.2.2.1 v.2.2.2.1 v.2.2.2.2.1 v.2.2.2.2.2.1 v.2.2.2.2.2.2) (fun _ => rfl) (fun _ _ => rfl) (fun rec v => r106_2 k R1 rec _ (fun a0 a1 a2 a3 a4 a5 a6 a7 a8 a9 a10 a11 => q106_3 k R1 rec k (a0, a1, a2, a3, a4, a5, a6, a7, a8, a9, a10, a11)) v) n
theorem r106_1 (k : Nat) (rec : St → Option ((List Bool))) (G2 : Int → Int → (List Int) → (List Bool) → Bool → Int → Int → Option ((List Bool))) (h2 : ∀ a0 a1 a2 a3 a4 a5 a6, loopF (E106 k) (S106 k) Try.f106 p106_2 [rec] k (n106_2 a0 a1 a2 a3 a4 a5 a6) = G2 a0 a1 a2 a3 a4 a5 a6) (v : Int × Int × (List Int) × (List Bool) × Bool) : roundF (E106 k) (S106 k) Try.f106 p106_1 [] rec (n106_1 v.1 v.2.1 v.2.2.1 v.2.2.2.1 v.2.2.2.2) = spec_l09Safe.s1 k (fun a0 a1 a2 a3 a4 => rec (n106_1 a0 a1 a2 a3 a4)) G2 v.1 v.2.1 v.2.2.1 v.2.2.2.1 v.2.2.2.2 := by
  obtain rfl : (fun a0 a1 a2 a3 a4 a5 a6 => loopF (E106 k) (S106 k) Try.f106 p106_2 [rec] k (n106_2 a0 a1 a2 a3 a4 a5 a6)) = G2 := funext fun a0 => funext fun a1 => funext fun a2 => funext fun a3 => funext fun a4 => funext fun a5 => funext fun a6 => h2 a0 a1 a2 a3 a4 a5 a6
  kernel_rfl
theorem q106_1 (k : Nat) (n : Nat) : ∀ v : Int × Int × (List Int) × (List Bool) × Bool, loopF (E106 k) (S106 k) Try.f106 p106_1 [] n (n106_1 v.1 v.2.1 v.2.2.1 v.2.2.2.1 v.2.2.2.2) = spec_l09Safe.l1 k n v.1 v.2.1 v.2.2.1 v.2.2.2.1 v.2.2.2.2 :=
  loopF_eq (E106 k) (S106 k) Try.f106 p106_1 [] (fun v : Int × Int × (List Int) × (List Bool) × Bool => n106_1 v.1 v.2.1 v.2.2.1 v.2.2.2.1 v.2.2.2.2) (fun rec v => spec_l09Safe.s1 k (fun a0 a1 a2 a3 a4 => rec (a0, a1, a2, a3, a4)) (spec_l09Safe.l2 k (fun a0 a1 a2 a3 a4 => rec (a0, a1, a2, a3, a4)) k) v.1 v.2.1 v.2.2.1 v.2.2.2.1 v.2.2.2.2) (fun n v => spec_l09Safe.l1 k n v.1 v.2.1 v.2.2.1 v.2.2.2.1 v.2.2.2.2) (fun _ => rfl) (fun _ _ => rfl) (fun rec v => r106_1 k rec _ (fun a0 a1 a2 a3 a4 a5 a6 => q106_2 k rec k (a0, a1, a2, a3, a4, a5, a6)) v) n
theorem r106_0 (k : Nat) (rec : St → Option ((List Bool))) (G1 : Int → Int → (List Int) → (List Bool) → Bool → Option ((List Bool))) (h1 : ∀ a0 a1 a2 a3 a4, loopF (E106 k) (S106 k) Try.f106 p106_1 [] k (n106_1 a0 a1 a2 a3 a4) = G1 a0 a1 a2 a3 a4) (v : Int × Int × (List Int) × (List Bool) × Int × Int) : roundF (E106 k) (S106 k) Try.f106 p106_0 [] rec (n106_0 v.1 v.2.1 v.2.2.1 v.2.2.2.1 v.2.2.2.2.1 v.2.2.2.2.2) = spec_l09Safe.s0 k (fun a0 a1 a2 a3 a4 a5 => rec (n106_0 a0 a1 a2 a3 a4 a5)) G1 v.1 v.2.1 v.2.2.1 v.2.2.2.1 v.2.2.2.2.1 v.2.2.2.2.2 := by
  obtain rfl : (fun a0 a1 a2 a3 a4 => loopF (E106 k) (S106 k) Try.f106 p106_1 [] k (n106_1 a0 a1 a2 a3 a4)) = G1 := funext fun a0 => funext fun a1 => funext fun a2 => funext fun a3 => funext fun a4 => h1 a0 a1 a2 a3 a4
  kernel_rfl
theorem q106_0 (k : Nat) (n : Nat) : ∀ v : Int × Int × (List Int) × (List Bool) × Int × Int, loopF (E106 k) (S106 k) Try.f106 p106_0 [] n (n106_0 v.1 v.2.1 v.2.2.1 v.2.2.2.1 v.2.2.2.2.1 v.2.2.2.2.2) = spec_l09Safe.l0 k n v.1 v.2.1 v.2.2.1 v.2.2.2.1 v.2.2.2.2.1 v.2.2.2.2.2 :=
  loopF_eq (E106 k) (S106 k) Try.f106 p106_0 [] (fun v : Int × Int × (List Int) × (List Bool) × Int × Int => n106_0 v.1 v.2.1 v.2.2.1 v.2.2.2.1 v.2.2.2.2.1 v.2.2.2.2.2) (fun rec v => spec_l09Safe.s0 k (fun a0 a1 a2 a3 a4 a5 => rec (a0, a1, a2, a3, a4, a5)) (spec_l09Safe.l1 k k) v.1 v.2.1 v.2.2.1 v.2.2.2.1 v.2.2.2.2.1 v.2.2.2.2.2) (fun n v => spec_l09Safe.l0 k n v.1 v.2.1 v.2.2.1 v.2.2.2.1 v.2.2.2.2.1 v.2.2.2.2.2) (fun _ => rfl) (fun _ _ => rfl) (fun rec v => r106_0 k rec _ (fun a0 a1 a2 a3 a4 => q106_1 k k (a0, a1, a2, a3, a4)) v) n
theorem e106 (k : Nat) (x : dens (flatC (S106 k).ps)) : funK (E106 k) (S106 k) Try.f106 x = (S106 k).fn x := by
  have h : funK (E106 k) (S106 k) Try.f106 x = spec_l09Safe.g k (fun a0 a1 a2 a3 a4 a5 => loopF (E106 k) (S106 k) Try.f106 p106_0 [] k (n106_0 a0 a1 a2 a3 a4 a5)) x.1 x.2.1 x.2.2 := by kernel_rfl
  rw [h]
  rw [show (fun a0 a1 a2 a3 a4 a5 => loopF (E106 k) (S106 k) Try.f106 p106_0 [] k (n106_0 a0 a1 a2 a3 a4 a5)) = spec_l09Safe.l0 k k from funext fun a0 => funext fun a1 => funext fun a2 => funext fun a3 => funext fun a4 => funext fun a5 => q106_0 k k (a0, a1, a2, a3, a4, a5)]
  rfl
theorem M106 (k : Nat) : Meets Try.prog 106 (S106 k) := meets_of Try.func106 (by kernel_rfl) tbOk (orc_cons (M103 k) (orc_cons (M183 k) (orc_cons (M177 k) (orc_cons (M184 k) orc_nil)))) mixOk (fun x y h => (e106 k x).trans h) rfl

/-! spec_l09Begin: function 105 -/
noncomputable def spec_l09Begin.s0 (k : Nat) (r0 : (List Bool) → Int → Int → (List Int) → Int → Option (Int)) (x2 : List Bool) (x3_0 : Int) (x3_1 : Int) (x4_0 : List Int) (x7 : Int) : Option (Int) := if x7 < x3_0 then ((spec_l09Number.f k x4_0 x4_0 x7).bind fun t1 => if 0 ≤ t1 then (if t1 < (x2.length : Int) then (if (rdOf false x2 t1) = true then (some t1) else (r0 x2 x3_0 x3_1 x4_0 (wrap64 (x7 + 1)))) else (none)) else (none)) else (some (-1))
noncomputable def spec_l09Begin.l0 (k : Nat) : Nat → (List Bool) → Int → Int → (List Int) → Int → Option (Int)
  | 0, _, _, _, _, _ => none
  | n + 1, x0, x1, x2, x3, x4 => spec_l09Begin.s0 k (spec_l09Begin.l0 k n) x0 x1 x2 x3 x4
noncomputable def spec_l09Begin.g (k : Nat) (r0 : (List Bool) → Int → Int → (List Int) → Int → Option (Int)) (a0_0 : Int) (a0_1 : Int) (l1_0 : List Int) (l2 : List Bool) : Option (Int) := r0 l2 a0_0 a0_1 l1_0 0
noncomputable def spec_l09Begin.f (k : Nat) (a0_0 : Int) (a0_1 : Int) (l1_0 : List Int) (l2 : List Bool) : Option (Int) := spec_l09Begin.g k (spec_l09Begin.l0 k k) a0_0 a0_1 l1_0 l2
noncomputable def S105 (k : Nat) : Does := ⟨[(true, [.dat (.int .i64), .dat (.int .i64)]), (true, [.dat (.list (.int .i64))]), (false, [.dat (.list .bool)])], [(false, [.dat (.int .i64)])], fun x => spec_l09Begin.f k x.1 x.2.1 x.2.2.1 x.2.2.2⟩
noncomputable def E105 (k : Nat) : En := ⟨tb, orcOf [(208, S208 k)], lvOf [(0, [(2, []), (3, []), (4, []), (7, [])])], k, 0, lvOf [], []⟩
noncomputable def n105_0 (x2 : List Bool) (x3_0 : Int) (x3_1 : Int) (x4_0 : List Int) (x7 : Int) : St := ⟨25, lookA [(2, .dat (.list .bool) x2), (3, .box 0 0), (4, .box 1 0), (7, .dat (.int .i64) x7)], Go.V.look [(0, .cells [.dat (.int .i64) x3_0, .dat (.int .i64) x3_1]), (1, .cells [.dat (.list (.int .i64)) x4_0])]⟩
def p105_0 : List Bool := [true, false, true, false]
theorem r105_0 (k : Nat) (rec : St → Option (Int)) (v : (List Bool) × Int × Int × (List Int) × Int) : roundF (E105 k) (S105 k) Try.f105 p105_0 [] rec (n105_0 v.1 v.2.1 v.2.2.1 v.2.2.2.1 v.2.2.2.2) = spec_l09Begin.s0 k (fun a0 a1 a2 a3 a4 => rec (n105_0 a0 a1 a2 a3 a4)) v.1 v.2.1 v.2.2.1 v.2.2.2.1 v.2.2.2.2 := by
  kernel_rfl
theorem q105_0 (k : Nat) (n : Nat) : ∀ v : (List Bool) × Int × Int × (List Int) × Int, loopF (E105 k) (S105 k) Try.f105 p105_0 [] n (n105_0 v.1 v.2.1 v.2.2.1 v.2.2.2.1 v.2.2.2.2) = spec_l09Begin.l0 k n v.1 v.2.1 v.2.2.1 v.2.2.2.1 v.2.2.2.2 :=
  loopF_eq (E105 k) (S105 k) Try.f105 p105_0 [] (fun v : (List Bool) × Int × Int × (List Int) × Int => n105_0 v.1 v.2.1 v.2.2.1 v.2.2.2.1 v.2.2.2.2) (fun rec v => spec_l09Begin.s0 k (fun a0 a1 a2 a3 a4 => rec (a0, a1, a2, a3, a4)) v.1 v.2.1 v.2.2.1 v.2.2.2.1 v.2.2.2.2) (fun n v => spec_l09Begin.l0 k n v.1 v.2.1 v.2.2.1 v.2.2.2.1 v.2.2.2.2) (fun _ => rfl) (fun _ _ => rfl) (fun rec v => r105_0 k rec v) n
theorem e105 (k : Nat) (x : dens (flatC (S105 k).ps)) : funK (E105 k) (S105 k) Try.f105 x = (S105 k).fn x := by
  have h : funK (E105 k) (S105 k) Try.f105 x = spec_l09Begin.g k (fun a0 a1 a2 a3 a4 => loopF (E105 k) (S105 k) Try.f105 p105_0 [] k (n105_0 a0 a1 a2 a3 a4)) x.1 x.2.1 x.2.2.1 x.2.2.2 := by kernel_rfl
  rw [h]
  rw [show (fun a0 a1 a2 a3 a4 => loopF (E105 k) (S105 k) Try.f105 p105_0 [] k (n105_0 a0 a1 a2 a3 a4)) = spec_l09Begin.l0 k k from funext fun a0 => funext fun a1 => funext fun a2 => funext fun a3 => funext fun a4 => q105_0 k k (a0, a1, a2, a3, a4)]
  rfl
theorem M105 (k : Nat) : Meets Try.prog 105 (S105 k) := meets_of Try.func105 (by kernel_rfl) tbOk (orc_cons (M208 k) orc_nil) mixOk (fun x y h => (e105 k x).trans h) rfl

/-! spec_FirstRoute: function 77 -/
noncomputable def spec_FirstRoute.s1 (k : Nat) (r0 : Int → Int → (List Int) → (List Bool) → Int → (List Int) → (List Int) → Option ((List Int) × Int)) (r1 : Int → Int → (List Int) → (List Bool) → (List Int) → (List Int) → (List Int) → Int → Int → Int → Option ((List Int) × Int)) (x2_0 : Int) (x2_1 : Int) (x3_0 : List Int) (x7 : List Bool) (x9 : List Int) (x10 : List Int) (x11 : List Int) (x12 : Int) (x13 : Int) (x14 : Int) : Option ((List Int) × Int) := if x13 < 0 then ((spec_l09Near.f x2_0 x2_1 x12 x14).bind fun t5 => if t5 = true then ((spec_l09Move.f k x3_0 x11 x14).bind fun t6 => if 0 ≤ t6 then (if 0 ≤ t6 then (if t6 < (x7.length : Int) then (if (rdOf false x7 t6) = true then (r1 x2_0 x2_1 x3_0 x7 x9 x10 x11 x12 t6 (wrap64 (x14 + 1))) else (r1 x2_0 x2_1 x3_0 x7 x9 x10 x11 x12 (-1) (wrap64 (x14 + 1)))) else (none)) else (none)) else (r1 x2_0 x2_1 x3_0 x7 x9 x10 x11 x12 t6 (wrap64 (x14 + 1)))) else (r1 x2_0 x2_1 x3_0 x7 x9 x10 x11 x12 x13 (wrap64 (x14 + 1)))) else (r0 x2_0 x2_1 x3_0 x7 x13 x9 x10)
noncomputable def spec_FirstRoute.l1 (k : Nat) (r0 : Int → Int → (List Int) → (List Bool) → Int → (List Int) → (List Int) → Option ((List Int) × Int)) : Nat → Int → Int → (List Int) → (List Bool) → (List Int) → (List Int) → (List Int) → Int → Int → Int → Option ((List Int) × Int)
  | 0, _, _, _, _, _, _, _, _, _, _ => none
  | n + 1, x0, x1, x2, x3, x4, x5, x6, x7, x8, x9 => spec_FirstRoute.s1 k r0 (spec_FirstRoute.l1 k r0 n) x0 x1 x2 x3 x4 x5 x6 x7 x8 x9
noncomputable def spec_FirstRoute.s0 (k : Nat) (r0 : Int → Int → (List Int) → (List Bool) → Int → (List Int) → (List Int) → Option ((List Int) × Int)) (r1 : Int → Int → (List Int) → (List Bool) → (List Int) → (List Int) → (List Int) → Int → Int → Int → Option ((List Int) × Int)) (x2_0 : Int) (x2_1 : Int) (x3_0 : List Int) (x7 : List Bool) (x8 : Int) (x9 : List Int) (x10 : List Int) : Option ((List Int) × Int) := if 0 ≤ x8 then (if x8 < (x9.length : Int) then (if (rd x9 x8) = 0 then ((spec_l09State.f k x3_0 x8).bind fun t4 => if x10.length + 1 ≤ 1099511627776 then (if 0 ≤ x8 then (if x8 < (x9.length : Int) then (r1 x2_0 x2_1 x3_0 x7 (x9.set x8.toNat ((x10 ++ [t4.2]).length : Int)) (x10 ++ [t4.2]) t4.1 t4.2 (-1) 0) else (none)) else (none)) else (none)) else (if 0 ≤ x8 then (if x8 < (x9.length : Int) then (if 0 ≤ (wrap64 ((rd x9 x8) - 1)) then (if (wrap64 ((rd x9 x8) - 1)) ≤ (x10.length : Int) then (if (x10.length : Int) ≤ (x10.length : Int) then ((spec_l01Own.f ((x10.take (x10.length : Int).toNat).drop (wrap64 ((rd x9 x8) - 1)).toNat)).bind fun t7 => if 120 < (t7.length : Int) then (some ([], 3)) else (some (t7, 0))) else (none)) else (none)) else (none)) else (none)) else (none))) else (none)) else (none)
noncomputable def spec_FirstRoute.l0 (k : Nat) : Nat → Int → Int → (List Int) → (List Bool) → Int → (List Int) → (List Int) → Option ((List Int) × Int)
  | 0, _, _, _, _, _, _, _ => none
  | n + 1, x0, x1, x2, x3, x4, x5, x6 => spec_FirstRoute.s0 k (spec_FirstRoute.l0 k n) (spec_FirstRoute.l1 k (spec_FirstRoute.l0 k n) k) x0 x1 x2 x3 x4 x5 x6
noncomputable def spec_FirstRoute.g (k : Nat) (r0 : Int → Int → (List Int) → (List Bool) → Int → (List Int) → (List Int) → Option ((List Int) × Int)) (a0_0 : Int) (a0_1 : Int) (l1_0 : List Int) : Option ((List Int) × Int) := (spec_l09Code.f k a0_0 a0_1 l1_0).bind fun t1 => if t1 = 0 then ((spec_l09Safe.f k a0_0 a0_1 l1_0).bind fun t2 => (spec_l09Begin.f k a0_0 a0_1 l1_0 t2).bind fun t3 => if t3 < 0 then (some ([], 4)) else (if 0 ≤ (t2.length : Int) then (if (t2.length : Int) ≤ (t2.length : Int) then (if (t2.length : Int).toNat ≤ 1099511627776 then (r0 a0_0 a0_1 l1_0 t2 t3 (List.replicate (t2.length : Int).toNat (0 : Int)) []) else (none)) else (none)) else (none))) else (some ([], t1))
noncomputable def spec_FirstRoute.f (k : Nat) (a0_0 : Int) (a0_1 : Int) (l1_0 : List Int) : Option ((List Int) × Int) := spec_FirstRoute.g k (spec_FirstRoute.l0 k k) a0_0 a0_1 l1_0
noncomputable def S77 (k : Nat) : Does := ⟨[(true, [.dat (.int .i64), .dat (.int .i64)]), (true, [.dat (.list (.int .i64))])], [(false, [.own 2 (.int .i64)]), (false, [.dat (.int .i64)])], fun x => spec_FirstRoute.f k x.1 x.2.1 x.2.2⟩
noncomputable def E77 (k : Nat) : En := ⟨tb, orcOf [(182, S182 k), (106, S106 k), (105, S105 k), (183, S183 k), (177, S177 k), (184, S184 k), (120, S120 k)], lvOf [(0, [(2, []), (3, []), (7, []), (8, []), (9, []), (10, [])]), (2, [(2, []), (3, []), (7, []), (9, []), (10, []), (11, []), (12, []), (13, []), (14, [])])], k, 0, lvOf [], []⟩
noncomputable def n77_0 (x2_0 : Int) (x2_1 : Int) (x3_0 : List Int) (x7 : List Bool) (x8 : Int) (x9 : List Int) (x10 : List Int) : St := ⟨89, lookA [(2, .box 0 0), (3, .box 1 0), (7, .own 2), (8, .dat (.int .i64) x8), (9, .own 3), (10, .own 4)], Go.V.look [(0, .cells [.dat (.int .i64) x2_0, .dat (.int .i64) x2_1]), (1, .cells [.dat (.list (.int .i64)) x3_0]), (2, .flat 4 .bool x7), (3, .flat 2 (.int .i64) x9), (4, .flat 2 (.int .i64) x10)]⟩
def p77_0 : List Bool := [true, true, true, true, true, true, false, false]
noncomputable def n77_1 (x2_0 : Int) (x2_1 : Int) (x3_0 : List Int) (x7 : List Bool) (x9 : List Int) (x10 : List Int) (x11 : List Int) (x12 : Int) (x13 : Int) (x14 : Int) : St := ⟨89, lookA [(2, .box 0 0), (3, .box 1 0), (7, .own 2), (9, .own 3), (10, .own 4), (11, .own 5), (12, .dat (.int .i64) x12), (13, .dat (.int .i64) x13), (14, .dat (.int .i64) x14)], Go.V.look [(0, .cells [.dat (.int .i64) x2_0, .dat (.int .i64) x2_1]), (1, .cells [.dat (.list (.int .i64)) x3_0]), (2, .flat 4 .bool x7), (3, .flat 2 (.int .i64) x9), (4, .flat 2 (.int .i64) x10), (5, .flat 2 (.int .i64) x11)]⟩
def p77_1 : List Bool := [true, true, true, true, true, true, false, false, false, true, false, true, true, true, true, false, true, false]
theorem r77_1 (k : Nat) (R0 : St → Option ((List Int) × Int)) (rec : St → Option ((List Int) × Int)) (v : Int × Int × (List Int) × (List Bool) × (List Int) × (List Int) × (List Int) × Int × Int × Int) : roundF (E77 k) (S77 k) Try.f77 p77_1 [R0] rec (n77_1 v.1 v.2.1 v.2.2.1 v.2.2.2.1 v.2.2.2.2.1 v.2.2.2.2.2.1 v.2.2.2.2.2.2.1 v.2.2.2.2.2.2.2.1 v.2.2.2.2.2.2.2.2.1 v.2.2.2.2.2.2.2.2.2) = spec_FirstRoute.s1 k (fun a0 a1 a2 a3 a4 a5 a6 => R0 (n77_0 a0 a1 a2 a3 a4 a5 a6)) (fun a0 a1 a2 a3 a4 a5 a6 a7 a8 a9 => rec (n77_1 a0 a1 a2 a3 a4 a5 a6 a7 a8 a9)) v.1 v.2.1 v.2.2.1 v.2.2.2.1 v.2.2.2.2.1 v.2.2.2.2.2.1 v.2.2.2.2.2.2.1 v.2.2.2.2.2.2.2.1 v.2.2.2.2.2.2.2.2.1 v.2.2.2.2.2.2.2.2.2 := by
  kernel_rfl
theorem q77_1 (k : Nat) (R0 : St → Option ((List Int) × Int)) (n : Nat) : ∀ v : Int × Int × (List Int) × (List Bool) × (List Int) × (List Int) × (List Int) × Int × Int × Int, loopF (E77 k) (S77 k) Try.f77 p77_1 [R0] n (n77_1 v.1 v.2.1 v.2.2.1 v.2.2.2.1 v.2.2.2.2.1 v.2.2.2.2.2.1 v.2.2.2.2.2.2.1 v.2.2.2.2.2.2.2.1 v.2.2.2.2.2.2.2.2.1 v.2.2.2.2.2.2.2.2.2) = spec_FirstRoute.l1 k (fun a0 a1 a2 a3 a4 a5 a6 => R0 (n77_0 a0 a1 a2 a3 a4 a5 a6)) n v.1 v.2.1 v.2.2.1 v.2.2.2.1 v.2.2.2.2.1 v.2.2.2.2.2.1 v.2.2.2.2.2.2.1 v.2.2.2.2.2.2.2.1 v.2.2.2.2.2.2.2.2.1 v.2.2.2.2.2.2.2.2.2 :=
  loopF_eq (E77 k) (S77 k) Try.f77 p77_1 [R0] (fun v : Int × Int × (List Int) × (List Bool) × (List Int) × (List Int) × (List Int) × Int × Int × Int => n77_1 v.1 v.2.1 v.2.2.1 v.2.2.2.1 v.2.2.2.2.1 v.2.2.2.2.2.1 v.2.2.2.2.2.2.1 v.2.2.2.2.2.2.2.1 v.2.2.2.2.2.2.2.2.1 v.2.2.2.2.2.2.2.2.2) (fun rec v => spec_FirstRoute.s1 k (fun a0 a1 a2 a3 a4 a5 a6 => R0 (n77_0 a0 a1 a2 a3 a4 a5 a6)) (fun a0 a1 a2 a3 a4 a5 a6 a7 a8 a9 => rec (a0, a1, a2, a3, a4, a5, a6, a7, a8, a9)) v.1 v.2.1 v.2.2.1 v.2.2.2.1 v.2.2.2.2.1 v.2.2.2.2.2.1 v.2.2.2.2.2.2.1 v.2.2.2.2.2.2.2.1 v.2.2.2.2.2.2.2.2.1 v.2.2.2.2.2.2.2.2.2) (fun n v => spec_FirstRoute.l1 k (fun a0 a1 a2 a3 a4 a5 a6 => R0 (n77_0 a0 a1 a2 a3 a4 a5 a6)) n v.1 v.2.1 v.2.2.1 v.2.2.2.1 v.2.2.2.2.1 v.2.2.2.2.2.1 v.2.2.2.2.2.2.1 v.2.2.2.2.2.2.2.1 v.2.2.2.2.2.2.2.2.1 v.2.2.2.2.2.2.2.2.2) (fun _ => rfl) (fun _ _ => rfl) (fun rec v => r77_1 k R0 rec v) n
theorem r77_0 (k : Nat) (rec : St → Option ((List Int) × Int)) (G1 : Int → Int → (List Int) → (List Bool) → (List Int) → (List Int) → (List Int) → Int → Int → Int → Option ((List Int) × Int)) (h1 : ∀ a0 a1 a2 a3 a4 a5 a6 a7 a8 a9, loopF (E77 k) (S77 k) Try.f77 p77_1 [rec] k (n77_1 a0 a1 a2 a3 a4 a5 a6 a7 a8 a9) = G1 a0 a1 a2 a3 a4 a5 a6 a7 a8 a9) (v : Int × Int × (List Int) × (List Bool) × Int × (List Int) × (List Int)) : roundF (E77 k) (S77 k) Try.f77 p77_0 [] rec (n77_0 v.1 v.2.1 v.2.2.1 v.2.2.2.1 v.2.2.2.2.1 v.2.2.2.2.2.1 v.2.2.2.2.2.2) = spec_FirstRoute.s0 k (fun a0 a1 a2 a3 a4 a5 a6 => rec (n77_0 a0 a1 a2 a3 a4 a5 a6)) G1 v.1 v.2.1 v.2.2.1 v.2.2.2.1 v.2.2.2.2.1 v.2.2.2.2.2.1 v.2.2.2.2.2.2 := by
  obtain rfl : (fun a0 a1 a2 a3 a4 a5 a6 a7 a8 a9 => loopF (E77 k) (S77 k) Try.f77 p77_1 [rec] k (n77_1 a0 a1 a2 a3 a4 a5 a6 a7 a8 a9)) = G1 := funext fun a0 => funext fun a1 => funext fun a2 => funext fun a3 => funext fun a4 => funext fun a5 => funext fun a6 => funext fun a7 => funext fun a8 => funext fun a9 => h1 a0 a1 a2 a3 a4 a5 a6 a7 a8 a9
  kernel_rfl
theorem q77_0 (k : Nat) (n : Nat) : ∀ v : Int × Int × (List Int) × (List Bool) × Int × (List Int) × (List Int), loopF (E77 k) (S77 k) Try.f77 p77_0 [] n (n77_0 v.1 v.2.1 v.2.2.1 v.2.2.2.1 v.2.2.2.2.1 v.2.2.2.2.2.1 v.2.2.2.2.2.2) = spec_FirstRoute.l0 k n v.1 v.2.1 v.2.2.1 v.2.2.2.1 v.2.2.2.2.1 v.2.2.2.2.2.1 v.2.2.2.2.2.2 :=
  loopF_eq (E77 k) (S77 k) Try.f77 p77_0 [] (fun v : Int × Int × (List Int) × (List Bool) × Int × (List Int) × (List Int) => n77_0 v.1 v.2.1 v.2.2.1 v.2.2.2.1 v.2.2.2.2.1 v.2.2.2.2.2.1 v.2.2.2.2.2.2) (fun rec v => spec_FirstRoute.s0 k (fun a0 a1 a2 a3 a4 a5 a6 => rec (a0, a1, a2, a3, a4, a5, a6)) (spec_FirstRoute.l1 k (fun a0 a1 a2 a3 a4 a5 a6 => rec (a0, a1, a2, a3, a4, a5, a6)) k) v.1 v.2.1 v.2.2.1 v.2.2.2.1 v.2.2.2.2.1 v.2.2.2.2.2.1 v.2.2.2.2.2.2) (fun n v => spec_FirstRoute.l0 k n v.1 v.2.1 v.2.2.1 v.2.2.2.1 v.2.2.2.2.1 v.2.2.2.2.2.1 v.2.2.2.2.2.2) (fun _ => rfl) (fun _ _ => rfl) (fun rec v => r77_0 k rec _ (fun a0 a1 a2 a3 a4 a5 a6 a7 a8 a9 => q77_1 k rec k (a0, a1, a2, a3, a4, a5, a6, a7, a8, a9)) v) n
theorem e77 (k : Nat) (x : dens (flatC (S77 k).ps)) : funK (E77 k) (S77 k) Try.f77 x = (S77 k).fn x := by
  have h : funK (E77 k) (S77 k) Try.f77 x = spec_FirstRoute.g k (fun a0 a1 a2 a3 a4 a5 a6 => loopF (E77 k) (S77 k) Try.f77 p77_0 [] k (n77_0 a0 a1 a2 a3 a4 a5 a6)) x.1 x.2.1 x.2.2 := by kernel_rfl
  rw [h]
  rw [show (fun a0 a1 a2 a3 a4 a5 a6 => loopF (E77 k) (S77 k) Try.f77 p77_0 [] k (n77_0 a0 a1 a2 a3 a4 a5 a6)) = spec_FirstRoute.l0 k k from funext fun a0 => funext fun a1 => funext fun a2 => funext fun a3 => funext fun a4 => funext fun a5 => funext fun a6 => q77_0 k k (a0, a1, a2, a3, a4, a5, a6)]
  rfl
theorem M77 (k : Nat) : Meets Try.prog 77 (S77 k) := meets_of Try.func77 (by kernel_rfl) tbOk (orc_cons (M182 k) (orc_cons (M106 k) (orc_cons (M105 k) (orc_cons (M183 k) (orc_cons (M177 k) (orc_cons (M184 k) (orc_cons (M120 k) orc_nil))))))) mixOk (fun x y h => (e77 k x).trans h) rfl

/-! impl_CanWatch: function 78 -/
noncomputable def impl_CanWatch.f (k : Nat) (a0_0 : Int) (a0_1 : Int) (l1_0 : List Int) : Option (Bool × Int) := (impl_watched.f k a0_0 a0_1 l1_0).bind fun t1 => if t1.2 = 0 then ((t1.1).bind fun u2 => (impl_watch_start.f k u2).bind fun t3 => some ((decide (0 ≤ t3)), 0)) else (some (false, t1.2))
noncomputable def S78 (k : Nat) : Does := ⟨[(true, [.dat (.int .i64), .dat (.int .i64)]), (true, [.dat (.list (.int .i64))])], [(false, [.dat .bool]), (false, [.dat (.int .i64)])], fun x => impl_CanWatch.f k x.1 x.2.1 x.2.2⟩
noncomputable def E78 (k : Nat) : En := ⟨tb, orcOf [(179, S179 k), (180, S180 k)], lvOf [], k, 0, lvOf [], []⟩
theorem e78 (k : Nat) (x : dens (flatC (S78 k).ps)) : funK (E78 k) (S78 k) Try.f78 x = (S78 k).fn x := by
  kernel_rfl
theorem M78 (k : Nat) : Meets Try.prog 78 (S78 k) := meets_of Try.func78 (by kernel_rfl) tbOk (orc_cons (M179 k) (orc_cons (M180 k) orc_nil)) mixOk (fun x y h => (e78 k x).trans h) rfl

/-! spec_CanWatch: function 79 -/
noncomputable def spec_CanWatch.f (k : Nat) (a0_0 : Int) (a0_1 : Int) (l1_0 : List Int) : Option (Bool × Int) := (spec_l09Code.f k a0_0 a0_1 l1_0).bind fun t1 => if t1 = 0 then ((spec_l09Safe.f k a0_0 a0_1 l1_0).bind fun t2 => (spec_l09Begin.f k a0_0 a0_1 l1_0 t2).bind fun t3 => some ((decide (0 ≤ t3)), 0)) else (some (false, t1))
noncomputable def S79 (k : Nat) : Does := ⟨[(true, [.dat (.int .i64), .dat (.int .i64)]), (true, [.dat (.list (.int .i64))])], [(false, [.dat .bool]), (false, [.dat (.int .i64)])], fun x => spec_CanWatch.f k x.1 x.2.1 x.2.2⟩
noncomputable def E79 (k : Nat) : En := ⟨tb, orcOf [(182, S182 k), (106, S106 k), (105, S105 k)], lvOf [], k, 0, lvOf [], []⟩
theorem e79 (k : Nat) (x : dens (flatC (S79 k).ps)) : funK (E79 k) (S79 k) Try.f79 x = (S79 k).fn x := by
  kernel_rfl
theorem M79 (k : Nat) : Meets Try.prog 79 (S79 k) := meets_of Try.func79 (by kernel_rfl) tbOk (orc_cons (M182 k) (orc_cons (M106 k) (orc_cons (M105 k) orc_nil))) mixOk (fun x y h => (e79 k x).trans h) rfl

/-! impl_CountSafe: function 80 -/
noncomputable def impl_CountSafe.s0 (k : Nat) (r0 : Int → (List Bool) → Int → Int → Option (Int × Int)) (x8 : Int) (x23 : List Bool) (x24 : Int) (x25 : Int) : Option (Int × Int) := if x25 < x24 then (if 0 ≤ x25 then (if x25 < (x23.length : Int) then (if (rdOf false x23 x25) = true then (r0 (wrap64 (x8 + 1)) x23 x24 (wrap64 (x25 + 1))) else (r0 x8 x23 x24 (wrap64 (x25 + 1)))) else (none)) else (none)) else (some (x8, 0))
noncomputable def impl_CountSafe.l0 (k : Nat) : Nat → Int → (List Bool) → Int → Int → Option (Int × Int)
  | 0, _, _, _, _ => none
  | n + 1, x0, x1, x2, x3 => impl_CountSafe.s0 k (impl_CountSafe.l0 k n) x0 x1 x2 x3
noncomputable def impl_CountSafe.g (k : Nat) (r0 : Int → (List Bool) → Int → Int → Option (Int × Int)) (a0_0 : Int) (a0_1 : Int) (l1_0 : List Int) : Option (Int × Int) := (impl_watched.f k a0_0 a0_1 l1_0).bind fun t1 => if t1.2 = 0 then ((t1.1).bind fun u2 => r0 0 u2.2.2.2 (u2.2.2.2.length : Int) 0) else (some (0, t1.2))
noncomputable def impl_CountSafe.f (k : Nat) (a0_0 : Int) (a0_1 : Int) (l1_0 : List Int) : Option (Int × Int) := impl_CountSafe.g k (impl_CountSafe.l0 k k) a0_0 a0_1 l1_0
noncomputable def S80 (k : Nat) : Does := ⟨[(true, [.dat (.int .i64), .dat (.int .i64)]), (true, [.dat (.list (.int .i64))])], [(false, [.dat (.int .i64)]), (false, [.dat (.int .i64)])], fun x => impl_CountSafe.f k x.1 x.2.1 x.2.2⟩
noncomputable def E80 (k : Nat) : En := ⟨tb, orcOf [(179, S179 k)], lvOf [(0, [(8, []), (23, []), (24, []), (25, [])])], k, 0, lvOf [], []⟩
noncomputable def n80_0 (x8 : Int) (x23 : List Bool) (x24 : Int) (x25 : Int) : St := ⟨34, lookA [(8, .dat (.int .i64) x8), (23, .dat (.list .bool) x23), (24, .dat (.int .i64) x24), (25, .dat (.int .i64) x25)], Go.V.look []⟩
def p80_0 : List Bool := [true, true, true, true, false, true, false]
theorem r80_0 (k : Nat) (rec : St → Option (Int × Int)) (v : Int × (List Bool) × Int × Int) : roundF (E80 k) (S80 k) Try.f80 p80_0 [] rec (n80_0 v.1 v.2.1 v.2.2.1 v.2.2.2) = impl_CountSafe.s0 k (fun a0 a1 a2 a3 => rec (n80_0 a0 a1 a2 a3)) v.1 v.2.1 v.2.2.1 v.2.2.2 := by
  kernel_rfl
theorem q80_0 (k : Nat) (n : Nat) : ∀ v : Int × (List Bool) × Int × Int, loopF (E80 k) (S80 k) Try.f80 p80_0 [] n (n80_0 v.1 v.2.1 v.2.2.1 v.2.2.2) = impl_CountSafe.l0 k n v.1 v.2.1 v.2.2.1 v.2.2.2 :=
  loopF_eq (E80 k) (S80 k) Try.f80 p80_0 [] (fun v : Int × (List Bool) × Int × Int => n80_0 v.1 v.2.1 v.2.2.1 v.2.2.2) (fun rec v => impl_CountSafe.s0 k (fun a0 a1 a2 a3 => rec (a0, a1, a2, a3)) v.1 v.2.1 v.2.2.1 v.2.2.2) (fun n v => impl_CountSafe.l0 k n v.1 v.2.1 v.2.2.1 v.2.2.2) (fun _ => rfl) (fun _ _ => rfl) (fun rec v => r80_0 k rec v) n
theorem e80 (k : Nat) (x : dens (flatC (S80 k).ps)) : funK (E80 k) (S80 k) Try.f80 x = (S80 k).fn x := by
  have h : funK (E80 k) (S80 k) Try.f80 x = impl_CountSafe.g k (fun a0 a1 a2 a3 => loopF (E80 k) (S80 k) Try.f80 p80_0 [] k (n80_0 a0 a1 a2 a3)) x.1 x.2.1 x.2.2 := by kernel_rfl
  rw [h]
  rw [show (fun a0 a1 a2 a3 => loopF (E80 k) (S80 k) Try.f80 p80_0 [] k (n80_0 a0 a1 a2 a3)) = impl_CountSafe.l0 k k from funext fun a0 => funext fun a1 => funext fun a2 => funext fun a3 => q80_0 k k (a0, a1, a2, a3)]
  rfl
theorem M80 (k : Nat) : Meets Try.prog 80 (S80 k) := meets_of Try.func80 (by kernel_rfl) tbOk (orc_cons (M179 k) orc_nil) mixOk (fun x y h => (e80 k x).trans h) rfl

/-! spec_CountSafe: function 81 -/
noncomputable def spec_CountSafe.s0 (k : Nat) (r0 : (List Bool) → Int → Int → Int → Option (Int × Int)) (x7 : List Bool) (x8 : Int) (x20 : Int) (x21 : Int) : Option (Int × Int) := if x21 < x20 then (if 0 ≤ x21 then (if x21 < (x7.length : Int) then (if (rdOf false x7 x21) = true then (r0 x7 (wrap64 (x8 + 1)) x20 (wrap64 (x21 + 1))) else (r0 x7 x8 x20 (wrap64 (x21 + 1)))) else (none)) else (none)) else (some (x8, 0))
noncomputable def spec_CountSafe.l0 (k : Nat) : Nat → (List Bool) → Int → Int → Int → Option (Int × Int)
  | 0, _, _, _, _ => none
  | n + 1, x0, x1, x2, x3 => spec_CountSafe.s0 k (spec_CountSafe.l0 k n) x0 x1 x2 x3
noncomputable def spec_CountSafe.g (k : Nat) (r0 : (List Bool) → Int → Int → Int → Option (Int × Int)) (a0_0 : Int) (a0_1 : Int) (l1_0 : List Int) : Option (Int × Int) := (spec_l09Code.f k a0_0 a0_1 l1_0).bind fun t1 => if t1 = 0 then ((spec_l09Safe.f k a0_0 a0_1 l1_0).bind fun t2 => r0 t2 0 (t2.length : Int) 0) else (some (0, t1))
noncomputable def spec_CountSafe.f (k : Nat) (a0_0 : Int) (a0_1 : Int) (l1_0 : List Int) : Option (Int × Int) := spec_CountSafe.g k (spec_CountSafe.l0 k k) a0_0 a0_1 l1_0
noncomputable def S81 (k : Nat) : Does := ⟨[(true, [.dat (.int .i64), .dat (.int .i64)]), (true, [.dat (.list (.int .i64))])], [(false, [.dat (.int .i64)]), (false, [.dat (.int .i64)])], fun x => spec_CountSafe.f k x.1 x.2.1 x.2.2⟩
noncomputable def E81 (k : Nat) : En := ⟨tb, orcOf [(182, S182 k), (106, S106 k)], lvOf [(0, [(7, []), (8, []), (20, []), (21, [])])], k, 0, lvOf [], []⟩
noncomputable def n81_0 (x7 : List Bool) (x8 : Int) (x20 : Int) (x21 : Int) : St := ⟨32, lookA [(7, .own 0), (8, .dat (.int .i64) x8), (20, .dat (.int .i64) x20), (21, .dat (.int .i64) x21)], Go.V.look [(0, .flat 4 .bool x7)]⟩
def p81_0 : List Bool := [true, true, true, false, true, false]
theorem r81_0 (k : Nat) (rec : St → Option (Int × Int)) (v : (List Bool) × Int × Int × Int) : roundF (E81 k) (S81 k) Try.f81 p81_0 [] rec (n81_0 v.1 v.2.1 v.2.2.1 v.2.2.2) = spec_CountSafe.s0 k (fun a0 a1 a2 a3 => rec (n81_0 a0 a1 a2 a3)) v.1 v.2.1 v.2.2.1 v.2.2.2 := by
  kernel_rfl
theorem q81_0 (k : Nat) (n : Nat) : ∀ v : (List Bool) × Int × Int × Int, loopF (E81 k) (S81 k) Try.f81 p81_0 [] n (n81_0 v.1 v.2.1 v.2.2.1 v.2.2.2) = spec_CountSafe.l0 k n v.1 v.2.1 v.2.2.1 v.2.2.2 :=
  loopF_eq (E81 k) (S81 k) Try.f81 p81_0 [] (fun v : (List Bool) × Int × Int × Int => n81_0 v.1 v.2.1 v.2.2.1 v.2.2.2) (fun rec v => spec_CountSafe.s0 k (fun a0 a1 a2 a3 => rec (a0, a1, a2, a3)) v.1 v.2.1 v.2.2.1 v.2.2.2) (fun n v => spec_CountSafe.l0 k n v.1 v.2.1 v.2.2.1 v.2.2.2) (fun _ => rfl) (fun _ _ => rfl) (fun rec v => r81_0 k rec v) n
theorem e81 (k : Nat) (x : dens (flatC (S81 k).ps)) : funK (E81 k) (S81 k) Try.f81 x = (S81 k).fn x := by
  have h : funK (E81 k) (S81 k) Try.f81 x = spec_CountSafe.g k (fun a0 a1 a2 a3 => loopF (E81 k) (S81 k) Try.f81 p81_0 [] k (n81_0 a0 a1 a2 a3)) x.1 x.2.1 x.2.2 := by kernel_rfl
  rw [h]
  rw [show (fun a0 a1 a2 a3 => loopF (E81 k) (S81 k) Try.f81 p81_0 [] k (n81_0 a0 a1 a2 a3)) = spec_CountSafe.l0 k k from funext fun a0 => funext fun a1 => funext fun a2 => funext fun a3 => q81_0 k k (a0, a1, a2, a3)]
  rfl
theorem M81 (k : Nat) : Meets Try.prog 81 (S81 k) := meets_of Try.func81 (by kernel_rfl) tbOk (orc_cons (M182 k) (orc_cons (M106 k) orc_nil)) mixOk (fun x y h => (e81 k x).trans h) rfl

/-! laws_likeInts: function 32 -/
noncomputable def laws_likeInts.s0 (k : Nat) (r0 : (List Int) → (List Int) → Int → Option (Bool)) (x0 : List Int) (x1 : List Int) (x5 : Int) : Option (Bool) := if x5 < (x0.length : Int) then (if 0 ≤ x5 then (if x5 < (x0.length : Int) then (if 0 ≤ x5 then (if x5 < (x1.length : Int) then (if (rd x0 x5) = (rd x1 x5) then (r0 x0 x1 (wrap64 (x5 + 1))) else (some false)) else (none)) else (none)) else (none)) else (none)) else (some true)
noncomputable def laws_likeInts.l0 (k : Nat) : Nat → (List Int) → (List Int) → Int → Option (Bool)
  | 0, _, _, _ => none
  | n + 1, x0, x1, x2 => laws_likeInts.s0 k (laws_likeInts.l0 k n) x0 x1 x2
noncomputable def laws_likeInts.g (k : Nat) (r0 : (List Int) → (List Int) → Int → Option (Bool)) (l0 : List Int) (l1 : List Int) : Option (Bool) := if (l0.length : Int) = (l1.length : Int) then (r0 l0 l1 0) else (some false)
noncomputable def laws_likeInts.f (k : Nat) (l0 : List Int) (l1 : List Int) : Option (Bool) := laws_likeInts.g k (laws_likeInts.l0 k k) l0 l1
noncomputable def S32 (k : Nat) : Does := ⟨[(false, [.dat (.list (.int .i64))]), (false, [.dat (.list (.int .i64))])], [(false, [.dat .bool])], fun x => laws_likeInts.f k x.1 x.2⟩
noncomputable def E32 (k : Nat) : En := ⟨tb, orcOf [], lvOf [(0, [(0, []), (1, []), (5, [])])], k, 0, lvOf [], []⟩
noncomputable def n32_0 (x0 : List Int) (x1 : List Int) (x5 : Int) : St := ⟨26, lookA [(0, .dat (.list (.int .i64)) x0), (1, .dat (.list (.int .i64)) x1), (5, .dat (.int .i64) x5)], Go.V.look []⟩
def p32_0 : List Bool := [true, true, false, true, false]
theorem r32_0 (k : Nat) (rec : St → Option (Bool)) (v : (List Int) × (List Int) × Int) : roundF (E32 k) (S32 k) Try.f32 p32_0 [] rec (n32_0 v.1 v.2.1 v.2.2) = laws_likeInts.s0 k (fun a0 a1 a2 => rec (n32_0 a0 a1 a2)) v.1 v.2.1 v.2.2 := by
  kernel_rfl
theorem q32_0 (k : Nat) (n : Nat) : ∀ v : (List Int) × (List Int) × Int, loopF (E32 k) (S32 k) Try.f32 p32_0 [] n (n32_0 v.1 v.2.1 v.2.2) = laws_likeInts.l0 k n v.1 v.2.1 v.2.2 :=
  loopF_eq (E32 k) (S32 k) Try.f32 p32_0 [] (fun v : (List Int) × (List Int) × Int => n32_0 v.1 v.2.1 v.2.2) (fun rec v => laws_likeInts.s0 k (fun a0 a1 a2 => rec (a0, a1, a2)) v.1 v.2.1 v.2.2) (fun n v => laws_likeInts.l0 k n v.1 v.2.1 v.2.2) (fun _ => rfl) (fun _ _ => rfl) (fun rec v => r32_0 k rec v) n
theorem e32 (k : Nat) (x : dens (flatC (S32 k).ps)) : funK (E32 k) (S32 k) Try.f32 x = (S32 k).fn x := by
  have h : funK (E32 k) (S32 k) Try.f32 x = laws_likeInts.g k (fun a0 a1 a2 => loopF (E32 k) (S32 k) Try.f32 p32_0 [] k (n32_0 a0 a1 a2)) x.1 x.2 := by kernel_rfl
  rw [h]
  rw [show (fun a0 a1 a2 => loopF (E32 k) (S32 k) Try.f32 p32_0 [] k (n32_0 a0 a1 a2)) = laws_likeInts.l0 k k from funext fun a0 => funext fun a1 => funext fun a2 => q32_0 k k (a0, a1, a2)]
  rfl
theorem M32 (k : Nat) : Meets Try.prog 32 (S32 k) := meets_of Try.func32 (by kernel_rfl) tbOk orc_nil mixOk (fun x y h => (e32 k x).trans h) rfl

/-! impl_areTurns_1: function 221 -/
noncomputable def impl_areTurns_1.f (a0 : Int) (a1 : Int) : Option (Bool) := (impl_within.f a0 (-1) (wrap64 (a1 - 1))).bind fun t1 => some t1
noncomputable def S221 (k : Nat) : Does := ⟨[(false, [.dat (.int .i64)]), (false, [.dat (.ptr (.int .i64))])], [(false, [.dat .bool])], fun x => impl_areTurns_1.f x.1 x.2⟩
noncomputable def E221 (k : Nat) : En := ⟨tb, orcOf [(108, S108 k)], lvOf [], k, 0, lvOf [], []⟩
theorem e221 (k : Nat) (x : dens (flatC (S221 k).ps)) : funK (E221 k) (S221 k) Try.f221 x = (S221 k).fn x := by
  kernel_rfl
theorem M221 (k : Nat) : Meets Try.prog 221 (S221 k) := meets_of Try.func221 (by kernel_rfl) tbOk (orc_cons (M108 k) orc_nil) mixOk (fun x y h => (e221 k x).trans h) rfl

/-! impl_areAll_int64_1_impl_areTurns_1: function 217 -/
noncomputable def impl_areAll_int64_1_impl_areTurns_1.f (a0 : Int) (a1 : Int) : Option (Bool) := (impl_areTurns_1.f a0 a1).bind fun t1 => some (!decide (t1 = true))
noncomputable def S217_c221 (k : Nat) : Does := ⟨[(false, [.dat (.int .i64)]), (false, [.dat (.ptr (.clo 221 (.ptr (.int .i64))))])], [(false, [.dat .bool])], fun x => impl_areAll_int64_1_impl_areTurns_1.f x.1 x.2⟩
noncomputable def E217_c221 (k : Nat) : En := ⟨tb, orcOf [(221, S221 k)], lvOf [], k, 0, lvOf [], []⟩
theorem e217_c221 (k : Nat) (x : dens (flatC (S217_c221 k).ps)) : funK (E217_c221 k) (S217_c221 k) Try.f217 x = (S217_c221 k).fn x := by
  kernel_rfl
theorem M217_c221 (k : Nat) : Meets Try.prog 217 (S217_c221 k) := meets_of Try.func217 (by kernel_rfl) tbOk (orc_cons (M221 k) orc_nil) mixOk (fun x y h => (e217_c221 k x).trans h) rfl

/-! slices_IndexFunc_int64_int64_impl_areAll_int64_1_impl_areTurns_1: function 236 -/
noncomputable def slices_IndexFunc_int64_int64_impl_areAll_int64_1_impl_areTurns_1.s0 (k : Nat) (r0 : (List Int) → Int → Int → Int → Option (Int)) (x0 : List Int) (x1 : Int) (x7 : Int) (x8 : Int) : Option (Int) := if x8 < x7 then (if 0 ≤ x8 then (if x8 < (x0.length : Int) then ((impl_areAll_int64_1_impl_areTurns_1.f (rd x0 x8) x1).bind fun t1 => if t1 = true then (some x8) else (r0 x0 x1 x7 (wrap64 (x8 + 1)))) else (none)) else (none)) else (some (-1))
noncomputable def slices_IndexFunc_int64_int64_impl_areAll_int64_1_impl_areTurns_1.l0 (k : Nat) : Nat → (List Int) → Int → Int → Int → Option (Int)
  | 0, _, _, _, _ => none
  | n + 1, x0, x1, x2, x3 => slices_IndexFunc_int64_int64_impl_areAll_int64_1_impl_areTurns_1.s0 k (slices_IndexFunc_int64_int64_impl_areAll_int64_1_impl_areTurns_1.l0 k n) x0 x1 x2 x3
noncomputable def slices_IndexFunc_int64_int64_impl_areAll_int64_1_impl_areTurns_1.g (k : Nat) (r0 : (List Int) → Int → Int → Int → Option (Int)) (l0 : List Int) (a1 : Int) : Option (Int) := r0 l0 a1 (l0.length : Int) 0
noncomputable def slices_IndexFunc_int64_int64_impl_areAll_int64_1_impl_areTurns_1.f (k : Nat) (l0 : List Int) (a1 : Int) : Option (Int) := slices_IndexFunc_int64_int64_impl_areAll_int64_1_impl_areTurns_1.g k (slices_IndexFunc_int64_int64_impl_areAll_int64_1_impl_areTurns_1.l0 k k) l0 a1
noncomputable def S236_c217c221 (k : Nat) : Does := ⟨[(false, [.dat (.list (.int .i64))]), (false, [.dat (.clo 217 (.ptr (.clo 221 (.ptr (.int .i64)))))])], [(false, [.dat (.int .i64)])], fun x => slices_IndexFunc_int64_int64_impl_areAll_int64_1_impl_areTurns_1.f k x.1 x.2⟩
noncomputable def E236_c217c221 (k : Nat) : En := ⟨tb, orcOf [(217, S217_c221 k)], lvOf [(0, [(0, []), (1, []), (7, []), (8, [])])], k, 0, lvOf [], []⟩
noncomputable def n236_c217c221_0 (x0 : List Int) (x1 : Int) (x7 : Int) (x8 : Int) : St := ⟨19, lookA [(0, .dat (.list (.int .i64)) x0), (1, .dat (.clo 217 (.ptr (.clo 221 (.ptr (.int .i64))))) x1), (7, .dat (.int .i64) x7), (8, .dat (.int .i64) x8)], Go.V.look []⟩
def p236_c217c221_0 : List Bool := [true, false, true, false]
theorem r236_c217c221_0 (k : Nat) (rec : St → Option (Int)) (v : (List Int) × Int × Int × Int) : roundF (E236_c217c221 k) (S236_c217c221 k) Try.f236 p236_c217c221_0 [] rec (n236_c217c221_0 v.1 v.2.1 v.2.2.1 v.2.2.2) = slices_IndexFunc_int64_int64_impl_areAll_int64_1_impl_areTurns_1.s0 k (fun a0 a1 a2 a3 => rec (n236_c217c221_0 a0 a1 a2 a3)) v.1 v.2.1 v.2.2.1 v.2.2.2 := by
  kernel_rfl
theorem q236_c217c221_0 (k : Nat) (n : Nat) : ∀ v : (List Int) × Int × Int × Int, loopF (E236_c217c221 k) (S236_c217c221 k) Try.f236 p236_c217c221_0 [] n (n236_c217c221_0 v.1 v.2.1 v.2.2.1 v.2.2.2) = slices_IndexFunc_int64_int64_impl_areAll_int64_1_impl_areTurns_1.l0 k n v.1 v.2.1 v.2.2.1 v.2.2.2 :=
  loopF_eq (E236_c217c221 k) (S236_c217c221 k) Try.f236 p236_c217c221_0 [] (fun v : (List Int) × Int × Int × Int => n236_c217c221_0 v.1 v.2.1 v.2.2.1 v.2.2.2) (fun rec v => slices_IndexFunc_int64_int64_impl_areAll_int64_1_impl_areTurns_1.s0 k (fun a0 a1 a2 a3 => rec (a0, a1, a2, a3)) v.1 v.2.1 v.2.2.1 v.2.2.2) (fun n v => slices_IndexFunc_int64_int64_impl_areAll_int64_1_impl_areTurns_1.l0 k n v.1 v.2.1 v.2.2.1 v.2.2.2) (fun _ => rfl) (fun _ _ => rfl) (fun rec v => r236_c217c221_0 k rec v) n
theorem e236_c217c221 (k : Nat) (x : dens (flatC (S236_c217c221 k).ps)) : funK (E236_c217c221 k) (S236_c217c221 k) Try.f236 x = (S236_c217c221 k).fn x := by
  have h : funK (E236_c217c221 k) (S236_c217c221 k) Try.f236 x = slices_IndexFunc_int64_int64_impl_areAll_int64_1_impl_areTurns_1.g k (fun a0 a1 a2 a3 => loopF (E236_c217c221 k) (S236_c217c221 k) Try.f236 p236_c217c221_0 [] k (n236_c217c221_0 a0 a1 a2 a3)) x.1 x.2 := by kernel_rfl
  rw [h]
  rw [show (fun a0 a1 a2 a3 => loopF (E236_c217c221 k) (S236_c217c221 k) Try.f236 p236_c217c221_0 [] k (n236_c217c221_0 a0 a1 a2 a3)) = slices_IndexFunc_int64_int64_impl_areAll_int64_1_impl_areTurns_1.l0 k k from funext fun a0 => funext fun a1 => funext fun a2 => funext fun a3 => q236_c217c221_0 k k (a0, a1, a2, a3)]
  rfl
theorem M236_c217c221 (k : Nat) : Meets Try.prog 236 (S236_c217c221 k) := meets_of Try.func236 (by kernel_rfl) tbOk (orc_cons (M217_c221 k) orc_nil) mixOk (fun x y h => (e236_c217c221 k x).trans h) rfl

/-! slices_ContainsFunc_int64_int64_impl_areAll_int64_1_impl_areTurns_1: function 216 -/
noncomputable def slices_ContainsFunc_int64_int64_impl_areAll_int64_1_impl_areTurns_1.f (k : Nat) (l0 : List Int) (a1 : Int) : Option (Bool) := (slices_IndexFunc_int64_int64_impl_areAll_int64_1_impl_areTurns_1.f k l0 a1).bind fun t1 => some (decide (0 ≤ t1))
noncomputable def S216_c217c221 (k : Nat) : Does := ⟨[(false, [.dat (.list (.int .i64))]), (false, [.dat (.clo 217 (.ptr (.clo 221 (.ptr (.int .i64)))))])], [(false, [.dat .bool])], fun x => slices_ContainsFunc_int64_int64_impl_areAll_int64_1_impl_areTurns_1.f k x.1 x.2⟩
noncomputable def E216_c217c221 (k : Nat) : En := ⟨tb, orcOf [(236, S236_c217c221 k)], lvOf [], k, 0, lvOf [], []⟩
theorem e216_c217c221 (k : Nat) (x : dens (flatC (S216_c217c221 k).ps)) : funK (E216_c217c221 k) (S216_c217c221 k) Try.f216 x = (S216_c217c221 k).fn x := by
  kernel_rfl
theorem M216_c217c221 (k : Nat) : Meets Try.prog 216 (S216_c217c221 k) := meets_of Try.func216 (by kernel_rfl) tbOk (orc_cons (M236_c217c221 k) orc_nil) mixOk (fun x y h => (e216_c217c221 k x).trans h) rfl

/-! impl_areAll_int64_impl_areTurns_1: function 148 -/
noncomputable def impl_areAll_int64_impl_areTurns_1.f (k : Nat) (l0 : List Int) (a1 : Int) : Option (Bool) := (slices_ContainsFunc_int64_int64_impl_areAll_int64_1_impl_areTurns_1.f k l0 a1).bind fun t1 => some (!decide (t1 = true))
noncomputable def S148_c221 (k : Nat) : Does := ⟨[(false, [.dat (.list (.int .i64))]), (false, [.dat (.clo 221 (.ptr (.int .i64)))])], [(false, [.dat .bool])], fun x => impl_areAll_int64_impl_areTurns_1.f k x.1 x.2⟩
noncomputable def E148_c221 (k : Nat) : En := ⟨tb, orcOf [(216, S216_c217c221 k)], lvOf [], k, 0, lvOf [], []⟩
theorem e148_c221 (k : Nat) (x : dens (flatC (S148_c221 k).ps)) : funK (E148_c221 k) (S148_c221 k) Try.f148 x = (S148_c221 k).fn x := by
  kernel_rfl
theorem M148_c221 (k : Nat) : Meets Try.prog 148 (S148_c221 k) := meets_of Try.func148 (by kernel_rfl) tbOk (orc_cons (M216_c217c221 k) orc_nil) mixOk (fun x y h => (e148_c221 k x).trans h) rfl

/-! impl_areTurns: function 186 -/
noncomputable def impl_areTurns.f (k : Nat) (l0 : List Int) (a1 : Int) : Option (Bool) := (impl_length_int64.f l0).bind fun t1 => (impl_within.f t1 1 120).bind fun t2 => if t2 = true then ((impl_areAll_int64_impl_areTurns_1.f k l0 a1).bind fun t3 => some t3) else (some false)
noncomputable def S186 (k : Nat) : Does := ⟨[(false, [.dat (.list (.int .i64))]), (false, [.dat (.int .i64)])], [(false, [.dat .bool])], fun x => impl_areTurns.f k x.1 x.2⟩
noncomputable def E186 (k : Nat) : En := ⟨tb, orcOf [(149, S149 k), (108, S108 k), (148, S148_c221 k)], lvOf [], k, 0, lvOf [], []⟩
theorem e186 (k : Nat) (x : dens (flatC (S186 k).ps)) : funK (E186 k) (S186 k) Try.f186 x = (S186 k).fn x := by
  kernel_rfl
theorem M186 (k : Nat) : Meets Try.prog 186 (S186 k) := meets_of Try.func186 (by kernel_rfl) tbOk (orc_cons (M149 k) (orc_cons (M108 k) (orc_cons (M148_c221 k) orc_nil))) mixOk (fun x y h => (e186 k x).trans h) rfl

/-! slices_Index_int64_int64: function 153 -/
noncomputable def slices_Index_int64_int64.s0 (k : Nat) (r0 : (List Int) → Int → Int → Int → Option (Int)) (x0 : List Int) (x1 : Int) (x7 : Int) (x8 : Int) : Option (Int) := if x8 < x7 then (if 0 ≤ x8 then (if x8 < (x0.length : Int) then (if x1 = (rd x0 x8) then (some x8) else (r0 x0 x1 x7 (wrap64 (x8 + 1)))) else (none)) else (none)) else (some (-1))
noncomputable def slices_Index_int64_int64.l0 (k : Nat) : Nat → (List Int) → Int → Int → Int → Option (Int)
  | 0, _, _, _, _ => none
  | n + 1, x0, x1, x2, x3 => slices_Index_int64_int64.s0 k (slices_Index_int64_int64.l0 k n) x0 x1 x2 x3
noncomputable def slices_Index_int64_int64.g (k : Nat) (r0 : (List Int) → Int → Int → Int → Option (Int)) (l0 : List Int) (a1 : Int) : Option (Int) := r0 l0 a1 (l0.length : Int) 0
noncomputable def slices_Index_int64_int64.f (k : Nat) (l0 : List Int) (a1 : Int) : Option (Int) := slices_Index_int64_int64.g k (slices_Index_int64_int64.l0 k k) l0 a1
noncomputable def S153 (k : Nat) : Does := ⟨[(false, [.dat (.list (.int .i64))]), (false, [.dat (.int .i64)])], [(false, [.dat (.int .i64)])], fun x => slices_Index_int64_int64.f k x.1 x.2⟩
noncomputable def E153 (k : Nat) : En := ⟨tb, orcOf [], lvOf [(0, [(0, []), (1, []), (7, []), (8, [])])], k, 0, lvOf [], []⟩
noncomputable def n153_0 (x0 : List Int) (x1 : Int) (x7 : Int) (x8 : Int) : St := ⟨19, lookA [(0, .dat (.list (.int .i64)) x0), (1, .dat (.int .i64) x1), (7, .dat (.int .i64) x7), (8, .dat (.int .i64) x8)], Go.V.look []⟩
def p153_0 : List Bool := [true, false, true, false]
theorem r153_0 (k : Nat) (rec : St → Option (Int)) (v : (List Int) × Int × Int × Int) : roundF (E153 k) (S153 k) Try.f153 p153_0 [] rec (n153_0 v.1 v.2.1 v.2.2.1 v.2.2.2) = slices_Index_int64_int64.s0 k (fun a0 a1 a2 a3 => rec (n153_0 a0 a1 a2 a3)) v.1 v.2.1 v.2.2.1 v.2.2.2 := by
  kernel_rfl
theorem q153_0 (k : Nat) (n : Nat) : ∀ v : (List Int) × Int × Int × Int, loopF (E153 k) (S153 k) Try.f153 p153_0 [] n (n153_0 v.1 v.2.1 v.2.2.1 v.2.2.2) = slices_Index_int64_int64.l0 k n v.1 v.2.1 v.2.2.1 v.2.2.2 :=
  loopF_eq (E153 k) (S153 k) Try.f153 p153_0 [] (fun v : (List Int) × Int × Int × Int => n153_0 v.1 v.2.1 v.2.2.1 v.2.2.2) (fun rec v => slices_Index_int64_int64.s0 k (fun a0 a1 a2 a3 => rec (a0, a1, a2, a3)) v.1 v.2.1 v.2.2.1 v.2.2.2) (fun n v => slices_Index_int64_int64.l0 k n v.1 v.2.1 v.2.2.1 v.2.2.2) (fun _ => rfl) (fun _ _ => rfl) (fun rec v => r153_0 k rec v) n
theorem e153 (k : Nat) (x : dens (flatC (S153 k).ps)) : funK (E153 k) (S153 k) Try.f153 x = (S153 k).fn x := by
  have h : funK (E153 k) (S153 k) Try.f153 x = slices_Index_int64_int64.g k (fun a0 a1 a2 a3 => loopF (E153 k) (S153 k) Try.f153 p153_0 [] k (n153_0 a0 a1 a2 a3)) x.1 x.2 := by kernel_rfl
  rw [h]
  rw [show (fun a0 a1 a2 a3 => loopF (E153 k) (S153 k) Try.f153 p153_0 [] k (n153_0 a0 a1 a2 a3)) = slices_Index_int64_int64.l0 k k from funext fun a0 => funext fun a1 => funext fun a2 => funext fun a3 => q153_0 k k (a0, a1, a2, a3)]
  rfl
theorem M153 (k : Nat) : Meets Try.prog 153 (S153 k) := meets_of Try.func153 (by kernel_rfl) tbOk orc_nil mixOk (fun x y h => (e153 k x).trans h) rfl

/-! slices_Contains_int64_int64: function 167 -/
noncomputable def slices_Contains_int64_int64.f (k : Nat) (l0 : List Int) (a1 : Int) : Option (Bool) := (slices_Index_int64_int64.f k l0 a1).bind fun t1 => some (decide (0 ≤ t1))
noncomputable def S167 (k : Nat) : Does := ⟨[(false, [.dat (.list (.int .i64))]), (false, [.dat (.int .i64)])], [(false, [.dat .bool])], fun x => slices_Contains_int64_int64.f k x.1 x.2⟩
noncomputable def E167 (k : Nat) : En := ⟨tb, orcOf [(153, S153 k)], lvOf [], k, 0, lvOf [], []⟩
theorem e167 (k : Nat) (x : dens (flatC (S167 k).ps)) : funK (E167 k) (S167 k) Try.f167 x = (S167 k).fn x := by
  kernel_rfl
theorem M167 (k : Nat) : Meets Try.prog 167 (S167 k) := meets_of Try.func167 (by kernel_rfl) tbOk (orc_cons (M153 k) orc_nil) mixOk (fun x y h => (e167 k x).trans h) rfl

/-! impl_Ground_isRoute: function 187 -/
noncomputable def impl_Ground_isRoute.s0 (k : Nat) (r0 : (List Int) → Int → Int → (List Int) → Int → Int → Option (Bool)) (x1 : List Int) (x2_0 : Int) (x2_1 : Int) (x9 : List Int) (x10 : Int) (x11 : Int) : Option (Bool) := if x11 < x10 then (if 0 ≤ x11 then (if x11 < (x9.length : Int) then (if (x1.length : Int) = 0 then (none) else (if 0 ≤ (Int.tmod (wrap64 (x11 + 1)) (x1.length : Int)) then (if (Int.tmod (wrap64 (x11 + 1)) (x1.length : Int)) < (x1.length : Int) then ((impl_Ground_isNear.f x2_0 x2_1 (rd x9 x11) (rd x1 (Int.tmod (wrap64 (x11 + 1)) (x1.length : Int)))).bind fun t2 => if t2 = true then (r0 x1 x2_0 x2_1 x9 x10 (wrap64 (x11 + 1))) else (some false)) else (none)) else (none))) else (none)) else (none)) else (some true)
noncomputable def impl_Ground_isRoute.l0 (k : Nat) : Nat → (List Int) → Int → Int → (List Int) → Int → Int → Option (Bool)
  | 0, _, _, _, _, _, _ => none
  | n + 1, x0, x1, x2, x3, x4, x5 => impl_Ground_isRoute.s0 k (impl_Ground_isRoute.l0 k n) x0 x1 x2 x3 x4 x5
noncomputable def impl_Ground_isRoute.g (k : Nat) (r0 : (List Int) → Int → Int → (List Int) → Int → Int → Option (Bool)) (a0_0 : Int) (a0_1 : Int) (l1 : List Int) : Option (Bool) := (slices_Contains_int64_int64.f k l1 (-1)).bind fun t1 => if t1 = true then (some false) else (r0 l1 a0_0 a0_1 l1 (l1.length : Int) 0)
noncomputable def impl_Ground_isRoute.f (k : Nat) (a0_0 : Int) (a0_1 : Int) (l1 : List Int) : Option (Bool) := impl_Ground_isRoute.g k (impl_Ground_isRoute.l0 k k) a0_0 a0_1 l1
noncomputable def S187 (k : Nat) : Does := ⟨[(true, [.dat (.int .i64), .dat (.int .i64)]), (false, [.dat (.list (.int .i64))])], [(false, [.dat .bool])], fun x => impl_Ground_isRoute.f k x.1 x.2.1 x.2.2⟩
noncomputable def E187 (k : Nat) : En := ⟨tb, orcOf [(167, S167 k), (175, S175 k)], lvOf [(0, [(1, []), (2, []), (9, []), (10, []), (11, [])])], k, 0, lvOf [], []⟩
noncomputable def n187_0 (x1 : List Int) (x2_0 : Int) (x2_1 : Int) (x9 : List Int) (x10 : Int) (x11 : Int) : St := ⟨29, lookA [(1, .dat (.list (.int .i64)) x1), (2, .box 0 0), (9, .dat (.list (.int .i64)) x9), (10, .dat (.int .i64) x10), (11, .dat (.int .i64) x11)], Go.V.look [(0, .cells [.dat (.int .i64) x2_0, .dat (.int .i64) x2_1])]⟩
def p187_0 : List Bool := [true, true, false, true, false]
theorem r187_0 (k : Nat) (rec : St → Option (Bool)) (v : (List Int) × Int × Int × (List Int) × Int × Int) : roundF (E187 k) (S187 k) Try.f187 p187_0 [] rec (n187_0 v.1 v.2.1 v.2.2.1 v.2.2.2.1 v.2.2.2.2.1 v.2.2.2.2.2) = impl_Ground_isRoute.s0 k (fun a0 a1 a2 a3 a4 a5 => rec (n187_0 a0 a1 a2 a3 a4 a5)) v.1 v.2.1 v.2.2.1 v.2.2.2.1 v.2.2.2.2.1 v.2.2.2.2.2 := by
  kernel_rfl
theorem q187_0 (k : Nat) (n : Nat) : ∀ v : (List Int) × Int × Int × (List Int) × Int × Int, loopF (E187 k) (S187 k) Try.f187 p187_0 [] n (n187_0 v.1 v.2.1 v.2.2.1 v.2.2.2.1 v.2.2.2.2.1 v.2.2.2.2.2) = impl_Ground_isRoute.l0 k n v.1 v.2.1 v.2.2.1 v.2.2.2.1 v.2.2.2.2.1 v.2.2.2.2.2 :=
  loopF_eq (E187 k) (S187 k) Try.f187 p187_0 [] (fun v : (List Int) × Int × Int × (List Int) × Int × Int => n187_0 v.1 v.2.1 v.2.2.1 v.2.2.2.1 v.2.2.2.2.1 v.2.2.2.2.2) (fun rec v => impl_Ground_isRoute.s0 k (fun a0 a1 a2 a3 a4 a5 => rec (a0, a1, a2, a3, a4, a5)) v.1 v.2.1 v.2.2.1 v.2.2.2.1 v.2.2.2.2.1 v.2.2.2.2.2) (fun n v => impl_Ground_isRoute.l0 k n v.1 v.2.1 v.2.2.1 v.2.2.2.1 v.2.2.2.2.1 v.2.2.2.2.2) (fun _ => rfl) (fun _ _ => rfl) (fun rec v => r187_0 k rec v) n
theorem e187 (k : Nat) (x : dens (flatC (S187 k).ps)) : funK (E187 k) (S187 k) Try.f187 x = (S187 k).fn x := by
  have h : funK (E187 k) (S187 k) Try.f187 x = impl_Ground_isRoute.g k (fun a0 a1 a2 a3 a4 a5 => loopF (E187 k) (S187 k) Try.f187 p187_0 [] k (n187_0 a0 a1 a2 a3 a4 a5)) x.1 x.2.1 x.2.2 := by kernel_rfl
  rw [h]
  rw [show (fun a0 a1 a2 a3 a4 a5 => loopF (E187 k) (S187 k) Try.f187 p187_0 [] k (n187_0 a0 a1 a2 a3 a4 a5)) = impl_Ground_isRoute.l0 k k from funext fun a0 => funext fun a1 => funext fun a2 => funext fun a3 => funext fun a4 => funext fun a5 => q187_0 k k (a0, a1, a2, a3, a4, a5)]
  rfl
theorem M187 (k : Nat) : Meets Try.prog 187 (S187 k) := meets_of Try.func187 (by kernel_rfl) tbOk (orc_cons (M167 k) (orc_cons (M175 k) orc_nil)) mixOk (fun x y h => (e187 k x).trans h) rfl

/-! impl_waits: function 200 -/
noncomputable def impl_waits.s1 (k : Nat) (r1 : (List Int) → (List Int) → (List Int) → Int → Int → Option ((List Int))) (x0 : List Int) (x5 : List Int) (x6 : List Int) (x27 : Int) (x28 : Int) : Option ((List Int)) := if x28 < x27 then (if 0 ≤ x28 then (if x28 < (x5.length : Int) then (if (wrap64 (x28 + 1)) < (x5.length : Int) then (if 0 ≤ (wrap64 (x28 + 1)) then (if (wrap64 (x28 + 1)) < (x5.length : Int) then (if x6.length + 1 ≤ 1099511627776 then (r1 x0 x5 (x6 ++ [(wrap64 ((rd x5 (wrap64 (x28 + 1))) - (rd x5 x28)))]) x27 (wrap64 (x28 + 1))) else (none)) else (none)) else (none)) else (if 0 < (x5.length : Int) then ((impl_length_int64.f x0).bind fun t1 => if x6.length + 1 ≤ 1099511627776 then (r1 x0 x5 (x6 ++ [(wrap64 ((wrap64 ((rd x5 0) + t1)) - (rd x5 x28)))]) x27 (wrap64 (x28 + 1))) else (none)) else (none))) else (none)) else (none)) else (some x6)
noncomputable def impl_waits.l1 (k : Nat) : Nat → (List Int) → (List Int) → (List Int) → Int → Int → Option ((List Int))
  | 0, _, _, _, _, _ => none
  | n + 1, x0, x1, x2, x3, x4 => impl_waits.s1 k (impl_waits.l1 k n) x0 x1 x2 x3 x4
noncomputable def impl_waits.s0 (k : Nat) (r0 : (List Int) → Int → (List Int) → (List Int) → Int → Int → Option ((List Int))) (r1 : (List Int) → (List Int) → (List Int) → Int → Int → Option ((List Int))) (x0 : List Int) (x1 : Int) (x5 : List Int) (x11 : List Int) (x12 : Int) (x13 : Int) : Option ((List Int)) := if x13 < x12 then (if 0 ≤ x13 then (if x13 < (x11.length : Int) then (if (rd x11 x13) = x1 then (if x5.length + 1 ≤ 1099511627776 then (r0 x0 x1 (x5 ++ [x13]) x11 x12 (wrap64 (x13 + 1))) else (none)) else (r0 x0 x1 x5 x11 x12 (wrap64 (x13 + 1)))) else (none)) else (none)) else (r1 x0 x5 [] (x5.length : Int) 0)
noncomputable def impl_waits.l0 (k : Nat) : Nat → (List Int) → Int → (List Int) → (List Int) → Int → Int → Option ((List Int))
  | 0, _, _, _, _, _, _ => none
  | n + 1, x0, x1, x2, x3, x4, x5 => impl_waits.s0 k (impl_waits.l0 k n) (impl_waits.l1 k k) x0 x1 x2 x3 x4 x5
noncomputable def impl_waits.g (k : Nat) (r0 : (List Int) → Int → (List Int) → (List Int) → Int → Int → Option ((List Int))) (l0 : List Int) (a1 : Int) : Option ((List Int)) := r0 l0 a1 [] l0 (l0.length : Int) 0
noncomputable def impl_waits.f (k : Nat) (l0 : List Int) (a1 : Int) : Option ((List Int)) := impl_waits.g k (impl_waits.l0 k k) l0 a1
noncomputable def S200 (k : Nat) : Does := ⟨[(false, [.dat (.list (.int .i64))]), (false, [.dat (.int .i64)])], [(false, [.own 2 (.int .i64)])], fun x => impl_waits.f k x.1 x.2⟩
noncomputable def E200 (k : Nat) : En := ⟨tb, orcOf [(149, S149 k)], lvOf [(0, [(0, []), (1, []), (5, [.nil 2 (.int .i64)]), (6, []), (11, []), (12, []), (13, [])]), (2, [(0, []), (5, []), (6, [.nil 2 (.int .i64)]), (26, []), (27, []), (28, [])])], k, 0, lvOf [], []⟩
noncomputable def n200_0 (x0 : List Int) (x1 : Int) (x5 : List Int) (x11 : List Int) (x12 : Int) (x13 : Int) : St := ⟨61, lookA [(0, .dat (.list (.int .i64)) x0), (1, .dat (.int .i64) x1), (5, .own 0), (6, .nil), (11, .dat (.list (.int .i64)) x11), (12, .dat (.int .i64) x12), (13, .dat (.int .i64) x13)], Go.V.look [(0, .flat 2 (.int .i64) x5)]⟩
def p200_0 : List Bool := [true, true, false, true, false]
noncomputable def n200_1 (x0 : List Int) (x5 : List Int) (x6 : List Int) (x27 : Int) (x28 : Int) : St := ⟨61, lookA [(0, .dat (.list (.int .i64)) x0), (5, .own 0), (6, .own 1), (26, .own 0), (27, .dat (.int .i64) x27), (28, .dat (.int .i64) x28)], Go.V.look [(0, .flat 2 (.int .i64) x5), (1, .flat 2 (.int .i64) x6)]⟩
def p200_1 : List Bool := [true, true, true, false, true, false]
theorem r200_1 (k : Nat) (rec : St → Option ((List Int))) (v : (List Int) × (List Int) × (List Int) × Int × Int) : roundF (E200 k) (S200 k) Try.f200 p200_1 [] rec (n200_1 v.1 v.2.1 v.2.2.1 v.2.2.2.1 v.2.2.2.2) = impl_waits.s1 k (fun a0 a1 a2 a3 a4 => rec (n200_1 a0 a1 a2 a3 a4)) v.1 v.2.1 v.2.2.1 v.2.2.2.1 v.2.2.2.2 := by
  kernel_rfl
theorem q200_1 (k : Nat) (n : Nat) : ∀ v : (List Int) × (List Int) × (List Int) × Int × Int, loopF (E200 k) (S200 k) Try.f200 p200_1 [] n (n200_1 v.1 v.2.1 v.2.2.1 v.2.2.2.1 v.2.2.2.2) = impl_waits.l1 k n v.1 v.2.1 v.2.2.1 v.2.2.2.1 v.2.2.2.2 :=
  loopF_eq (E200 k) (S200 k) Try.f200 p200_1 [] (fun v : (List Int) × (List Int) × (List Int) × Int × Int => n200_1 v.1 v.2.1 v.2.2.1 v.2.2.2.1 v.2.2.2.2) (fun rec v => impl_waits.s1 k (fun a0 a1 a2 a3 a4 => rec (a0, a1, a2, a3, a4)) v.1 v.2.1 v.2.2.1 v.2.2.2.1 v.2.2.2.2) (fun n v => impl_waits.l1 k n v.1 v.2.1 v.2.2.1 v.2.2.2.1 v.2.2.2.2) (fun _ => rfl) (fun _ _ => rfl) (fun rec v => r200_1 k rec v) n
theorem r200_0 (k : Nat) (rec : St → Option ((List Int))) (G1 : (List Int) → (List Int) → (List Int) → Int → Int → Option ((List Int))) (h1 : ∀ a0 a1 a2 a3 a4, loopF (E200 k) (S200 k) Try.f200 p200_1 [] k (n200_1 a0 a1 a2 a3 a4) = G1 a0 a1 a2 a3 a4) (v : (List Int) × Int × (List Int) × (List Int) × Int × Int) : roundF (E200 k) (S200 k) Try.f200 p200_0 [] rec (n200_0 v.1 v.2.1 v.2.2.1 v.2.2.2.1 v.2.2.2.2.1 v.2.2.2.2.2) = impl_waits.s0 k (fun a0 a1 a2 a3 a4 a5 => rec (n200_0 a0 a1 a2 a3 a4 a5)) G1 v.1 v.2.1 v.2.2.1 v.2.2.2.1 v.2.2.2.2.1 v.2.2.2.2.2 := by
  obtain rfl : (fun a0 a1 a2 a3 a4 => loopF (E200 k) (S200 k) Try.f200 p200_1 [] k (n200_1 a0 a1 a2 a3 a4)) = G1 := funext fun a0 => funext fun a1 => funext fun a2 => funext fun a3 => funext fun a4 => h1 a0 a1 a2 a3 a4
  kernel_rfl
theorem q200_0 (k : Nat) (n : Nat) : ∀ v : (List Int) × Int × (List Int) × (List Int) × Int × Int, loopF (E200 k) (S200 k) Try.f200 p200_0 [] n (n200_0 v.1 v.2.1 v.2.2.1 v.2.2.2.1 v.2.2.2.2.1 v.2.2.2.2.2) = impl_waits.l0 k n v.1 v.2.1 v.2.2.1 v.2.2.2.1 v.2.2.2.2.1 v.2.2.2.2.2 :=
  loopF_eq (E200 k) (S200 k) Try.f200 p200_0 [] (fun v : (List Int) × Int × (List Int) × (List Int) × Int × Int => n200_0 v.1 v.2.1 v.2.2.1 v.2.2.2.1 v.2.2.2.2.1 v.2.2.2.2.2) (fun rec v => impl_waits.s0 k (fun a0 a1 a2 a3 a4 a5 => rec (a0, a1, a2, a3, a4, a5)) (impl_waits.l1 k k) v.1 v.2.1 v.2.2.1 v.2.2.2.1 v.2.2.2.2.1 v.2.2.2.2.2) (fun n v => impl_waits.l0 k n v.1 v.2.1 v.2.2.1 v.2.2.2.1 v.2.2.2.2.1 v.2.2.2.2.2) (fun _ => rfl) (fun _ _ => rfl) (fun rec v => r200_0 k rec _ (fun a0 a1 a2 a3 a4 => q200_1 k k (a0, a1, a2, a3, a4)) v) n
theorem e200 (k : Nat) (x : dens (flatC (S200 k).ps)) : funK (E200 k) (S200 k) Try.f200 x = (S200 k).fn x := by
  have h : funK (E200 k) (S200 k) Try.f200 x = impl_waits.g k (fun a0 a1 a2 a3 a4 a5 => loopF (E200 k) (S200 k) Try.f200 p200_0 [] k (n200_0 a0 a1 a2 a3 a4 a5)) x.1 x.2 := by kernel_rfl
  rw [h]
  rw [show (fun a0 a1 a2 a3 a4 a5 => loopF (E200 k) (S200 k) Try.f200 p200_0 [] k (n200_0 a0 a1 a2 a3 a4 a5)) = impl_waits.l0 k k from funext fun a0 => funext fun a1 => funext fun a2 => funext fun a3 => funext fun a4 => funext fun a5 => q200_0 k k (a0, a1, a2, a3, a4, a5)]
  rfl
theorem M200 (k : Nat) : Meets Try.prog 200 (S200 k) := meets_of Try.func200 (by kernel_rfl) tbOk (orc_cons (M149 k) orc_nil) mixOk (fun x y h => (e200 k x).trans h) rfl

/-! impl_greatest: function 199 -/
noncomputable def impl_greatest.s0 (k : Nat) (r0 : Int → (List Int) → Int → Int → Option (Int)) (x3 : Int) (x6 : List Int) (x7 : Int) (x8 : Int) : Option (Int) := if x8 < x7 then (if 0 ≤ x8 then (if x8 < (x6.length : Int) then (r0 (maxV x3 (rd x6 x8)) x6 x7 (wrap64 (x8 + 1))) else (none)) else (none)) else (some x3)
noncomputable def impl_greatest.l0 (k : Nat) : Nat → Int → (List Int) → Int → Int → Option (Int)
  | 0, _, _, _, _ => none
  | n + 1, x0, x1, x2, x3 => impl_greatest.s0 k (impl_greatest.l0 k n) x0 x1 x2 x3
noncomputable def impl_greatest.g (k : Nat) (r0 : Int → (List Int) → Int → Int → Option (Int)) (l0 : List Int) : Option (Int) := r0 0 l0 (l0.length : Int) 0
noncomputable def impl_greatest.f (k : Nat) (l0 : List Int) : Option (Int) := impl_greatest.g k (impl_greatest.l0 k k) l0
noncomputable def S199 (k : Nat) : Does := ⟨[(false, [.dat (.list (.int .i64))])], [(false, [.dat (.int .i64)])], fun x => impl_greatest.f k x⟩
noncomputable def E199 (k : Nat) : En := ⟨tb, orcOf [], lvOf [(0, [(3, []), (6, []), (7, []), (8, [])])], k, 0, lvOf [], []⟩
noncomputable def n199_0 (x3 : Int) (x6 : List Int) (x7 : Int) (x8 : Int) : St := ⟨17, lookA [(3, .dat (.int .i64) x3), (6, .dat (.list (.int .i64)) x6), (7, .dat (.int .i64) x7), (8, .dat (.int .i64) x8)], Go.V.look []⟩
def p199_0 : List Bool := [true, true, false, true, false]
theorem r199_0 (k : Nat) (rec : St → Option (Int)) (v : Int × (List Int) × Int × Int) : roundF (E199 k) (S199 k) Try.f199 p199_0 [] rec (n199_0 v.1 v.2.1 v.2.2.1 v.2.2.2) = impl_greatest.s0 k (fun a0 a1 a2 a3 => rec (n199_0 a0 a1 a2 a3)) v.1 v.2.1 v.2.2.1 v.2.2.2 := by
  kernel_rfl
theorem q199_0 (k : Nat) (n : Nat) : ∀ v : Int × (List Int) × Int × Int, loopF (E199 k) (S199 k) Try.f199 p199_0 [] n (n199_0 v.1 v.2.1 v.2.2.1 v.2.2.2) = impl_greatest.l0 k n v.1 v.2.1 v.2.2.1 v.2.2.2 :=
  loopF_eq (E199 k) (S199 k) Try.f199 p199_0 [] (fun v : Int × (List Int) × Int × Int => n199_0 v.1 v.2.1 v.2.2.1 v.2.2.2) (fun rec v => impl_greatest.s0 k (fun a0 a1 a2 a3 => rec (a0, a1, a2, a3)) v.1 v.2.1 v.2.2.1 v.2.2.2) (fun n v => impl_greatest.l0 k n v.1 v.2.1 v.2.2.1 v.2.2.2) (fun _ => rfl) (fun _ _ => rfl) (fun rec v => r199_0 k rec v) n
theorem e199 (k : Nat) (x : dens (flatC (S199 k).ps)) : funK (E199 k) (S199 k) Try.f199 x = (S199 k).fn x := by
  have h : funK (E199 k) (S199 k) Try.f199 x = impl_greatest.g k (fun a0 a1 a2 a3 => loopF (E199 k) (S199 k) Try.f199 p199_0 [] k (n199_0 a0 a1 a2 a3)) x := by kernel_rfl
  rw [h]
  rw [show (fun a0 a1 a2 a3 => loopF (E199 k) (S199 k) Try.f199 p199_0 [] k (n199_0 a0 a1 a2 a3)) = impl_greatest.l0 k k from funext fun a0 => funext fun a1 => funext fun a2 => funext fun a3 => q199_0 k k (a0, a1, a2, a3)]
  rfl
theorem M199 (k : Nat) : Meets Try.prog 199 (S199 k) := meets_of Try.func199 (by kernel_rfl) tbOk orc_nil mixOk (fun x y h => (e199 k x).trans h) rfl

/-! impl_Tasks_serves: function 161 -/
noncomputable def impl_Tasks_serves.s0 (k : Nat) (r0 : (List Int) → (List Int) → Int → Int → Option (Bool)) (x1 : List Int) (x9 : List Int) (x10 : Int) (x11 : Int) : Option (Bool) := if x11 < x10 then (if 0 ≤ x11 then (if x11 < (x9.length : Int) then ((impl_waits.f k x1 x11).bind fun t1 => if (t1.length : Int) = 0 then (some false) else ((impl_greatest.f k t1).bind fun t2 => if (rd x9 x11) < t2 then (some false) else (r0 x1 x9 x10 (wrap64 (x11 + 1))))) else (none)) else (none)) else (some true)
noncomputable def impl_Tasks_serves.l0 (k : Nat) : Nat → (List Int) → (List Int) → Int → Int → Option (Bool)
  | 0, _, _, _, _ => none
  | n + 1, x0, x1, x2, x3 => impl_Tasks_serves.s0 k (impl_Tasks_serves.l0 k n) x0 x1 x2 x3
noncomputable def impl_Tasks_serves.g (k : Nat) (r0 : (List Int) → (List Int) → Int → Int → Option (Bool)) (l0_0 : List Int) (l1 : List Int) : Option (Bool) := r0 l1 l0_0 (l0_0.length : Int) 0
noncomputable def impl_Tasks_serves.f (k : Nat) (l0_0 : List Int) (l1 : List Int) : Option (Bool) := impl_Tasks_serves.g k (impl_Tasks_serves.l0 k k) l0_0 l1
noncomputable def S161 (k : Nat) : Does := ⟨[(true, [.dat (.list (.int .i64))]), (false, [.dat (.list (.int .i64))])], [(false, [.dat .bool])], fun x => impl_Tasks_serves.f k x.1 x.2⟩
noncomputable def E161 (k : Nat) : En := ⟨tb, orcOf [(200, S200 k), (199, S199 k)], lvOf [(0, [(1, []), (9, []), (10, []), (11, [])])], k, 0, lvOf [], []⟩
noncomputable def n161_0 (x1 : List Int) (x9 : List Int) (x10 : Int) (x11 : Int) : St := ⟨29, lookA [(1, .dat (.list (.int .i64)) x1), (9, .dat (.list (.int .i64)) x9), (10, .dat (.int .i64) x10), (11, .dat (.int .i64) x11)], Go.V.look []⟩
def p161_0 : List Bool := [true, false, true, false]
theorem r161_0 (k : Nat) (rec : St → Option (Bool)) (v : (List Int) × (List Int) × Int × Int) : roundF (E161 k) (S161 k) Try.f161 p161_0 [] rec (n161_0 v.1 v.2.1 v.2.2.1 v.2.2.2) = impl_Tasks_serves.s0 k (fun a0 a1 a2 a3 => rec (n161_0 a0 a1 a2 a3)) v.1 v.2.1 v.2.2.1 v.2.2.2 := by
  kernel_rfl
theorem q161_0 (k : Nat) (n : Nat) : ∀ v : (List Int) × (List Int) × Int × Int, loopF (E161 k) (S161 k) Try.f161 p161_0 [] n (n161_0 v.1 v.2.1 v.2.2.1 v.2.2.2) = impl_Tasks_serves.l0 k n v.1 v.2.1 v.2.2.1 v.2.2.2 :=
  loopF_eq (E161 k) (S161 k) Try.f161 p161_0 [] (fun v : (List Int) × (List Int) × Int × Int => n161_0 v.1 v.2.1 v.2.2.1 v.2.2.2) (fun rec v => impl_Tasks_serves.s0 k (fun a0 a1 a2 a3 => rec (a0, a1, a2, a3)) v.1 v.2.1 v.2.2.1 v.2.2.2) (fun n v => impl_Tasks_serves.l0 k n v.1 v.2.1 v.2.2.1 v.2.2.2) (fun _ => rfl) (fun _ _ => rfl) (fun rec v => r161_0 k rec v) n
theorem e161 (k : Nat) (x : dens (flatC (S161 k).ps)) : funK (E161 k) (S161 k) Try.f161 x = (S161 k).fn x := by
  have h : funK (E161 k) (S161 k) Try.f161 x = impl_Tasks_serves.g k (fun a0 a1 a2 a3 => loopF (E161 k) (S161 k) Try.f161 p161_0 [] k (n161_0 a0 a1 a2 a3)) x.1 x.2 := by kernel_rfl
  rw [h]
  rw [show (fun a0 a1 a2 a3 => loopF (E161 k) (S161 k) Try.f161 p161_0 [] k (n161_0 a0 a1 a2 a3)) = impl_Tasks_serves.l0 k k from funext fun a0 => funext fun a1 => funext fun a2 => funext fun a3 => q161_0 k k (a0, a1, a2, a3)]
  rfl
theorem M161 (k : Nat) : Meets Try.prog 161 (S161 k) := meets_of Try.func161 (by kernel_rfl) tbOk (orc_cons (M200 k) (orc_cons (M199 k) orc_nil)) mixOk (fun x y h => (e161 k x).trans h) rfl

/-! impl_RouteServes: function 82 -/
noncomputable def impl_RouteServes.f (k : Nat) (a0_0 : Int) (a0_1 : Int) (l1_0 : List Int) (l2 : List Int) : Option (Bool × Int) := (impl_areTurns.f k l2 a0_0).bind fun t1 => (impl_bothCode.f k a0_0 a0_1 l1_0 t1).bind fun t2 => if t2 = 0 then ((impl_Ground_isRoute.f k a0_0 a0_1 l2).bind fun t3 => if t3 = true then ((impl_Tasks_serves.f k l1_0 l2).bind fun t4 => some (t4, 0)) else (some (false, 0))) else (some (false, t2))
noncomputable def S82 (k : Nat) : Does := ⟨[(true, [.dat (.int .i64), .dat (.int .i64)]), (true, [.dat (.list (.int .i64))]), (false, [.dat (.list (.int .i64))])], [(false, [.dat .bool]), (false, [.dat (.int .i64)])], fun x => impl_RouteServes.f k x.1 x.2.1 x.2.2.1 x.2.2.2⟩
noncomputable def E82 (k : Nat) : En := ⟨tb, orcOf [(186, S186 k), (185, S185 k), (187, S187 k), (161, S161 k)], lvOf [], k, 0, lvOf [], []⟩
theorem e82 (k : Nat) (x : dens (flatC (S82 k).ps)) : funK (E82 k) (S82 k) Try.f82 x = (S82 k).fn x := by
  kernel_rfl
theorem M82 (k : Nat) : Meets Try.prog 82 (S82 k) := meets_of Try.func82 (by kernel_rfl) tbOk (orc_cons (M186 k) (orc_cons (M185 k) (orc_cons (M187 k) (orc_cons (M161 k) orc_nil)))) mixOk (fun x y h => (e82 k x).trans h) rfl

/-! impl_tasksCode: function 138 -/
noncomputable def impl_tasksCode.f (k : Nat) (l0_0 : List Int) (a1 : Bool) : Option (Int) := (impl_IsTasks.f k l0_0).bind fun t1 => if (!decide (t1 = true)) = true then (some 1) else (if (!decide (a1 = true)) = true then (some 2) else (some 0))
noncomputable def S138 (k : Nat) : Does := ⟨[(true, [.dat (.list (.int .i64))]), (false, [.dat .bool])], [(false, [.dat (.int .i64)])], fun x => impl_tasksCode.f k x.1 x.2⟩
noncomputable def E138 (k : Nat) : En := ⟨tb, orcOf [(214, S214 k)], lvOf [], k, 0, lvOf [], []⟩
theorem e138 (k : Nat) (x : dens (flatC (S138 k).ps)) : funK (E138 k) (S138 k) Try.f138 x = (S138 k).fn x := by
  kernel_rfl
theorem M138 (k : Nat) : Meets Try.prog 138 (S138 k) := meets_of Try.func138 (by kernel_rfl) tbOk (orc_cons (M214 k) orc_nil) mixOk (fun x y h => (e138 k x).trans h) rfl

/-! impl_turnsCode: function 160 -/
noncomputable def impl_turnsCode.f (k : Nat) (l0_0 : List Int) (l1 : List Int) : Option (Int) := (impl_Tasks_many.f l0_0).bind fun t1 => (impl_areTurns.f k l1 t1).bind fun t2 => (impl_tasksCode.f k l0_0 t2).bind fun t3 => some t3
noncomputable def S160 (k : Nat) : Does := ⟨[(true, [.dat (.list (.int .i64))]), (false, [.dat (.list (.int .i64))])], [(false, [.dat (.int .i64)])], fun x => impl_turnsCode.f k x.1 x.2⟩
noncomputable def E160 (k : Nat) : En := ⟨tb, orcOf [(197, S197 k), (186, S186 k), (138, S138 k)], lvOf [], k, 0, lvOf [], []⟩
theorem e160 (k : Nat) (x : dens (flatC (S160 k).ps)) : funK (E160 k) (S160 k) Try.f160 x = (S160 k).fn x := by
  kernel_rfl
theorem M160 (k : Nat) : Meets Try.prog 160 (S160 k) := meets_of Try.func160 (by kernel_rfl) tbOk (orc_cons (M197 k) (orc_cons (M186 k) (orc_cons (M138 k) orc_nil))) mixOk (fun x y h => (e160 k x).trans h) rfl

/-! impl_DoServe: function 56 -/
noncomputable def impl_DoServe.f (k : Nat) (l0_0 : List Int) (l1 : List Int) : Option (Bool × Int) := (impl_turnsCode.f k l0_0 l1).bind fun t1 => if t1 = 0 then ((impl_Tasks_serves.f k l0_0 l1).bind fun t2 => some (t2, 0)) else (some (false, t1))
noncomputable def S56 (k : Nat) : Does := ⟨[(true, [.dat (.list (.int .i64))]), (false, [.dat (.list (.int .i64))])], [(false, [.dat .bool]), (false, [.dat (.int .i64)])], fun x => impl_DoServe.f k x.1 x.2⟩
noncomputable def E56 (k : Nat) : En := ⟨tb, orcOf [(160, S160 k), (161, S161 k)], lvOf [], k, 0, lvOf [], []⟩
theorem e56 (k : Nat) (x : dens (flatC (S56 k).ps)) : funK (E56 k) (S56 k) Try.f56 x = (S56 k).fn x := by
  kernel_rfl
theorem M56 (k : Nat) : Meets Try.prog 56 (S56 k) := meets_of Try.func56 (by kernel_rfl) tbOk (orc_cons (M160 k) (orc_cons (M161 k) orc_nil)) mixOk (fun x y h => (e56 k x).trans h) rfl

/-! impl_groundCode: function 107 -/
noncomputable def impl_groundCode.f (a0_0 : Int) (a0_1 : Int) (a1 : Bool) : Option (Int) := (impl_IsGround.f a0_0 a0_1).bind fun t1 => if (!decide (t1 = true)) = true then (some 1) else (if (!decide (a1 = true)) = true then (some 2) else (some 0))
noncomputable def S107 (k : Nat) : Does := ⟨[(true, [.dat (.int .i64), .dat (.int .i64)]), (false, [.dat .bool])], [(false, [.dat (.int .i64)])], fun x => impl_groundCode.f x.1 x.2.1 x.2.2⟩
noncomputable def E107 (k : Nat) : En := ⟨tb, orcOf [(68, S68 k)], lvOf [], k, 0, lvOf [], []⟩
theorem e107 (k : Nat) (x : dens (flatC (S107 k).ps)) : funK (E107 k) (S107 k) Try.f107 x = (S107 k).fn x := by
  kernel_rfl
theorem M107 (k : Nat) : Meets Try.prog 107 (S107 k) := meets_of Try.func107 (by kernel_rfl) tbOk (orc_cons (M68 k) orc_nil) mixOk (fun x y h => (e107 k x).trans h) rfl

/-! impl_IsRoute: function 83 -/
noncomputable def impl_IsRoute.f (k : Nat) (a0_0 : Int) (a0_1 : Int) (l1 : List Int) : Option (Bool × Int) := (impl_areTurns.f k l1 a0_0).bind fun t1 => (impl_groundCode.f a0_0 a0_1 t1).bind fun t2 => if t2 = 0 then ((impl_Ground_isRoute.f k a0_0 a0_1 l1).bind fun t3 => some (t3, 0)) else (some (false, t2))
noncomputable def S83 (k : Nat) : Does := ⟨[(true, [.dat (.int .i64), .dat (.int .i64)]), (false, [.dat (.list (.int .i64))])], [(false, [.dat .bool]), (false, [.dat (.int .i64)])], fun x => impl_IsRoute.f k x.1 x.2.1 x.2.2⟩
noncomputable def E83 (k : Nat) : En := ⟨tb, orcOf [(186, S186 k), (107, S107 k), (187, S187 k)], lvOf [], k, 0, lvOf [], []⟩
theorem e83 (k : Nat) (x : dens (flatC (S83 k).ps)) : funK (E83 k) (S83 k) Try.f83 x = (S83 k).fn x := by
  kernel_rfl
theorem M83 (k : Nat) : Meets Try.prog 83 (S83 k) := meets_of Try.func83 (by kernel_rfl) tbOk (orc_cons (M186 k) (orc_cons (M107 k) (orc_cons (M187 k) orc_nil))) mixOk (fun x y h => (e83 k x).trans h) rfl

/-! spec_l09DrawRoute: function 188 -/
noncomputable def spec_l09DrawRoute.s1 (k : Nat) (r1 : (List Int) → Int → (List Int) → Int → Int → Option ((List Int) × ((List Int) × Int × Int))) (x5 : List Int) (x9 : Int) (b0_0 : List Int) (b0_1 : Int) (b0_2 : Int) : Option ((List Int) × ((List Int) × Int × Int)) := if 0 < x9 then (if 0 ≤ x9 then (if x9 < (x5.length : Int) then (if x5.length + 1 ≤ 1099511627776 then (r1 (x5 ++ [(rd x5 x9)]) (wrap64 (x9 - 1)) b0_0 b0_1 b0_2) else (none)) else (none)) else (none)) else (some (x5, b0_0, b0_1, b0_2))
noncomputable def spec_l09DrawRoute.l1 (k : Nat) : Nat → (List Int) → Int → (List Int) → Int → Int → Option ((List Int) × ((List Int) × Int × Int))
  | 0, _, _, _, _, _ => none
  | n + 1, x0, x1, x2, x3, x4 => spec_l09DrawRoute.s1 k (spec_l09DrawRoute.l1 k n) x0 x1 x2 x3 x4
noncomputable def spec_l09DrawRoute.s0 (k : Nat) (r0 : (List Int) → Int → Int → Int → Int → (List Int) → Int → Option ((List Int) × ((List Int) × Int × Int))) (r1 : (List Int) → Int → (List Int) → Int → Int → Option ((List Int) × ((List Int) × Int × Int))) (x0_0 : List Int) (x0_1 : Int) (x0_2 : Int) (x3_0 : Int) (x3_1 : Int) (x5 : List Int) (x6 : Int) : Option ((List Int) × ((List Int) × Int × Int)) := if 0 < x6 then (if 0 ≤ (wrap64 ((x5.length : Int) - 1)) then (if (wrap64 ((x5.length : Int) - 1)) < (x5.length : Int) then ((spec_l01Next.f (x0_0, x0_1, x0_2) x3_0).bind fun t4 => (spec_l09Near.f x3_0 x3_1 (rd x5 (wrap64 ((x5.length : Int) - 1))) t4.1).bind fun t5 => if t5 = true then (if x5.length + 1 ≤ 1099511627776 then (r0 t4.2.1 t4.2.2.1 t4.2.2.2 x3_0 x3_1 (x5 ++ [t4.1]) (wrap64 (x6 - 1))) else (none)) else (r0 t4.2.1 t4.2.2.1 t4.2.2.2 x3_0 x3_1 x5 (wrap64 (x6 - 1)))) else (none)) else (none)) else ((spec_l01Next.f (x0_0, x0_1, x0_2) 3).bind fun t6 => if 0 < t6.1 then (r1 x5 (wrap64 ((x5.length : Int) - 2)) t6.2.1 t6.2.2.1 t6.2.2.2) else (some (x5, t6.2.1, t6.2.2.1, t6.2.2.2)))
noncomputable def spec_l09DrawRoute.l0 (k : Nat) : Nat → (List Int) → Int → Int → Int → Int → (List Int) → Int → Option ((List Int) × ((List Int) × Int × Int))
  | 0, _, _, _, _, _, _, _ => none
  | n + 1, x0, x1, x2, x3, x4, x5, x6 => spec_l09DrawRoute.s0 k (spec_l09DrawRoute.l0 k n) (spec_l09DrawRoute.l1 k k) x0 x1 x2 x3 x4 x5 x6
noncomputable def spec_l09DrawRoute.g (k : Nat) (r0 : (List Int) → Int → Int → Int → Int → (List Int) → Int → Option ((List Int) × ((List Int) × Int × Int))) (a0 : (List Int) × Int × Int) (a1_0 : Int) (a1_1 : Int) : Option ((List Int) × ((List Int) × Int × Int)) := (spec_l01Next.f (a0.1, a0.2.1, a0.2.2) a1_0).bind fun t1 => (spec_l01Pick.f (t1.2.1, t1.2.2.1, t1.2.2.2) [6, 12, 30]).bind fun t2 => (spec_l01Next.f (t2.2.1, t2.2.2.1, t2.2.2.2) t2.1).bind fun t3 => r0 t3.2.1 t3.2.2.1 t3.2.2.2 a1_0 a1_1 [t1.1] t3.1
noncomputable def spec_l09DrawRoute.f (k : Nat) (a0 : (List Int) × Int × Int) (a1_0 : Int) (a1_1 : Int) : Option ((List Int) × ((List Int) × Int × Int)) := spec_l09DrawRoute.g k (spec_l09DrawRoute.l0 k k) a0 a1_0 a1_1
noncomputable def S188 (k : Nat) : Does := ⟨[(false, [.cel (.struct (.pair (.list (.int .u8)) (.pair (.int .i64) (.int .u64))))]), (true, [.dat (.int .i64), .dat (.int .i64)])], [(false, [.own 2 (.int .i64)])], fun x => spec_l09DrawRoute.f k x.1 x.2.1 x.2.2⟩
noncomputable def E188 (k : Nat) : En := ⟨tb, orcOf [(147, S147 k), (136, S136 k), (177, S177 k)], lvOf [(0, [(0, []), (3, []), (5, []), (6, [])]), (2, [(5, []), (9, [])])], k, 1, lvOf [], [1074069504]⟩
noncomputable def n188_0 (x0_0 : List Int) (x0_1 : Int) (x0_2 : Int) (x3_0 : Int) (x3_1 : Int) (x5 : List Int) (x6 : Int) : St := ⟨60, lookA [(0, .box 0 0), (3, .box 1 0), (5, .own 2), (6, .dat (.int .i64) x6)], Go.V.look [(0, .cells [.dat (.list (.int .u8)) x0_0, .dat (.int .i64) x0_1, .dat (.int .u64) x0_2]), (1, .cells [.dat (.int .i64) x3_0, .dat (.int .i64) x3_1]), (2, .flat 2 (.int .i64) x5)]⟩
def p188_0 : List Bool := [true, true, false, true, false]
noncomputable def n188_1 (x5 : List Int) (x9 : Int) (b0_0 : List Int) (b0_1 : Int) (b0_2 : Int) : St := ⟨60, lookA [(5, .own 1), (9, .dat (.int .i64) x9)], Go.V.look [(0, .cells [.dat (.list (.int .u8)) b0_0, .dat (.int .i64) b0_1, .dat (.int .u64) b0_2]), (1, .flat 2 (.int .i64) x5)]⟩
def p188_1 : List Bool := [true, true, true, false, true, false, true, false]
theorem r188_1 (k : Nat) (rec : St → Option ((List Int) × ((List Int) × Int × Int))) (v : (List Int) × Int × (List Int) × Int × Int) : roundF (E188 k) (S188 k) Try.f188 p188_1 [] rec (n188_1 v.1 v.2.1 v.2.2.1 v.2.2.2.1 v.2.2.2.2) = spec_l09DrawRoute.s1 k (fun a0 a1 a2 a3 a4 => rec (n188_1 a0 a1 a2 a3 a4)) v.1 v.2.1 v.2.2.1 v.2.2.2.1 v.2.2.2.2 := by
  kernel_rfl
theorem q188_1 (k : Nat) (n : Nat) : ∀ v : (List Int) × Int × (List Int) × Int × Int, loopF (E188 k) (S188 k) Try.f188 p188_1 [] n (n188_1 v.1 v.2.1 v.2.2.1 v.2.2.2.1 v.2.2.2.2) = spec_l09DrawRoute.l1 k n v.1 v.2.1 v.2.2.1 v.2.2.2.1 v.2.2.2.2 :=
  loopF_eq (E188 k) (S188 k) Try.f188 p188_1 [] (fun v : (List Int) × Int × (List Int) × Int × Int => n188_1 v.1 v.2.1 v.2.2.1 v.2.2.2.1 v.2.2.2.2) (fun rec v => spec_l09DrawRoute.s1 k (fun a0 a1 a2 a3 a4 => rec (a0, a1, a2, a3, a4)) v.1 v.2.1 v.2.2.1 v.2.2.2.1 v.2.2.2.2) (fun n v => spec_l09DrawRoute.l1 k n v.1 v.2.1 v.2.2.1 v.2.2.2.1 v.2.2.2.2) (fun _ => rfl) (fun _ _ => rfl) (fun rec v => r188_1 k rec v) n
theorem r188_0 (k : Nat) (rec : St → Option ((List Int) × ((List Int) × Int × Int))) (G1 : (List Int) → Int → (List Int) → Int → Int → Option ((List Int) × ((List Int) × Int × Int))) (h1 : ∀ a0 a1 a2 a3 a4, loopF (E188 k) (S188 k) Try.f188 p188_1 [] k (n188_1 a0 a1 a2 a3 a4) = G1 a0 a1 a2 a3 a4) (v : (List Int) × Int × Int × Int × Int × (List Int) × Int) : roundF (E188 k) (S188 k) Try.f188 p188_0 [] rec (n188_0 v.1 v.2.1 v.2.2.1 v.2.2.2.1 v.2.2.2.2.1 v.2.2.2.2.2.1 v.2.2.2.2.2.2) = spec_l09DrawRoute.s0 k (fun a0 a1 a2 a3 a4 a5 a6 => rec (n188_0 a0 a1 a2 a3 a4 a5 a6)) G1 v.1 v.2.1 v.2.2.1 v.2.2.2.1 v.2.2.2.2.1 v.2.2.2.2.2.1 v.2.2.2.2.2.2 := by
  obtain rfl : (fun a0 a1 a2 a3 a4 => loopF (E188 k) (S188 k) Try.f188 p188_1 [] k (n188_1 a0 a1 a2 a3 a4)) = G1 := funext fun a0 => funext fun a1 => funext fun a2 => funext fun a3 => funext fun a4 => h1 a0 a1 a2 a3 a4
  kernel_rfl
theorem q188_0 (k : Nat) (n : Nat) : ∀ v : (List Int) × Int × Int × Int × Int × (List Int) × Int, loopF (E188 k) (S188 k) Try.f188 p188_0 [] n (n188_0 v.1 v.2.1 v.2.2.1 v.2.2.2.1 v.2.2.2.2.1 v.2.2.2.2.2.1 v.2.2.2.2.2.2) = spec_l09DrawRoute.l0 k n v.1 v.2.1 v.2.2.1 v.2.2.2.1 v.2.2.2.2.1 v.2.2.2.2.2.1 v.2.2.2.2.2.2 :=
  loopF_eq (E188 k) (S188 k) Try.f188 p188_0 [] (fun v : (List Int) × Int × Int × Int × Int × (List Int) × Int => n188_0 v.1 v.2.1 v.2.2.1 v.2.2.2.1 v.2.2.2.2.1 v.2.2.2.2.2.1 v.2.2.2.2.2.2) (fun rec v => spec_l09DrawRoute.s0 k (fun a0 a1 a2 a3 a4 a5 a6 => rec (a0, a1, a2, a3, a4, a5, a6)) (spec_l09DrawRoute.l1 k k) v.1 v.2.1 v.2.2.1 v.2.2.2.1 v.2.2.2.2.1 v.2.2.2.2.2.1 v.2.2.2.2.2.2) (fun n v => spec_l09DrawRoute.l0 k n v.1 v.2.1 v.2.2.1 v.2.2.2.1 v.2.2.2.2.1 v.2.2.2.2.2.1 v.2.2.2.2.2.2) (fun _ => rfl) (fun _ _ => rfl) (fun rec v => r188_0 k rec _ (fun a0 a1 a2 a3 a4 => q188_1 k k (a0, a1, a2, a3, a4)) v) n
theorem e188 (k : Nat) (x : dens (flatC (S188 k).ps)) : funK (E188 k) (S188 k) Try.f188 x = (S188 k).fn x := by
  have h : funK (E188 k) (S188 k) Try.f188 x = spec_l09DrawRoute.g k (fun a0 a1 a2 a3 a4 a5 a6 => loopF (E188 k) (S188 k) Try.f188 p188_0 [] k (n188_0 a0 a1 a2 a3 a4 a5 a6)) x.1 x.2.1 x.2.2 := by kernel_rfl
  rw [h]
  rw [show (fun a0 a1 a2 a3 a4 a5 a6 => loopF (E188 k) (S188 k) Try.f188 p188_0 [] k (n188_0 a0 a1 a2 a3 a4 a5 a6)) = spec_l09DrawRoute.l0 k k from funext fun a0 => funext fun a1 => funext fun a2 => funext fun a3 => funext fun a4 => funext fun a5 => funext fun a6 => q188_0 k k (a0, a1, a2, a3, a4, a5, a6)]
  rfl
theorem M188 (k : Nat) : Meets Try.prog 188 (S188 k) := meets_of Try.func188 (by kernel_rfl) tbOk (orc_cons (M147 k) (orc_cons (M136 k) (orc_cons (M177 k) orc_nil))) mixOk (fun x y h => (e188 k x).trans h) rfl

/-! spec_l01Waits: function 222 -/
noncomputable def spec_l01Waits.s0 (k : Nat) (r0 : (List Int) → Int → (List Int) → Int → Int → Int → Option ((List Int))) (x0 : List Int) (x1 : Int) (x5 : List Int) (x6 : Int) (x7 : Int) (x8 : Int) : Option ((List Int)) := if x8 < (x0.length : Int) then (if 0 ≤ x8 then (if x8 < (x0.length : Int) then (if (rd x0 x8) = x1 then (if x6 < 0 then (r0 x0 x1 x5 x8 x8 (wrap64 (x8 + 1))) else (if x5.length + 1 ≤ 1099511627776 then (r0 x0 x1 (x5 ++ [(wrap64 (x8 - x7))]) x6 x8 (wrap64 (x8 + 1))) else (none))) else (r0 x0 x1 x5 x6 x7 (wrap64 (x8 + 1)))) else (none)) else (none)) else (if 0 ≤ x6 then (if x5.length + 1 ≤ 1099511627776 then (some (x5 ++ [(wrap64 ((wrap64 ((x0.length : Int) - x7)) + x6))])) else (none)) else (some x5))
noncomputable def spec_l01Waits.l0 (k : Nat) : Nat → (List Int) → Int → (List Int) → Int → Int → Int → Option ((List Int))
  | 0, _, _, _, _, _, _ => none
  | n + 1, x0, x1, x2, x3, x4, x5 => spec_l01Waits.s0 k (spec_l01Waits.l0 k n) x0 x1 x2 x3 x4 x5
noncomputable def spec_l01Waits.g (k : Nat) (r0 : (List Int) → Int → (List Int) → Int → Int → Int → Option ((List Int))) (l0 : List Int) (a1 : Int) : Option ((List Int)) := r0 l0 a1 [] (-1) (-1) 0
noncomputable def spec_l01Waits.f (k : Nat) (l0 : List Int) (a1 : Int) : Option ((List Int)) := spec_l01Waits.g k (spec_l01Waits.l0 k k) l0 a1
noncomputable def S222 (k : Nat) : Does := ⟨[(false, [.dat (.list (.int .i64))]), (false, [.dat (.int .i64)])], [(false, [.own 2 (.int .i64)])], fun x => spec_l01Waits.f k x.1 x.2⟩
noncomputable def E222 (k : Nat) : En := ⟨tb, orcOf [], lvOf [(0, [(0, []), (1, []), (5, []), (6, []), (7, []), (8, [])])], k, 0, lvOf [], []⟩
noncomputable def n222_0 (x0 : List Int) (x1 : Int) (x5 : List Int) (x6 : Int) (x7 : Int) (x8 : Int) : St := ⟨44, lookA [(0, .dat (.list (.int .i64)) x0), (1, .dat (.int .i64) x1), (5, .own 0), (6, .dat (.int .i64) x6), (7, .dat (.int .i64) x7), (8, .dat (.int .i64) x8)], Go.V.look [(0, .flat 2 (.int .i64) x5)]⟩
def p222_0 : List Bool := [true, true, false, true, false]
theorem r222_0 (k : Nat) (rec : St → Option ((List Int))) (v : (List Int) × Int × (List Int) × Int × Int × Int) : roundF (E222 k) (S222 k) Try.f222 p222_0 [] rec (n222_0 v.1 v.2.1 v.2.2.1 v.2.2.2.1 v.2.2.2.2.1 v.2.2.2.2.2) = spec_l01Waits.s0 k (fun a0 a1 a2 a3 a4 a5 => rec (n222_0 a0 a1 a2 a3 a4 a5)) v.1 v.2.1 v.2.2.1 v.2.2.2.1 v.2.2.2.2.1 v.2.2.2.2.2 := by
  kernel_rfl
theorem q222_0 (k : Nat) (n : Nat) : ∀ v : (List Int) × Int × (List Int) × Int × Int × Int, loopF (E222 k) (S222 k) Try.f222 p222_0 [] n (n222_0 v.1 v.2.1 v.2.2.1 v.2.2.2.1 v.2.2.2.2.1 v.2.2.2.2.2) = spec_l01Waits.l0 k n v.1 v.2.1 v.2.2.1 v.2.2.2.1 v.2.2.2.2.1 v.2.2.2.2.2 :=
  loopF_eq (E222 k) (S222 k) Try.f222 p222_0 [] (fun v : (List Int) × Int × (List Int) × Int × Int × Int => n222_0 v.1 v.2.1 v.2.2.1 v.2.2.2.1 v.2.2.2.2.1 v.2.2.2.2.2) (fun rec v => spec_l01Waits.s0 k (fun a0 a1 a2 a3 a4 a5 => rec (a0, a1, a2, a3, a4, a5)) v.1 v.2.1 v.2.2.1 v.2.2.2.1 v.2.2.2.2.1 v.2.2.2.2.2) (fun n v => spec_l01Waits.l0 k n v.1 v.2.1 v.2.2.1 v.2.2.2.1 v.2.2.2.2.1 v.2.2.2.2.2) (fun _ => rfl) (fun _ _ => rfl) (fun rec v => r222_0 k rec v) n
theorem e222 (k : Nat) (x : dens (flatC (S222 k).ps)) : funK (E222 k) (S222 k) Try.f222 x = (S222 k).fn x := by
  have h : funK (E222 k) (S222 k) Try.f222 x = spec_l01Waits.g k (fun a0 a1 a2 a3 a4 a5 => loopF (E222 k) (S222 k) Try.f222 p222_0 [] k (n222_0 a0 a1 a2 a3 a4 a5)) x.1 x.2 := by kernel_rfl
  rw [h]
  rw [show (fun a0 a1 a2 a3 a4 a5 => loopF (E222 k) (S222 k) Try.f222 p222_0 [] k (n222_0 a0 a1 a2 a3 a4 a5)) = spec_l01Waits.l0 k k from funext fun a0 => funext fun a1 => funext fun a2 => funext fun a3 => funext fun a4 => funext fun a5 => q222_0 k k (a0, a1, a2, a3, a4, a5)]
  rfl
theorem M222 (k : Nat) : Meets Try.prog 222 (S222 k) := meets_of Try.func222 (by kernel_rfl) tbOk orc_nil mixOk (fun x y h => (e222 k x).trans h) rfl

/-! spec_l01Greatest: function 189 -/
noncomputable def spec_l01Greatest.s0 (k : Nat) (r0 : (List Int) → Int → Int → Option (Int)) (x5 : List Int) (x6 : Int) (x7 : Int) : Option (Int) := if x7 < (x5.length : Int) then (if 0 ≤ x7 then (if x7 < (x5.length : Int) then (r0 x5 (maxV x6 (rd x5 x7)) (wrap64 (x7 + 1))) else (none)) else (none)) else (some x6)
noncomputable def spec_l01Greatest.l0 (k : Nat) : Nat → (List Int) → Int → Int → Option (Int)
  | 0, _, _, _ => none
  | n + 1, x0, x1, x2 => spec_l01Greatest.s0 k (spec_l01Greatest.l0 k n) x0 x1 x2
noncomputable def spec_l01Greatest.g (k : Nat) (r0 : (List Int) → Int → Int → Option (Int)) (l0 : List Int) (a1 : Int) : Option (Int) := (spec_l01Waits.f k l0 a1).bind fun t1 => r0 t1 0 0
noncomputable def spec_l01Greatest.f (k : Nat) (l0 : List Int) (a1 : Int) : Option (Int) := spec_l01Greatest.g k (spec_l01Greatest.l0 k k) l0 a1
noncomputable def S189 (k : Nat) : Does := ⟨[(false, [.dat (.list (.int .i64))]), (false, [.dat (.int .i64)])], [(false, [.dat (.int .i64)])], fun x => spec_l01Greatest.f k x.1 x.2⟩
noncomputable def E189 (k : Nat) : En := ⟨tb, orcOf [(222, S222 k)], lvOf [(0, [(5, []), (6, []), (7, [])])], k, 0, lvOf [], []⟩
noncomputable def n189_0 (x5 : List Int) (x6 : Int) (x7 : Int) : St := ⟨24, lookA [(5, .own 0), (6, .dat (.int .i64) x6), (7, .dat (.int .i64) x7)], Go.V.look [(0, .flat 2 (.int .i64) x5)]⟩
def p189_0 : List Bool := [true, true, false, true, false]
theorem r189_0 (k : Nat) (rec : St → Option (Int)) (v : (List Int) × Int × Int) : roundF (E189 k) (S189 k) Try.f189 p189_0 [] rec (n189_0 v.1 v.2.1 v.2.2) = spec_l01Greatest.s0 k (fun a0 a1 a2 => rec (n189_0 a0 a1 a2)) v.1 v.2.1 v.2.2 := by
  kernel_rfl
theorem q189_0 (k : Nat) (n : Nat) : ∀ v : (List Int) × Int × Int, loopF (E189 k) (S189 k) Try.f189 p189_0 [] n (n189_0 v.1 v.2.1 v.2.2) = spec_l01Greatest.l0 k n v.1 v.2.1 v.2.2 :=
  loopF_eq (E189 k) (S189 k) Try.f189 p189_0 [] (fun v : (List Int) × Int × Int => n189_0 v.1 v.2.1 v.2.2) (fun rec v => spec_l01Greatest.s0 k (fun a0 a1 a2 => rec (a0, a1, a2)) v.1 v.2.1 v.2.2) (fun n v => spec_l01Greatest.l0 k n v.1 v.2.1 v.2.2) (fun _ => rfl) (fun _ _ => rfl) (fun rec v => r189_0 k rec v) n
theorem e189 (k : Nat) (x : dens (flatC (S189 k).ps)) : funK (E189 k) (S189 k) Try.f189 x = (S189 k).fn x := by
  have h : funK (E189 k) (S189 k) Try.f189 x = spec_l01Greatest.g k (fun a0 a1 a2 => loopF (E189 k) (S189 k) Try.f189 p189_0 [] k (n189_0 a0 a1 a2)) x.1 x.2 := by kernel_rfl
  rw [h]
  rw [show (fun a0 a1 a2 => loopF (E189 k) (S189 k) Try.f189 p189_0 [] k (n189_0 a0 a1 a2)) = spec_l01Greatest.l0 k k from funext fun a0 => funext fun a1 => funext fun a2 => q189_0 k k (a0, a1, a2)]
  rfl
theorem M189 (k : Nat) : Meets Try.prog 189 (S189 k) := meets_of Try.func189 (by kernel_rfl) tbOk (orc_cons (M222 k) orc_nil) mixOk (fun x y h => (e189 k x).trans h) rfl

/-! spec_l01BadTurns: function 191 -/
noncomputable def spec_l01BadTurns.s0 (k : Nat) (r0 : (List Int) → (List Int) → Int → Int → Option ((List Int) × ((List Int) × Int × Int))) (x5 : List Int) (b0_0 : List Int) (b0_1 : Int) (b0_2 : Int) : Option ((List Int) × ((List Int) × Int × Int)) := if (x5.length : Int) ≤ 120 then (if x5.length + 1 ≤ 1099511627776 then (r0 (x5 ++ [(-1)]) b0_0 b0_1 b0_2) else (none)) else (some (x5, b0_0, b0_1, b0_2))
noncomputable def spec_l01BadTurns.l0 (k : Nat) : Nat → (List Int) → (List Int) → Int → Int → Option ((List Int) × ((List Int) × Int × Int))
  | 0, _, _, _, _ => none
  | n + 1, x0, x1, x2, x3 => spec_l01BadTurns.s0 k (spec_l01BadTurns.l0 k n) x0 x1 x2 x3
noncomputable def spec_l01BadTurns.g (k : Nat) (r0 : (List Int) → (List Int) → Int → Int → Option ((List Int) × ((List Int) × Int × Int))) (a0 : (List Int) × Int × Int) (l1 : List Int) : Option ((List Int) × ((List Int) × Int × Int)) := (spec_l01Own.f l1).bind fun t1 => (spec_l01Next.f (a0.1, a0.2.1, a0.2.2) 40).bind fun t2 => if (decide (t2.1 = 0)) = true then (some ([], t2.2.1, t2.2.2.1, t2.2.2.2)) else (if (decide (t2.1 = 1)) = true then ((spec_l01Next.f (t2.2.1, t2.2.2.1, t2.2.2.2) (t1.length : Int)).bind fun t3 => (spec_l01Pick.f (t3.2.1, t3.2.2.1, t3.2.2.2) [(-2), 8, 1099511627776, 7]).bind fun t4 => if 0 ≤ t3.1 then (if t3.1 < (t1.length : Int) then (some ((t1.set t3.1.toNat t4.1), t4.2.1, t4.2.2.1, t4.2.2.2)) else (none)) else (none)) else (if (decide (t2.1 = 2)) = true then (r0 t1 t2.2.1 t2.2.2.1 t2.2.2.2) else (some (t1, t2.2.1, t2.2.2.1, t2.2.2.2))))
noncomputable def spec_l01BadTurns.f (k : Nat) (a0 : (List Int) × Int × Int) (l1 : List Int) : Option ((List Int) × ((List Int) × Int × Int)) := spec_l01BadTurns.g k (spec_l01BadTurns.l0 k k) a0 l1
noncomputable def S191 (k : Nat) : Does := ⟨[(false, [.cel (.struct (.pair (.list (.int .u8)) (.pair (.int .i64) (.int .u64))))]), (false, [.dat (.list (.int .i64))])], [(false, [.own 2 (.int .i64)])], fun x => spec_l01BadTurns.f k x.1 x.2⟩
noncomputable def E191 (k : Nat) : En := ⟨tb, orcOf [(120, S120 k), (147, S147 k), (136, S136 k)], lvOf [(1, [(5, [])])], k, 1, lvOf [], []⟩
noncomputable def n191_0 (x5 : List Int) (b0_0 : List Int) (b0_1 : Int) (b0_2 : Int) : St := ⟨33, lookA [(5, .own 1)], Go.V.look [(0, .cells [.dat (.list (.int .u8)) b0_0, .dat (.int .i64) b0_1, .dat (.int .u64) b0_2]), (1, .flat 2 (.int .i64) x5)]⟩
def p191_0 : List Bool := [true, true, false, true, false, true, true, true, true, true, false, false]
theorem r191_0 (k : Nat) (rec : St → Option ((List Int) × ((List Int) × Int × Int))) (v : (List Int) × (List Int) × Int × Int) : roundF (E191 k) (S191 k) Try.f191 p191_0 [] rec (n191_0 v.1 v.2.1 v.2.2.1 v.2.2.2) = spec_l01BadTurns.s0 k (fun a0 a1 a2 a3 => rec (n191_0 a0 a1 a2 a3)) v.1 v.2.1 v.2.2.1 v.2.2.2 := by
  kernel_rfl
theorem q191_0 (k : Nat) (n : Nat) : ∀ v : (List Int) × (List Int) × Int × Int, loopF (E191 k) (S191 k) Try.f191 p191_0 [] n (n191_0 v.1 v.2.1 v.2.2.1 v.2.2.2) = spec_l01BadTurns.l0 k n v.1 v.2.1 v.2.2.1 v.2.2.2 :=
  loopF_eq (E191 k) (S191 k) Try.f191 p191_0 [] (fun v : (List Int) × (List Int) × Int × Int => n191_0 v.1 v.2.1 v.2.2.1 v.2.2.2) (fun rec v => spec_l01BadTurns.s0 k (fun a0 a1 a2 a3 => rec (a0, a1, a2, a3)) v.1 v.2.1 v.2.2.1 v.2.2.2) (fun n v => spec_l01BadTurns.l0 k n v.1 v.2.1 v.2.2.1 v.2.2.2) (fun _ => rfl) (fun _ _ => rfl) (fun rec v => r191_0 k rec v) n
theorem e191 (k : Nat) (x : dens (flatC (S191 k).ps)) : funK (E191 k) (S191 k) Try.f191 x = (S191 k).fn x := by
  have h : funK (E191 k) (S191 k) Try.f191 x = spec_l01BadTurns.g k (fun a0 a1 a2 a3 => loopF (E191 k) (S191 k) Try.f191 p191_0 [] k (n191_0 a0 a1 a2 a3)) x.1 x.2 := by kernel_rfl
  rw [h]
  rw [show (fun a0 a1 a2 a3 => loopF (E191 k) (S191 k) Try.f191 p191_0 [] k (n191_0 a0 a1 a2 a3)) = spec_l01BadTurns.l0 k k from funext fun a0 => funext fun a1 => funext fun a2 => funext fun a3 => q191_0 k k (a0, a1, a2, a3)]
  rfl
theorem M191 (k : Nat) : Meets Try.prog 191 (S191 k) := meets_of Try.func191 (by kernel_rfl) tbOk (orc_cons (M120 k) (orc_cons (M147 k) (orc_cons (M136 k) orc_nil))) mixOk (fun x y h => (e191 k x).trans h) rfl

/-! spec_DrawRouteServes: function 84 -/
noncomputable def spec_DrawRouteServes.s0 (k : Nat) (r0 : Int → Int → (List Int) → Int → Int → Int → Int → (List Int) → (List Int) → Int → Option (Int × Int × (List Int) × (List Int))) (x2_0 : Int) (x2_1 : Int) (x5_0 : List Int) (x5_1 : Int) (x5_2 : Int) (x6_0 : Int) (x6_1 : Int) (x7 : List Int) (x8_0 : List Int) (x9 : Int) : Option (Int × Int × (List Int) × (List Int)) := if x9 < x6_0 then ((spec_l01Greatest.f k x7 x9).bind fun t5 => if t5 = 0 then ((spec_l01Next.f (x5_0, x5_1, x5_2) 12).bind fun t6 => if x8_0.length + 1 ≤ 1099511627776 then (r0 x2_0 x2_1 t6.2.1 t6.2.2.1 t6.2.2.2 x6_0 x6_1 x7 (x8_0 ++ [(minV (wrap64 (1 + t6.1)) 40)]) (wrap64 (x9 + 1))) else (none)) else ((spec_l01Next.f (x5_0, x5_1, x5_2) 8).bind fun t7 => if t7.1 = 0 then ((spec_l01Next.f (t7.2.1, t7.2.2.1, t7.2.2.2) 12).bind fun t8 => if x8_0.length + 1 ≤ 1099511627776 then (r0 x2_0 x2_1 t8.2.1 t8.2.2.1 t8.2.2.2 x6_0 x6_1 x7 (x8_0 ++ [(minV (wrap64 (1 + t8.1)) 40)]) (wrap64 (x9 + 1))) else (none)) else (if x8_0.length + 1 ≤ 1099511627776 then (r0 x2_0 x2_1 t7.2.1 t7.2.2.1 t7.2.2.2 x6_0 x6_1 x7 (x8_0 ++ [(minV t5 40)]) (wrap64 (x9 + 1))) else (none)))) else ((spec_l01Next.f (x5_0, x5_1, x5_2) 20).bind fun t9 => if t9.1 = 0 then (if x8_0.length + 1 ≤ 1099511627776 then ((spec_l09Bad.f (t9.2.1, t9.2.2.1, t9.2.2.2) x6_0 x6_1).bind fun t10 => (spec_l01Bad.f k (t10.2.2.1, t10.2.2.2.1, t10.2.2.2.2) (x8_0 ++ [3])).bind fun t11 => (spec_l01BadTurns.f k (t11.2.1, t11.2.2.1, t11.2.2.2) x7).bind fun t12 => some (t10.1, t10.2.1, t11.1, t12.1)) else (none)) else ((spec_l09Bad.f (t9.2.1, t9.2.2.1, t9.2.2.2) x6_0 x6_1).bind fun t13 => (spec_l01Bad.f k (t13.2.2.1, t13.2.2.2.1, t13.2.2.2.2) x8_0).bind fun t14 => (spec_l01BadTurns.f k (t14.2.1, t14.2.2.1, t14.2.2.2) x7).bind fun t15 => some (t13.1, t13.2.1, t14.1, t15.1)))
noncomputable def spec_DrawRouteServes.l0 (k : Nat) : Nat → Int → Int → (List Int) → Int → Int → Int → Int → (List Int) → (List Int) → Int → Option (Int × Int × (List Int) × (List Int))
  | 0, _, _, _, _, _, _, _, _, _, _ => none
  | n + 1, x0, x1, x2, x3, x4, x5, x6, x7, x8, x9 => spec_DrawRouteServes.s0 k (spec_DrawRouteServes.l0 k n) x0 x1 x2 x3 x4 x5 x6 x7 x8 x9
noncomputable def spec_DrawRouteServes.g (k : Nat) (r0 : Int → Int → (List Int) → Int → Int → Int → Int → (List Int) → (List Int) → Int → Option (Int × Int × (List Int) × (List Int))) (l0 : List Int) : Option (Int × Int × (List Int) × (List Int)) := (spec_l01From.f k l0).bind fun t1 => (spec_l01Next.f (t1.1, t1.2.1, t1.2.2) 4).bind fun t2 => (spec_l09DrawOf.f k (t2.2.1, t2.2.2.1, t2.2.2.2) (wrap64 (1 + t2.1))).bind fun t3 => (spec_l09DrawRoute.f k (t3.2.2.1, t3.2.2.2.1, t3.2.2.2.2) t3.1 t3.2.1).bind fun t4 => r0 0 0 t4.2.1 t4.2.2.1 t4.2.2.2 t3.1 t3.2.1 t4.1 [] 0
noncomputable def spec_DrawRouteServes.f (k : Nat) (l0 : List Int) : Option (Int × Int × (List Int) × (List Int)) := spec_DrawRouteServes.g k (spec_DrawRouteServes.l0 k k) l0
noncomputable def S84 (k : Nat) : Does := ⟨[(false, [.dat (.list (.int .u8))])], [(true, [.dat (.int .i64), .dat (.int .i64)]), (true, [.dat (.list (.int .i64))]), (false, [.own 2 (.int .i64)])], fun x => spec_DrawRouteServes.f k x⟩
noncomputable def E84 (k : Nat) : En := ⟨tb, orcOf [(135, S135 k), (147, S147 k), (176, S176 k), (188, S188 k), (189, S189 k), (171, S171 k), (190, S190 k), (191, S191 k)], lvOf [(0, [(2, []), (3, []), (5, []), (6, []), (7, []), (8, []), (9, [])])], k, 0, lvOf [], [1074593794]⟩
noncomputable def n84_0 (x2_0 : Int) (x2_1 : Int) (x5_0 : List Int) (x5_1 : Int) (x5_2 : Int) (x6_0 : Int) (x6_1 : Int) (x7 : List Int) (x8_0 : List Int) (x9 : Int) : St := ⟨66, lookA [(2, .box 0 0), (3, .box 1 0), (5, .box 2 0), (6, .box 3 0), (7, .own 4), (8, .box 5 0), (9, .dat (.int .i64) x9)], Go.V.look [(0, .cells [.dat (.int .i64) x2_0, .dat (.int .i64) x2_1]), (1, .cells [.nil]), (2, .cells [.dat (.list (.int .u8)) x5_0, .dat (.int .i64) x5_1, .dat (.int .u64) x5_2]), (3, .cells [.dat (.int .i64) x6_0, .dat (.int .i64) x6_1]), (4, .flat 2 (.int .i64) x7), (5, .cells [.own 6]), (6, .flat 2 (.int .i64) x8_0)]⟩
def p84_0 : List Bool := [true, true, true, true, false, true, false]
theorem r84_0 (k : Nat) (rec : St → Option (Int × Int × (List Int) × (List Int))) (v : Int × Int × (List Int) × Int × Int × Int × Int × (List Int) × (List Int) × Int) : roundF (E84 k) (S84 k) Try.f84 p84_0 [] rec (n84_0 v.1 v.2.1 v.2.2.1 v.2.2.2.1 v.2.2.2.2.1 v.2.2.2.2.2.1 v.2.2.2.2.2.2.1 v.2.2.2.2.2.2.2.1 v.2.2.2.2.2.2.2.2.1 v.2.2.2.2.2.2.2.2.2) = spec_DrawRouteServes.s0 k (fun a0 a1 a2 a3 a4 a5 a6 a7 a8 a9 => rec (n84_0 a0 a1 a2 a3 a4 a5 a6 a7 a8 a9)) v.1 v.2.1 v.2.2.1 v.2.2.2.1 v.2.2.2.2.1 v.2.2.2.2.2.1 v.2.2.2.2.2.2.1 v.2.2.2.2.2.2.2.1 v.2.2.2.2.2.2.2.2.1 v.2.2.2.2.2.2.2.2.2 := by
  kernel_rfl
theorem q84_0 (k : Nat) (n : Nat) : ∀ v : Int × Int × (List Int) × Int × Int × Int × Int × (List Int) × (List Int) × Int, loopF (E84 k) (S84 k) Try.f84 p84_0 [] n (n84_0 v.1 v.2.1 v.2.2.1 v.2.2.2.1 v.2.2.2.2.1 v.2.2.2.2.2.1 v.2.2.2.2.2.2.1 v.2.2.2.2.2.2.2.1 v.2.2.2.2.2.2.2.2.1 v.2.2.2.2.2.2.2.2.2) = spec_DrawRouteServes.l0 k n v.1 v.2.1 v.2.2.1 v.2.2.2.1 v.2.2.2.2.1 v.2.2.2.2.2.1 v.2.2.2.2.2.2.1 v.2.2.2.2.2.2.2.1 v.2.2.2.2.2.2.2.2.1 v.2.2.2.2.2.2.2.2.2 :=
  loopF_eq (E84 k) (S84 k) Try.f84 p84_0 [] (fun v : Int × Int × (List Int) × Int × Int × Int × Int × (List Int) × (List Int) × Int => n84_0 v.1 v.2.1 v.2.2.1 v.2.2.2.1 v.2.2.2.2.1 v.2.2.2.2.2.1 v.2.2.2.2.2.2.1 v.2.2.2.2.2.2.2.1 v.2.2.2.2.2.2.2.2.1 v.2.2.2.2.2.2.2.2.2) (fun rec v => spec_DrawRouteServes.s0 k (fun a0 a1 a2 a3 a4 a5 a6 a7 a8 a9 => rec (a0, a1, a2, a3, a4, a5, a6, a7, a8, a9)) v.1 v.2.1 v.2.2.1 v.2.2.2.1 v.2.2.2.2.1 v.2.2.2.2.2.1 v.2.2.2.2.2.2.1 v.2.2.2.2.2.2.2.1 v.2.2.2.2.2.2.2.2.1 v.2.2.2.2.2.2.2.2.2) (fun n v => spec_DrawRouteServes.l0 k n v.1 v.2.1 v.2.2.1 v.2.2.2.1 v.2.2.2.2.1 v.2.2.2.2.2.1 v.2.2.2.2.2.2.1 v.2.2.2.2.2.2.2.1 v.2.2.2.2.2.2.2.2.1 v.2.2.2.2.2.2.2.2.2) (fun _ => rfl) (fun _ _ => rfl) (fun rec v => r84_0 k rec v) n
theorem e84 (k : Nat) (x : dens (flatC (S84 k).ps)) : funK (E84 k) (S84 k) Try.f84 x = (S84 k).fn x := by
  have h : funK (E84 k) (S84 k) Try.f84 x = spec_DrawRouteServes.g k (fun a0 a1 a2 a3 a4 a5 a6 a7 a8 a9 => loopF (E84 k) (S84 k) Try.f84 p84_0 [] k (n84_0 a0 a1 a2 a3 a4 a5 a6 a7 a8 a9)) x := by kernel_rfl
  rw [h]
  rw [show (fun a0 a1 a2 a3 a4 a5 a6 a7 a8 a9 => loopF (E84 k) (S84 k) Try.f84 p84_0 [] k (n84_0 a0 a1 a2 a3 a4 a5 a6 a7 a8 a9)) = spec_DrawRouteServes.l0 k k from funext fun a0 => funext fun a1 => funext fun a2 => funext fun a3 => funext fun a4 => funext fun a5 => funext fun a6 => funext fun a7 => funext fun a8 => funext fun a9 => q84_0 k k (a0, a1, a2, a3, a4, a5, a6, a7, a8, a9)]
  rfl
theorem M84 (k : Nat) : Meets Try.prog 84 (S84 k) := meets_of Try.func84 (by kernel_rfl) tbOk (orc_cons (M135 k) (orc_cons (M147 k) (orc_cons (M176 k) (orc_cons (M188 k) (orc_cons (M189 k) (orc_cons (M171 k) (orc_cons (M190 k) (orc_cons (M191 k) orc_nil)))))))) mixOk (fun x y h => (e84 k x).trans h) rfl

/-! spec_l01Turns: function 192 -/
noncomputable def spec_l01Turns.s0 (k : Nat) (r0 : (List Int) → Int → Int → Option (Bool)) (x0 : List Int) (x1 : Int) (x5 : Int) : Option (Bool) := if x5 < (x0.length : Int) then (if 0 ≤ x5 then (if x5 < (x0.length : Int) then ((spec_l01In.f (rd x0 x5) (-1) (wrap64 (x1 - 1))).bind fun t1 => if t1 = true then (r0 x0 x1 (wrap64 (x5 + 1))) else (some false)) else (none)) else (none)) else ((spec_l01In.f (x0.length : Int) 1 120).bind fun t2 => some t2)
noncomputable def spec_l01Turns.l0 (k : Nat) : Nat → (List Int) → Int → Int → Option (Bool)
  | 0, _, _, _ => none
  | n + 1, x0, x1, x2 => spec_l01Turns.s0 k (spec_l01Turns.l0 k n) x0 x1 x2
noncomputable def spec_l01Turns.g (k : Nat) (r0 : (List Int) → Int → Int → Option (Bool)) (l0 : List Int) (a1 : Int) : Option (Bool) := r0 l0 a1 0
noncomputable def spec_l01Turns.f (k : Nat) (l0 : List Int) (a1 : Int) : Option (Bool) := spec_l01Turns.g k (spec_l01Turns.l0 k k) l0 a1
noncomputable def S192 (k : Nat) : Does := ⟨[(false, [.dat (.list (.int .i64))]), (false, [.dat (.int .i64)])], [(false, [.dat .bool])], fun x => spec_l01Turns.f k x.1 x.2⟩
noncomputable def E192 (k : Nat) : En := ⟨tb, orcOf [(102, S102 k)], lvOf [(0, [(0, []), (1, []), (5, [])])], k, 0, lvOf [], []⟩
noncomputable def n192_0 (x0 : List Int) (x1 : Int) (x5 : Int) : St := ⟨23, lookA [(0, .dat (.list (.int .i64)) x0), (1, .dat (.int .i64) x1), (5, .dat (.int .i64) x5)], Go.V.look []⟩
def p192_0 : List Bool := [true, false, true, false]
theorem r192_0 (k : Nat) (rec : St → Option (Bool)) (v : (List Int) × Int × Int) : roundF (E192 k) (S192 k) Try.f192 p192_0 [] rec (n192_0 v.1 v.2.1 v.2.2) = spec_l01Turns.s0 k (fun a0 a1 a2 => rec (n192_0 a0 a1 a2)) v.1 v.2.1 v.2.2 := by
  kernel_rfl
theorem q192_0 (k : Nat) (n : Nat) : ∀ v : (List Int) × Int × Int, loopF (E192 k) (S192 k) Try.f192 p192_0 [] n (n192_0 v.1 v.2.1 v.2.2) = spec_l01Turns.l0 k n v.1 v.2.1 v.2.2 :=
  loopF_eq (E192 k) (S192 k) Try.f192 p192_0 [] (fun v : (List Int) × Int × Int => n192_0 v.1 v.2.1 v.2.2) (fun rec v => spec_l01Turns.s0 k (fun a0 a1 a2 => rec (a0, a1, a2)) v.1 v.2.1 v.2.2) (fun n v => spec_l01Turns.l0 k n v.1 v.2.1 v.2.2) (fun _ => rfl) (fun _ _ => rfl) (fun rec v => r192_0 k rec v) n
theorem e192 (k : Nat) (x : dens (flatC (S192 k).ps)) : funK (E192 k) (S192 k) Try.f192 x = (S192 k).fn x := by
  have h : funK (E192 k) (S192 k) Try.f192 x = spec_l01Turns.g k (fun a0 a1 a2 => loopF (E192 k) (S192 k) Try.f192 p192_0 [] k (n192_0 a0 a1 a2)) x.1 x.2 := by kernel_rfl
  rw [h]
  rw [show (fun a0 a1 a2 => loopF (E192 k) (S192 k) Try.f192 p192_0 [] k (n192_0 a0 a1 a2)) = spec_l01Turns.l0 k k from funext fun a0 => funext fun a1 => funext fun a2 => q192_0 k k (a0, a1, a2)]
  rfl
theorem M192 (k : Nat) : Meets Try.prog 192 (S192 k) := meets_of Try.func192 (by kernel_rfl) tbOk (orc_cons (M102 k) orc_nil) mixOk (fun x y h => (e192 k x).trans h) rfl

/-! spec_l09Route: function 193 -/
noncomputable def spec_l09Route.s0 (k : Nat) (r0 : (List Int) → Int → Int → Int → Int → Option (Bool)) (x1 : List Int) (x2_0 : Int) (x2_1 : Int) (x8 : Int) (x9 : Int) : Option (Bool) := if x9 < x8 then (if (x1.length : Int) = 0 then (none) else (if 0 ≤ (Int.tmod (wrap64 (x9 + 1)) (x1.length : Int)) then (if (Int.tmod (wrap64 (x9 + 1)) (x1.length : Int)) < (x1.length : Int) then (if 0 ≤ x9 then (if x9 < (x1.length : Int) then (if (rd x1 x9) < 0 then (some false) else (if (rd x1 (Int.tmod (wrap64 (x9 + 1)) (x1.length : Int))) < 0 then (some false) else (if 0 ≤ x9 then (if x9 < (x1.length : Int) then ((spec_l09Near.f x2_0 x2_1 (rd x1 x9) (rd x1 (Int.tmod (wrap64 (x9 + 1)) (x1.length : Int)))).bind fun t1 => if t1 = true then (r0 x1 x2_0 x2_1 x8 (wrap64 (x9 + 1))) else (some false)) else (none)) else (none)))) else (none)) else (none)) else (none)) else (none))) else (some true)
noncomputable def spec_l09Route.l0 (k : Nat) : Nat → (List Int) → Int → Int → Int → Int → Option (Bool)
  | 0, _, _, _, _, _ => none
  | n + 1, x0, x1, x2, x3, x4 => spec_l09Route.s0 k (spec_l09Route.l0 k n) x0 x1 x2 x3 x4
noncomputable def spec_l09Route.g (k : Nat) (r0 : (List Int) → Int → Int → Int → Int → Option (Bool)) (a0_0 : Int) (a0_1 : Int) (l1 : List Int) : Option (Bool) := r0 l1 a0_0 a0_1 (l1.length : Int) 0
noncomputable def spec_l09Route.f (k : Nat) (a0_0 : Int) (a0_1 : Int) (l1 : List Int) : Option (Bool) := spec_l09Route.g k (spec_l09Route.l0 k k) a0_0 a0_1 l1
noncomputable def S193 (k : Nat) : Does := ⟨[(true, [.dat (.int .i64), .dat (.int .i64)]), (false, [.dat (.list (.int .i64))])], [(false, [.dat .bool])], fun x => spec_l09Route.f k x.1 x.2.1 x.2.2⟩
noncomputable def E193 (k : Nat) : En := ⟨tb, orcOf [(177, S177 k)], lvOf [(0, [(1, []), (2, []), (8, []), (9, [])])], k, 0, lvOf [], []⟩
noncomputable def n193_0 (x1 : List Int) (x2_0 : Int) (x2_1 : Int) (x8 : Int) (x9 : Int) : St := ⟨40, lookA [(1, .dat (.list (.int .i64)) x1), (2, .box 0 0), (8, .dat (.int .i64) x8), (9, .dat (.int .i64) x9)], Go.V.look [(0, .cells [.dat (.int .i64) x2_0, .dat (.int .i64) x2_1])]⟩
def p193_0 : List Bool := [true, false, true, false]
theorem r193_0 (k : Nat) (rec : St → Option (Bool)) (v : (List Int) × Int × Int × Int × Int) : roundF (E193 k) (S193 k) Try.f193 p193_0 [] rec (n193_0 v.1 v.2.1 v.2.2.1 v.2.2.2.1 v.2.2.2.2) = spec_l09Route.s0 k (fun a0 a1 a2 a3 a4 => rec (n193_0 a0 a1 a2 a3 a4)) v.1 v.2.1 v.2.2.1 v.2.2.2.1 v.2.2.2.2 := by
  kernel_rfl
theorem q193_0 (k : Nat) (n : Nat) : ∀ v : (List Int) × Int × Int × Int × Int, loopF (E193 k) (S193 k) Try.f193 p193_0 [] n (n193_0 v.1 v.2.1 v.2.2.1 v.2.2.2.1 v.2.2.2.2) = spec_l09Route.l0 k n v.1 v.2.1 v.2.2.1 v.2.2.2.1 v.2.2.2.2 :=
  loopF_eq (E193 k) (S193 k) Try.f193 p193_0 [] (fun v : (List Int) × Int × Int × Int × Int => n193_0 v.1 v.2.1 v.2.2.1 v.2.2.2.1 v.2.2.2.2) (fun rec v => spec_l09Route.s0 k (fun a0 a1 a2 a3 a4 => rec (a0, a1, a2, a3, a4)) v.1 v.2.1 v.2.2.1 v.2.2.2.1 v.2.2.2.2) (fun n v => spec_l09Route.l0 k n v.1 v.2.1 v.2.2.1 v.2.2.2.1 v.2.2.2.2) (fun _ => rfl) (fun _ _ => rfl) (fun rec v => r193_0 k rec v) n
theorem e193 (k : Nat) (x : dens (flatC (S193 k).ps)) : funK (E193 k) (S193 k) Try.f193 x = (S193 k).fn x := by
  have h : funK (E193 k) (S193 k) Try.f193 x = spec_l09Route.g k (fun a0 a1 a2 a3 a4 => loopF (E193 k) (S193 k) Try.f193 p193_0 [] k (n193_0 a0 a1 a2 a3 a4)) x.1 x.2.1 x.2.2 := by kernel_rfl
  rw [h]
  rw [show (fun a0 a1 a2 a3 a4 => loopF (E193 k) (S193 k) Try.f193 p193_0 [] k (n193_0 a0 a1 a2 a3 a4)) = spec_l09Route.l0 k k from funext fun a0 => funext fun a1 => funext fun a2 => funext fun a3 => funext fun a4 => q193_0 k k (a0, a1, a2, a3, a4)]
  rfl
theorem M193 (k : Nat) : Meets Try.prog 193 (S193 k) := meets_of Try.func193 (by kernel_rfl) tbOk (orc_cons (M177 k) orc_nil) mixOk (fun x y h => (e193 k x).trans h) rfl

/-! spec_l01Serves: function 194 -/
noncomputable def spec_l01Serves.s0 (k : Nat) (r0 : (List Int) → (List Int) → Int → Option (Bool)) (x1 : List Int) (x2_0 : List Int) (x5 : Int) : Option (Bool) := (spec_l01K.f x2_0).bind fun t1 => if x5 < t1 then ((spec_l01Greatest.f k x1 x5).bind fun t2 => if 0 ≤ x5 then (if x5 < (x2_0.length : Int) then ((spec_l01In.f t2 1 (rd x2_0 x5)).bind fun t3 => if t3 = true then (r0 x1 x2_0 (wrap64 (x5 + 1))) else (some false)) else (none)) else (none)) else (some true)
noncomputable def spec_l01Serves.l0 (k : Nat) : Nat → (List Int) → (List Int) → Int → Option (Bool)
  | 0, _, _, _ => none
  | n + 1, x0, x1, x2 => spec_l01Serves.s0 k (spec_l01Serves.l0 k n) x0 x1 x2
noncomputable def spec_l01Serves.g (k : Nat) (r0 : (List Int) → (List Int) → Int → Option (Bool)) (l0_0 : List Int) (l1 : List Int) : Option (Bool) := r0 l1 l0_0 0
noncomputable def spec_l01Serves.f (k : Nat) (l0_0 : List Int) (l1 : List Int) : Option (Bool) := spec_l01Serves.g k (spec_l01Serves.l0 k k) l0_0 l1
noncomputable def S194 (k : Nat) : Does := ⟨[(true, [.dat (.list (.int .i64))]), (false, [.dat (.list (.int .i64))])], [(false, [.dat .bool])], fun x => spec_l01Serves.f k x.1 x.2⟩
noncomputable def E194 (k : Nat) : En := ⟨tb, orcOf [(142, S142 k), (189, S189 k), (102, S102 k)], lvOf [(0, [(1, []), (2, []), (5, [])])], k, 0, lvOf [], []⟩
noncomputable def n194_0 (x1 : List Int) (x2_0 : List Int) (x5 : Int) : St := ⟨22, lookA [(1, .dat (.list (.int .i64)) x1), (2, .box 0 0), (5, .dat (.int .i64) x5)], Go.V.look [(0, .cells [.dat (.list (.int .i64)) x2_0])]⟩
def p194_0 : List Bool := [true, false, true, false]
theorem r194_0 (k : Nat) (rec : St → Option (Bool)) (v : (List Int) × (List Int) × Int) : roundF (E194 k) (S194 k) Try.f194 p194_0 [] rec (n194_0 v.1 v.2.1 v.2.2) = spec_l01Serves.s0 k (fun a0 a1 a2 => rec (n194_0 a0 a1 a2)) v.1 v.2.1 v.2.2 := by
  kernel_rfl
theorem q194_0 (k : Nat) (n : Nat) : ∀ v : (List Int) × (List Int) × Int, loopF (E194 k) (S194 k) Try.f194 p194_0 [] n (n194_0 v.1 v.2.1 v.2.2) = spec_l01Serves.l0 k n v.1 v.2.1 v.2.2 :=
  loopF_eq (E194 k) (S194 k) Try.f194 p194_0 [] (fun v : (List Int) × (List Int) × Int => n194_0 v.1 v.2.1 v.2.2) (fun rec v => spec_l01Serves.s0 k (fun a0 a1 a2 => rec (a0, a1, a2)) v.1 v.2.1 v.2.2) (fun n v => spec_l01Serves.l0 k n v.1 v.2.1 v.2.2) (fun _ => rfl) (fun _ _ => rfl) (fun rec v => r194_0 k rec v) n
theorem e194 (k : Nat) (x : dens (flatC (S194 k).ps)) : funK (E194 k) (S194 k) Try.f194 x = (S194 k).fn x := by
  have h : funK (E194 k) (S194 k) Try.f194 x = spec_l01Serves.g k (fun a0 a1 a2 => loopF (E194 k) (S194 k) Try.f194 p194_0 [] k (n194_0 a0 a1 a2)) x.1 x.2 := by kernel_rfl
  rw [h]
  rw [show (fun a0 a1 a2 => loopF (E194 k) (S194 k) Try.f194 p194_0 [] k (n194_0 a0 a1 a2)) = spec_l01Serves.l0 k k from funext fun a0 => funext fun a1 => funext fun a2 => q194_0 k k (a0, a1, a2)]
  rfl
theorem M194 (k : Nat) : Meets Try.prog 194 (S194 k) := meets_of Try.func194 (by kernel_rfl) tbOk (orc_cons (M142 k) (orc_cons (M189 k) (orc_cons (M102 k) orc_nil))) mixOk (fun x y h => (e194 k x).trans h) rfl

/-! spec_RouteServes: function 85 -/
noncomputable def spec_RouteServes.f (k : Nat) (a0_0 : Int) (a0_1 : Int) (l1_0 : List Int) (l2 : List Int) : Option (Bool × Int) := (spec_l09Is.f a0_0 a0_1).bind fun t1 => if t1 = true then ((spec_l01Is.f k l1_0).bind fun t2 => if (!decide (t2 = true)) = true then (some (false, 1)) else ((spec_l01K.f l1_0).bind fun t3 => if t3 = a0_0 then ((spec_l01Turns.f k l2 a0_0).bind fun t4 => if (!decide (t4 = true)) = true then (some (false, 2)) else ((spec_l09Route.f k a0_0 a0_1 l2).bind fun t5 => if t5 = true then ((spec_l01Serves.f k l1_0 l2).bind fun t6 => some (t6, 0)) else (some (false, 0)))) else (some (false, 2)))) else (some (false, 1))
noncomputable def S85 (k : Nat) : Does := ⟨[(true, [.dat (.int .i64), .dat (.int .i64)]), (true, [.dat (.list (.int .i64))]), (false, [.dat (.list (.int .i64))])], [(false, [.dat .bool]), (false, [.dat (.int .i64)])], fun x => spec_RouteServes.f k x.1 x.2.1 x.2.2.1 x.2.2.2⟩
noncomputable def E85 (k : Nat) : En := ⟨tb, orcOf [(101, S101 k), (144, S144 k), (142, S142 k), (192, S192 k), (193, S193 k), (194, S194 k)], lvOf [], k, 0, lvOf [], []⟩
theorem e85 (k : Nat) (x : dens (flatC (S85 k).ps)) : funK (E85 k) (S85 k) Try.f85 x = (S85 k).fn x := by
  kernel_rfl
theorem M85 (k : Nat) : Meets Try.prog 85 (S85 k) := meets_of Try.func85 (by kernel_rfl) tbOk (orc_cons (M101 k) (orc_cons (M144 k) (orc_cons (M142 k) (orc_cons (M192 k) (orc_cons (M193 k) (orc_cons (M194 k) orc_nil)))))) mixOk (fun x y h => (e85 k x).trans h) rfl

/-! spec_l09Draw: function 170 -/
noncomputable def spec_l09Draw.f (k : Nat) (a0 : (List Int) × Int × Int) : Option (Int × Int × ((List Int) × Int × Int)) := (spec_l01Next.f (a0.1, a0.2.1, a0.2.2) 6).bind fun t1 => (spec_l09DrawOf.f k (t1.2.1, t1.2.2.1, t1.2.2.2) (wrap64 (1 + t1.1))).bind fun t2 => some (t2.1, t2.2.1, t2.2.2.1, t2.2.2.2.1, t2.2.2.2.2)
noncomputable def S170 (k : Nat) : Does := ⟨[(false, [.cel (.struct (.pair (.list (.int .u8)) (.pair (.int .i64) (.int .u64))))])], [(true, [.dat (.int .i64), .dat (.int .i64)])], fun x => spec_l09Draw.f k x⟩
noncomputable def E170 (k : Nat) : En := ⟨tb, orcOf [(147, S147 k), (176, S176 k)], lvOf [], k, 1, lvOf [], []⟩
theorem e170 (k : Nat) (x : dens (flatC (S170 k).ps)) : funK (E170 k) (S170 k) Try.f170 x = (S170 k).fn x := by
  kernel_rfl
theorem M170 (k : Nat) : Meets Try.prog 170 (S170 k) := meets_of Try.func170 (by kernel_rfl) tbOk (orc_cons (M147 k) (orc_cons (M176 k) orc_nil)) mixOk (fun x y h => (e170 k x).trans h) rfl

/-! spec_DrawIsRoute: function 86 -/
noncomputable def spec_DrawIsRoute.f (k : Nat) (l0 : List Int) : Option (Int × Int × (List Int)) := (spec_l01From.f k l0).bind fun t1 => (spec_l09Draw.f k (t1.1, t1.2.1, t1.2.2)).bind fun t2 => (spec_l09DrawRoute.f k (t2.2.2.1, t2.2.2.2.1, t2.2.2.2.2) t2.1 t2.2.1).bind fun t3 => (spec_l01Next.f (t3.2.1, t3.2.2.1, t3.2.2.2) 6).bind fun t4 => if t4.1 = 0 then ((spec_l01Next.f (t4.2.1, t4.2.2.1, t4.2.2.2) (t3.1.length : Int)).bind fun t5 => (spec_l01Next.f (t5.2.1, t5.2.2.1, t5.2.2.2) (wrap64 (t2.1 + 1))).bind fun t6 => if 0 ≤ t5.1 then (if t5.1 < (t3.1.length : Int) then ((spec_l09Bad.f (t6.2.1, t6.2.2.1, t6.2.2.2) t2.1 t2.2.1).bind fun t7 => (spec_l01BadTurns.f k (t7.2.2.1, t7.2.2.2.1, t7.2.2.2.2) (t3.1.set t5.1.toNat (wrap64 (t6.1 - 1)))).bind fun t8 => some (t7.1, t7.2.1, t8.1)) else (none)) else (none)) else ((spec_l09Bad.f (t4.2.1, t4.2.2.1, t4.2.2.2) t2.1 t2.2.1).bind fun t9 => (spec_l01BadTurns.f k (t9.2.2.1, t9.2.2.2.1, t9.2.2.2.2) t3.1).bind fun t10 => some (t9.1, t9.2.1, t10.1))
noncomputable def S86 (k : Nat) : Does := ⟨[(false, [.dat (.list (.int .u8))])], [(true, [.dat (.int .i64), .dat (.int .i64)]), (false, [.own 2 (.int .i64)])], fun x => spec_DrawIsRoute.f k x⟩
noncomputable def E86 (k : Nat) : En := ⟨tb, orcOf [(135, S135 k), (170, S170 k), (188, S188 k), (147, S147 k), (171, S171 k), (191, S191 k)], lvOf [], k, 0, lvOf [], [1074070080]⟩
theorem e86 (k : Nat) (x : dens (flatC (S86 k).ps)) : funK (E86 k) (S86 k) Try.f86 x = (S86 k).fn x := by
  kernel_rfl
theorem M86 (k : Nat) : Meets Try.prog 86 (S86 k) := meets_of Try.func86 (by kernel_rfl) tbOk (orc_cons (M135 k) (orc_cons (M170 k) (orc_cons (M188 k) (orc_cons (M147 k) (orc_cons (M171 k) (orc_cons (M191 k) orc_nil)))))) mixOk (fun x y h => (e86 k x).trans h) rfl

/-! spec_IsRoute: function 87 -/
noncomputable def spec_IsRoute.f (k : Nat) (a0_0 : Int) (a0_1 : Int) (l1 : List Int) : Option (Bool × Int) := (spec_l09Is.f a0_0 a0_1).bind fun t1 => if (!decide (t1 = true)) = true then (some (false, 1)) else ((spec_l01Turns.f k l1 a0_0).bind fun t2 => if (!decide (t2 = true)) = true then (some (false, 2)) else ((spec_l09Route.f k a0_0 a0_1 l1).bind fun t3 => some (t3, 0)))
noncomputable def S87 (k : Nat) : Does := ⟨[(true, [.dat (.int .i64), .dat (.int .i64)]), (false, [.dat (.list (.int .i64))])], [(false, [.dat .bool]), (false, [.dat (.int .i64)])], fun x => spec_IsRoute.f k x.1 x.2.1 x.2.2⟩
noncomputable def E87 (k : Nat) : En := ⟨tb, orcOf [(101, S101 k), (192, S192 k), (193, S193 k)], lvOf [], k, 0, lvOf [], []⟩
theorem e87 (k : Nat) (x : dens (flatC (S87 k).ps)) : funK (E87 k) (S87 k) Try.f87 x = (S87 k).fn x := by
  kernel_rfl
theorem M87 (k : Nat) : Meets Try.prog 87 (S87 k) := meets_of Try.func87 (by kernel_rfl) tbOk (orc_cons (M101 k) (orc_cons (M192 k) (orc_cons (M193 k) orc_nil))) mixOk (fun x y h => (e87 k x).trans h) rfl

/-! laws_FnRoutes: function 10 -/
noncomputable def laws_FnRoutes.f (k : Nat) (l0 : List Int) : Option (Bool) := (laws_big.f l0).bind fun t1 => if t1 = true then (some true) else ((spec_DrawFirstRoute.f k l0).bind fun t2 => (impl_FirstRoute.f k t2.1 t2.2.1 t2.2.2).bind fun t3 => (spec_FirstRoute.f k t2.1 t2.2.1 t2.2.2).bind fun t4 => (impl_CanWatch.f k t2.1 t2.2.1 t2.2.2).bind fun t5 => (spec_CanWatch.f k t2.1 t2.2.1 t2.2.2).bind fun t6 => (impl_CountSafe.f k t2.1 t2.2.1 t2.2.2).bind fun t7 => (spec_CountSafe.f k t2.1 t2.2.1 t2.2.2).bind fun t8 => if t3.2 = t4.2 then ((laws_likeInts.f k t3.1 t4.1).bind fun t9 => if t9 = true then (if t5.2 = t6.2 then (if t5.1 = t6.1 then (if t7.2 = t8.2 then (if t7.1 = t8.1 then (if t5.2 = 0 then (if t5.1 = (!decide (t3.2 = 4)) then (if (decide (0 < t7.1)) = t5.1 then (if 0 + t2.2.2.length ≤ 1099511627776 then (if 0 < (([] ++ t2.2.2).length : Int) then (if (rd ([] ++ t2.2.2) 0) < 12 then (if 0 < (([] ++ t2.2.2).length : Int) then (if 0 < (([] ++ t2.2.2).length : Int) then ((impl_CanWatch.f k t2.1 t2.2.1 (([] ++ t2.2.2).set (0 : Int).toNat (wrap64 ((rd ([] ++ t2.2.2) 0) + 1)))).bind fun t10 => if t10.2 = 0 then (if t5.1 = true then (if t10.1 = true then (if t3.2 = 0 then ((impl_RouteServes.f k t2.1 t2.2.1 t2.2.2 t3.1).bind fun t11 => (impl_DoServe.f k t2.2.2 t3.1).bind fun t12 => (impl_IsRoute.f k t2.1 t2.2.1 t3.1).bind fun t13 => if t11.2 = 0 then (if t12.2 = 0 then (if t13.2 = 0 then (if t11.1 = true then (if t12.1 = true then (if t13.1 = true then ((spec_DrawRouteServes.f k l0).bind fun t14 => (impl_RouteServes.f k t14.1 t14.2.1 t14.2.2.1 t14.2.2.2).bind fun t15 => (spec_RouteServes.f k t14.1 t14.2.1 t14.2.2.1 t14.2.2.2).bind fun t16 => if t15.2 = t16.2 then (if t15.1 = t16.1 then (if t15.1 = true then ((impl_CanWatch.f k t14.1 t14.2.1 t14.2.2.1).bind fun t17 => if t17.2 = 0 then (if t17.1 = true then ((spec_DrawIsRoute.f k l0).bind fun t18 => (impl_IsRoute.f k t18.1 t18.2.1 t18.2.2).bind fun t19 => (spec_IsRoute.f k t18.1 t18.2.1 t18.2.2).bind fun t20 => if t19.2 = t20.2 then (some (decide (t19.1 = t20.1))) else (some false)) else (some false)) else ((spec_DrawIsRoute.f k l0).bind fun t21 => (impl_IsRoute.f k t21.1 t21.2.1 t21.2.2).bind fun t22 => (spec_IsRoute.f k t21.1 t21.2.1 t21.2.2).bind fun t23 => if t22.2 = t23.2 then (some (decide (t22.1 = t23.1))) else (some false))) else ((spec_DrawIsRoute.f k l0).bind fun t24 => (impl_IsRoute.f k t24.1 t24.2.1 t24.2.2).bind fun t25 => (spec_IsRoute.f k t24.1 t24.2.1 t24.2.2).bind fun t26 => if t25.2 = t26.2 then (some (decide (t25.1 = t26.1))) else (some false))) else (some false)) else (some false)) else (some false)) else (some false)) else (some false)) else (some false)) else (some false)) else (some false)) else ((spec_DrawRouteServes.f k l0).bind fun t27 => (impl_RouteServes.f k t27.1 t27.2.1 t27.2.2.1 t27.2.2.2).bind fun t28 => (spec_RouteServes.f k t27.1 t27.2.1 t27.2.2.1 t27.2.2.2).bind fun t29 => if t28.2 = t29.2 then (if t28.1 = t29.1 then (if t28.1 = true then ((impl_CanWatch.f k t27.1 t27.2.1 t27.2.2.1).bind fun t30 => if t30.2 = 0 then (if t30.1 = true then ((spec_DrawIsRoute.f k l0).bind fun t31 => (impl_IsRoute.f k t31.1 t31.2.1 t31.2.2).bind fun t32 => (spec_IsRoute.f k t31.1 t31.2.1 t31.2.2).bind fun t33 => if t32.2 = t33.2 then (some (decide (t32.1 = t33.1))) else (some false)) else (some false)) else ((spec_DrawIsRoute.f k l0).bind fun t34 => (impl_IsRoute.f k t34.1 t34.2.1 t34.2.2).bind fun t35 => (spec_IsRoute.f k t34.1 t34.2.1 t34.2.2).bind fun t36 => if t35.2 = t36.2 then (some (decide (t35.1 = t36.1))) else (some false))) else ((spec_DrawIsRoute.f k l0).bind fun t37 => (impl_IsRoute.f k t37.1 t37.2.1 t37.2.2).bind fun t38 => (spec_IsRoute.f k t37.1 t37.2.1 t37.2.2).bind fun t39 => if t38.2 = t39.2 then (some (decide (t38.1 = t39.1))) else (some false))) else (some false)) else (some false))) else (some false)) else (if t3.2 = 0 then ((impl_RouteServes.f k t2.1 t2.2.1 t2.2.2 t3.1).bind fun t40 => (impl_DoServe.f k t2.2.2 t3.1).bind fun t41 => (impl_IsRoute.f k t2.1 t2.2.1 t3.1).bind fun t42 => if t40.2 = 0 then (if t41.2 = 0 then (if t42.2 = 0 then (if t40.1 = true then (if t41.1 = true then (if t42.1 = true then ((spec_DrawRouteServes.f k l0).bind fun t43 => (impl_RouteServes.f k t43.1 t43.2.1 t43.2.2.1 t43.2.2.2).bind fun t44 => (spec_RouteServes.f k t43.1 t43.2.1 t43.2.2.1 t43.2.2.2).bind fun t45 => if t44.2 = t45.2 then (if t44.1 = t45.1 then (if t44.1 = true then ((impl_CanWatch.f k t43.1 t43.2.1 t43.2.2.1).bind fun t46 => if t46.2 = 0 then (if t46.1 = true then ((spec_DrawIsRoute.f k l0).bind fun t47 => (impl_IsRoute.f k t47.1 t47.2.1 t47.2.2).bind fun t48 => (spec_IsRoute.f k t47.1 t47.2.1 t47.2.2).bind fun t49 => if t48.2 = t49.2 then (some (decide (t48.1 = t49.1))) else (some false)) else (some false)) else ((spec_DrawIsRoute.f k l0).bind fun t50 => (impl_IsRoute.f k t50.1 t50.2.1 t50.2.2).bind fun t51 => (spec_IsRoute.f k t50.1 t50.2.1 t50.2.2).bind fun t52 => if t51.2 = t52.2 then (some (decide (t51.1 = t52.1))) else (some false))) else ((spec_DrawIsRoute.f k l0).bind fun t53 => (impl_IsRoute.f k t53.1 t53.2.1 t53.2.2).bind fun t54 => (spec_IsRoute.f k t53.1 t53.2.1 t53.2.2).bind fun t55 => if t54.2 = t55.2 then (some (decide (t54.1 = t55.1))) else (some false))) else (some false)) else (some false)) else (some false)) else (some false)) else (some false)) else (some false)) else (some false)) else (some false)) else ((spec_DrawRouteServes.f k l0).bind fun t56 => (impl_RouteServes.f k t56.1 t56.2.1 t56.2.2.1 t56.2.2.2).bind fun t57 => (spec_RouteServes.f k t56.1 t56.2.1 t56.2.2.1 t56.2.2.2).bind fun t58 => if t57.2 = t58.2 then (if t57.1 = t58.1 then (if t57.1 = true then ((impl_CanWatch.f k t56.1 t56.2.1 t56.2.2.1).bind fun t59 => if t59.2 = 0 then (if t59.1 = true then ((spec_DrawIsRoute.f k l0).bind fun t60 => (impl_IsRoute.f k t60.1 t60.2.1 t60.2.2).bind fun t61 => (spec_IsRoute.f k t60.1 t60.2.1 t60.2.2).bind fun t62 => if t61.2 = t62.2 then (some (decide (t61.1 = t62.1))) else (some false)) else (some false)) else ((spec_DrawIsRoute.f k l0).bind fun t63 => (impl_IsRoute.f k t63.1 t63.2.1 t63.2.2).bind fun t64 => (spec_IsRoute.f k t63.1 t63.2.1 t63.2.2).bind fun t65 => if t64.2 = t65.2 then (some (decide (t64.1 = t65.1))) else (some false))) else ((spec_DrawIsRoute.f k l0).bind fun t66 => (impl_IsRoute.f k t66.1 t66.2.1 t66.2.2).bind fun t67 => (spec_IsRoute.f k t66.1 t66.2.1 t66.2.2).bind fun t68 => if t67.2 = t68.2 then (some (decide (t67.1 = t68.1))) else (some false))) else (some false)) else (some false)))) else (if t3.2 = 0 then ((impl_RouteServes.f k t2.1 t2.2.1 t2.2.2 t3.1).bind fun t69 => (impl_DoServe.f k t2.2.2 t3.1).bind fun t70 => (impl_IsRoute.f k t2.1 t2.2.1 t3.1).bind fun t71 => if t69.2 = 0 then (if t70.2 = 0 then (if t71.2 = 0 then (if t69.1 = true then (if t70.1 = true then (if t71.1 = true then ((spec_DrawRouteServes.f k l0).bind fun t72 => (impl_RouteServes.f k t72.1 t72.2.1 t72.2.2.1 t72.2.2.2).bind fun t73 => (spec_RouteServes.f k t72.1 t72.2.1 t72.2.2.1 t72.2.2.2).bind fun t74 => if t73.2 = t74.2 then (if t73.1 = t74.1 then (if t73.1 = true then ((impl_CanWatch.f k t72.1 t72.2.1 t72.2.2.1).bind fun t75 => if t75.2 = 0 then (if t75.1 = true then ((spec_DrawIsRoute.f k l0).bind fun t76 => (impl_IsRoute.f k t76.1 t76.2.1 t76.2.2).bind fun t77 => (spec_IsRoute.f k t76.1 t76.2.1 t76.2.2).bind fun t78 => if t77.2 = t78.2 then (some (decide (t77.1 = t78.1))) else (some false)) else (some false)) else ((spec_DrawIsRoute.f k l0).bind fun t79 => (impl_IsRoute.f k t79.1 t79.2.1 t79.2.2).bind fun t80 => (spec_IsRoute.f k t79.1 t79.2.1 t79.2.2).bind fun t81 => if t80.2 = t81.2 then (some (decide (t80.1 = t81.1))) else (some false))) else ((spec_DrawIsRoute.f k l0).bind fun t82 => (impl_IsRoute.f k t82.1 t82.2.1 t82.2.2).bind fun t83 => (spec_IsRoute.f k t82.1 t82.2.1 t82.2.2).bind fun t84 => if t83.2 = t84.2 then (some (decide (t83.1 = t84.1))) else (some false))) else (some false)) else (some false)) else (some false)) else (some false)) else (some false)) else (some false)) else (some false)) else (some false)) else ((spec_DrawRouteServes.f k l0).bind fun t85 => (impl_RouteServes.f k t85.1 t85.2.1 t85.2.2.1 t85.2.2.2).bind fun t86 => (spec_RouteServes.f k t85.1 t85.2.1 t85.2.2.1 t85.2.2.2).bind fun t87 => if t86.2 = t87.2 then (if t86.1 = t87.1 then (if t86.1 = true then ((impl_CanWatch.f k t85.1 t85.2.1 t85.2.2.1).bind fun t88 => if t88.2 = 0 then (if t88.1 = true then ((spec_DrawIsRoute.f k l0).bind fun t89 => (impl_IsRoute.f k t89.1 t89.2.1 t89.2.2).bind fun t90 => (spec_IsRoute.f k t89.1 t89.2.1 t89.2.2).bind fun t91 => if t90.2 = t91.2 then (some (decide (t90.1 = t91.1))) else (some false)) else (some false)) else ((spec_DrawIsRoute.f k l0).bind fun t92 => (impl_IsRoute.f k t92.1 t92.2.1 t92.2.2).bind fun t93 => (spec_IsRoute.f k t92.1 t92.2.1 t92.2.2).bind fun t94 => if t93.2 = t94.2 then (some (decide (t93.1 = t94.1))) else (some false))) else ((spec_DrawIsRoute.f k l0).bind fun t95 => (impl_IsRoute.f k t95.1 t95.2.1 t95.2.2).bind fun t96 => (spec_IsRoute.f k t95.1 t95.2.1 t95.2.2).bind fun t97 => if t96.2 = t97.2 then (some (decide (t96.1 = t97.1))) else (some false))) else (some false)) else (some false)))) else (none)) else (none)) else (if t3.2 = 0 then ((impl_RouteServes.f k t2.1 t2.2.1 t2.2.2 t3.1).bind fun t98 => (impl_DoServe.f k t2.2.2 t3.1).bind fun t99 => (impl_IsRoute.f k t2.1 t2.2.1 t3.1).bind fun t100 => if t98.2 = 0 then (if t99.2 = 0 then (if t100.2 = 0 then (if t98.1 = true then (if t99.1 = true then (if t100.1 = true then ((spec_DrawRouteServes.f k l0).bind fun t101 => (impl_RouteServes.f k t101.1 t101.2.1 t101.2.2.1 t101.2.2.2).bind fun t102 => (spec_RouteServes.f k t101.1 t101.2.1 t101.2.2.1 t101.2.2.2).bind fun t103 => if t102.2 = t103.2 then (if t102.1 = t103.1 then (if t102.1 = true then ((impl_CanWatch.f k t101.1 t101.2.1 t101.2.2.1).bind fun t104 => if t104.2 = 0 then (if t104.1 = true then ((spec_DrawIsRoute.f k l0).bind fun t105 => (impl_IsRoute.f k t105.1 t105.2.1 t105.2.2).bind fun t106 => (spec_IsRoute.f k t105.1 t105.2.1 t105.2.2).bind fun t107 => if t106.2 = t107.2 then (some (decide (t106.1 = t107.1))) else (some false)) else (some false)) else ((spec_DrawIsRoute.f k l0).bind fun t108 => (impl_IsRoute.f k t108.1 t108.2.1 t108.2.2).bind fun t109 => (spec_IsRoute.f k t108.1 t108.2.1 t108.2.2).bind fun t110 => if t109.2 = t110.2 then (some (decide (t109.1 = t110.1))) else (some false))) else ((spec_DrawIsRoute.f k l0).bind fun t111 => (impl_IsRoute.f k t111.1 t111.2.1 t111.2.2).bind fun t112 => (spec_IsRoute.f k t111.1 t111.2.1 t111.2.2).bind fun t113 => if t112.2 = t113.2 then (some (decide (t112.1 = t113.1))) else (some false))) else (some false)) else (some false)) else (some false)) else (some false)) else (some false)) else (some false)) else (some false)) else (some false)) else ((spec_DrawRouteServes.f k l0).bind fun t114 => (impl_RouteServes.f k t114.1 t114.2.1 t114.2.2.1 t114.2.2.2).bind fun t115 => (spec_RouteServes.f k t114.1 t114.2.1 t114.2.2.1 t114.2.2.2).bind fun t116 => if t115.2 = t116.2 then (if t115.1 = t116.1 then (if t115.1 = true then ((impl_CanWatch.f k t114.1 t114.2.1 t114.2.2.1).bind fun t117 => if t117.2 = 0 then (if t117.1 = true then ((spec_DrawIsRoute.f k l0).bind fun t118 => (impl_IsRoute.f k t118.1 t118.2.1 t118.2.2).bind fun t119 => (spec_IsRoute.f k t118.1 t118.2.1 t118.2.2).bind fun t120 => if t119.2 = t120.2 then (some (decide (t119.1 = t120.1))) else (some false)) else (some false)) else ((spec_DrawIsRoute.f k l0).bind fun t121 => (impl_IsRoute.f k t121.1 t121.2.1 t121.2.2).bind fun t122 => (spec_IsRoute.f k t121.1 t121.2.1 t121.2.2).bind fun t123 => if t122.2 = t123.2 then (some (decide (t122.1 = t123.1))) else (some false))) else ((spec_DrawIsRoute.f k l0).bind fun t124 => (impl_IsRoute.f k t124.1 t124.2.1 t124.2.2).bind fun t125 => (spec_IsRoute.f k t124.1 t124.2.1 t124.2.2).bind fun t126 => if t125.2 = t126.2 then (some (decide (t125.1 = t126.1))) else (some false))) else (some false)) else (some false)))) else (none)) else (none)) else (some false)) else (some false)) else (if t3.2 = 0 then ((impl_RouteServes.f k t2.1 t2.2.1 t2.2.2 t3.1).bind fun t127 => (impl_DoServe.f k t2.2.2 t3.1).bind fun t128 => (impl_IsRoute.f k t2.1 t2.2.1 t3.1).bind fun t129 => if t127.2 = 0 then (if t128.2 = 0 then (if t129.2 = 0 then (if t127.1 = true then (if t128.1 = true then (if t129.1 = true then ((spec_DrawRouteServes.f k l0).bind fun t130 => (impl_RouteServes.f k t130.1 t130.2.1 t130.2.2.1 t130.2.2.2).bind fun t131 => (spec_RouteServes.f k t130.1 t130.2.1 t130.2.2.1 t130.2.2.2).bind fun t132 => if t131.2 = t132.2 then (if t131.1 = t132.1 then (if t131.1 = true then ((impl_CanWatch.f k t130.1 t130.2.1 t130.2.2.1).bind fun t133 => if t133.2 = 0 then (if t133.1 = true then ((spec_DrawIsRoute.f k l0).bind fun t134 => (impl_IsRoute.f k t134.1 t134.2.1 t134.2.2).bind fun t135 => (spec_IsRoute.f k t134.1 t134.2.1 t134.2.2).bind fun t136 => if t135.2 = t136.2 then (some (decide (t135.1 = t136.1))) else (some false)) else (some false)) else ((spec_DrawIsRoute.f k l0).bind fun t137 => (impl_IsRoute.f k t137.1 t137.2.1 t137.2.2).bind fun t138 => (spec_IsRoute.f k t137.1 t137.2.1 t137.2.2).bind fun t139 => if t138.2 = t139.2 then (some (decide (t138.1 = t139.1))) else (some false))) else ((spec_DrawIsRoute.f k l0).bind fun t140 => (impl_IsRoute.f k t140.1 t140.2.1 t140.2.2).bind fun t141 => (spec_IsRoute.f k t140.1 t140.2.1 t140.2.2).bind fun t142 => if t141.2 = t142.2 then (some (decide (t141.1 = t142.1))) else (some false))) else (some false)) else (some false)) else (some false)) else (some false)) else (some false)) else (some false)) else (some false)) else (some false)) else ((spec_DrawRouteServes.f k l0).bind fun t143 => (impl_RouteServes.f k t143.1 t143.2.1 t143.2.2.1 t143.2.2.2).bind fun t144 => (spec_RouteServes.f k t143.1 t143.2.1 t143.2.2.1 t143.2.2.2).bind fun t145 => if t144.2 = t145.2 then (if t144.1 = t145.1 then (if t144.1 = true then ((impl_CanWatch.f k t143.1 t143.2.1 t143.2.2.1).bind fun t146 => if t146.2 = 0 then (if t146.1 = true then ((spec_DrawIsRoute.f k l0).bind fun t147 => (impl_IsRoute.f k t147.1 t147.2.1 t147.2.2).bind fun t148 => (spec_IsRoute.f k t147.1 t147.2.1 t147.2.2).bind fun t149 => if t148.2 = t149.2 then (some (decide (t148.1 = t149.1))) else (some false)) else (some false)) else ((spec_DrawIsRoute.f k l0).bind fun t150 => (impl_IsRoute.f k t150.1 t150.2.1 t150.2.2).bind fun t151 => (spec_IsRoute.f k t150.1 t150.2.1 t150.2.2).bind fun t152 => if t151.2 = t152.2 then (some (decide (t151.1 = t152.1))) else (some false))) else ((spec_DrawIsRoute.f k l0).bind fun t153 => (impl_IsRoute.f k t153.1 t153.2.1 t153.2.2).bind fun t154 => (spec_IsRoute.f k t153.1 t153.2.1 t153.2.2).bind fun t155 => if t154.2 = t155.2 then (some (decide (t154.1 = t155.1))) else (some false))) else (some false)) else (some false)))) else (some false)) else (some false)) else (some false)) else (some false)) else (some false)) else (some false))
noncomputable def S10 (k : Nat) : Does := ⟨[(false, [.dat (.list (.int .u8))])], [(false, [.dat .bool])], fun x => laws_FnRoutes.f k x⟩
noncomputable def E10 (k : Nat) : En := ⟨tb, orcOf [(28, S28 k), (75, S75 k), (76, S76 k), (77, S77 k), (78, S78 k), (79, S79 k), (80, S80 k), (81, S81 k), (32, S32 k), (82, S82 k), (56, S56 k), (83, S83 k), (84, S84 k), (85, S85 k), (86, S86 k), (87, S87 k)], lvOf [], k, 0, lvOf [], []⟩
theorem e10 (k : Nat) (x : dens (flatC (S10 k).ps)) : funK (E10 k) (S10 k) Try.f10 x = (S10 k).fn x := by
  kernel_rfl
theorem M10 (k : Nat) : Meets Try.prog 10 (S10 k) := meets_of Try.func10 (by kernel_rfl) tbOk (orc_cons (M28 k) (orc_cons (M75 k) (orc_cons (M76 k) (orc_cons (M77 k) (orc_cons (M78 k) (orc_cons (M79 k) (orc_cons (M80 k) (orc_cons (M81 k) (orc_cons (M32 k) (orc_cons (M82 k) (orc_cons (M56 k) (orc_cons (M83 k) (orc_cons (M84 k) (orc_cons (M85 k) (orc_cons (M86 k) (orc_cons (M87 k) orc_nil)))))))))))))))) mixOk (fun x y h => (e10 k x).trans h) rfl



end Go.Proofs.Ytcbhhbkghbnljaa.Vf
