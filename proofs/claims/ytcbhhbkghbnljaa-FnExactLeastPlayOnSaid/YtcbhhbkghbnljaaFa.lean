/- What the functions of program, reference and laws give, as plain functions, and that they meet them (part 1). Conditions: none. Written by a program of my own (vp.py). -/
import Derived.Test.YtcbhhbkghbnljaaVc
import Derived.Test.YtcbhhbkghbnljaaProg
set_option linter.unusedVariables false
set_option maxRecDepth 100000
namespace Go.Proofs.Ytcbhhbkghbnljaa.Vf
open Go Go.V Go.RowKit Go.Proofs
def tbl : List (Nat × TI) := [(1, ⟨.fn, 1, 8, [.nilFunc]⟩), (2, ⟨.int .i64, 1, 8, [.int .i64 0]⟩), (3, ⟨.int .i64, 1, 8, [.int .i64 0]⟩), (4, ⟨.bool, 1, 1, [.bool false]⟩), (5, ⟨.int .u8, 1, 1, [.int .u8 0]⟩), (6, ⟨.int .u8, 1, 1, [.int .u8 0]⟩), (7, ⟨.struct [(0, 2), (1, 3), (2, 4), (3, 6)], 4, 24, [.int .i64 0, .int .i64 0, .bool false, .int .u8 0]⟩), (8, ⟨.struct [(0, 2), (1, 3), (2, 4), (3, 6)], 4, 24, [.int .i64 0, .int .i64 0, .bool false, .int .u8 0]⟩), (9, ⟨.str, 1, 16, [.string ByteArray.empty]⟩), (10, ⟨.str, 1, 16, [.string ByteArray.empty]⟩), (11, ⟨.str, 1, 16, [.string ByteArray.empty]⟩), (12, ⟨.int .u64, 1, 8, [.int .u64 0]⟩), (13, ⟨.struct [(0, 9), (1, 12)], 2, 24, [.string ByteArray.empty, .int .u64 0]⟩), (14, ⟨.struct [(0, 9), (1, 12)], 2, 24, [.string ByteArray.empty, .int .u64 0]⟩), (15, ⟨.ptr 212, 1, 8, [.pointer none]⟩), (16, ⟨.ptr 215, 1, 8, [.pointer none]⟩), (17, ⟨.ptr 224, 1, 8, [.pointer none]⟩), (18, ⟨.struct [(0, 17)], 1, 8, [.pointer none]⟩), (19, ⟨.struct [(0, 17)], 1, 8, [.pointer none]⟩), (21, ⟨.int .i32, 1, 4, [.int .i32 0]⟩), (22, ⟨.struct [(0, 2), (1, 2)], 2, 16, [.int .i64 0, .int .i64 0]⟩), (23, ⟨.struct [(0, 2), (1, 2)], 2, 16, [.int .i64 0, .int .i64 0]⟩), (25, ⟨.fn, 1, 8, [.nilFunc]⟩), (26, ⟨.struct [(0, 2), (1, 2)], 2, 16, [.int .i64 0, .int .i64 0]⟩), (27, ⟨.fn, 1, 8, [.nilFunc]⟩), (28, ⟨.fn, 1, 8, [.nilFunc]⟩), (29, ⟨.slice 2, 1, 24, [.slice none 0 0]⟩), (30, ⟨.struct [(0, 29)], 1, 24, [.slice none 0 0]⟩), (31, ⟨.struct [(0, 29)], 1, 24, [.slice none 0 0]⟩), (32, ⟨.fn, 1, 8, [.nilFunc]⟩), (34, ⟨.fn, 1, 8, [.nilFunc]⟩), (35, ⟨.struct [(0, 29)], 1, 24, [.slice none 0 0]⟩), (36, ⟨.fn, 1, 8, [.nilFunc]⟩), (37, ⟨.fn, 1, 8, [.nilFunc]⟩), (38, ⟨.fn, 1, 8, [.nilFunc]⟩), (39, ⟨.fn, 1, 8, [.nilFunc]⟩), (40, ⟨.fn, 1, 8, [.nilFunc]⟩), (42, ⟨.fn, 1, 8, [.nilFunc]⟩), (43, ⟨.fn, 1, 8, [.nilFunc]⟩), (44, ⟨.fn, 1, 8, [.nilFunc]⟩), (45, ⟨.fn, 1, 8, [.nilFunc]⟩), (46, ⟨.slice 5, 1, 24, [.slice none 0 0]⟩), (47, ⟨.fn, 1, 8, [.nilFunc]⟩), (49, ⟨.fn, 1, 8, [.nilFunc]⟩), (51, ⟨.fn, 1, 8, [.nilFunc]⟩), (52, ⟨.fn, 1, 8, [.nilFunc]⟩), (54, ⟨.fn, 1, 8, [.nilFunc]⟩), (55, ⟨.fn, 1, 8, [.nilFunc]⟩), (56, ⟨.fn, 1, 8, [.nilFunc]⟩), (58, ⟨.fn, 1, 8, [.nilFunc]⟩), (59, ⟨.fn, 1, 8, [.nilFunc]⟩), (60, ⟨.fn, 1, 8, [.nilFunc]⟩), (61, ⟨.fn, 1, 8, [.nilFunc]⟩), (63, ⟨.fn, 1, 8, [.nilFunc]⟩), (64, ⟨.fn, 1, 8, [.nilFunc]⟩), (65, ⟨.fn, 1, 8, [.nilFunc]⟩), (67, ⟨.fn, 1, 8, [.nilFunc]⟩), (68, ⟨.fn, 1, 8, [.nilFunc]⟩), (69, ⟨.fn, 1, 8, [.nilFunc]⟩), (70, ⟨.fn, 1, 8, [.nilFunc]⟩), (71, ⟨.fn, 1, 8, [.nilFunc]⟩), (72, ⟨.fn, 1, 8, [.nilFunc]⟩), (74, ⟨.fn, 1, 8, [.nilFunc]⟩), (76, ⟨.fn, 1, 8, [.nilFunc]⟩), (77, ⟨.fn, 1, 8, [.nilFunc]⟩), (78, ⟨.fn, 1, 8, [.nilFunc]⟩), (79, ⟨.fn, 1, 8, [.nilFunc]⟩), (80, ⟨.fn, 1, 8, [.nilFunc]⟩), (81, ⟨.fn, 1, 8, [.nilFunc]⟩), (83, ⟨.fn, 1, 8, [.nilFunc]⟩), (85, ⟨.fn, 1, 8, [.nilFunc]⟩), (86, ⟨.slice 29, 1, 24, [.slice none 0 0]⟩), (88, ⟨.fn, 1, 8, [.nilFunc]⟩), (89, ⟨.fn, 1, 8, [.nilFunc]⟩), (91, ⟨.fn, 1, 8, [.nilFunc]⟩), (92, ⟨.fn, 1, 8, [.nilFunc]⟩), (94, ⟨.fn, 1, 8, [.nilFunc]⟩), (95, ⟨.fn, 1, 8, [.nilFunc]⟩), (96, ⟨.fn, 1, 8, [.nilFunc]⟩), (97, ⟨.fn, 1, 8, [.nilFunc]⟩), (98, ⟨.fn, 1, 8, [.nilFunc]⟩), (99, ⟨.fn, 1, 8, [.nilFunc]⟩), (100, ⟨.fn, 1, 8, [.nilFunc]⟩), (101, ⟨.slice 4, 1, 24, [.slice none 0 0]⟩), (102, ⟨.fn, 1, 8, [.nilFunc]⟩), (103, ⟨.fn, 1, 8, [.nilFunc]⟩), (104, ⟨.fn, 1, 8, [.nilFunc]⟩), (105, ⟨.fn, 1, 8, [.nilFunc]⟩), (106, ⟨.fn, 1, 8, [.nilFunc]⟩), (107, ⟨.fn, 1, 8, [.nilFunc]⟩), (108, ⟨.fn, 1, 8, [.nilFunc]⟩), (109, ⟨.fn, 1, 8, [.nilFunc]⟩), (110, ⟨.fn, 1, 8, [.nilFunc]⟩), (111, ⟨.ptr 188, 1, 8, [.pointer none]⟩), (112, ⟨.fn, 1, 8, [.nilFunc]⟩), (113, ⟨.fn, 1, 8, [.nilFunc]⟩), (114, ⟨.fn, 1, 8, [.nilFunc]⟩), (115, ⟨.fn, 1, 8, [.nilFunc]⟩), (117, ⟨.fn, 1, 8, [.nilFunc]⟩), (118, ⟨.map 2 3, 1, 8, [.map none]⟩), (119, ⟨.fn, 1, 8, [.nilFunc]⟩), (121, ⟨.struct [(0, 2), (1, 2)], 2, 16, [.int .i64 0, .int .i64 0]⟩), (122, ⟨.struct [(0, 2), (1, 2)], 2, 16, [.int .i64 0, .int .i64 0]⟩), (124, ⟨.fn, 1, 8, [.nilFunc]⟩), (125, ⟨.fn, 1, 8, [.nilFunc]⟩), (126, ⟨.ptr 130, 1, 8, [.pointer none]⟩), (127, ⟨.fn, 1, 8, [.nilFunc]⟩), (128, ⟨.slice 145, 1, 24, [.slice none 0 0]⟩), (129, ⟨.struct [(0, 35), (1, 128), (2, 101)], 3, 72, [.slice none 0 0, .slice none 0 0, .slice none 0 0]⟩), (130, ⟨.struct [(0, 35), (1, 128), (2, 101)], 3, 72, [.slice none 0 0, .slice none 0 0, .slice none 0 0]⟩), (131, ⟨.fn, 1, 8, [.nilFunc]⟩), (132, ⟨.fn, 1, 8, [.nilFunc]⟩), (133, ⟨.fn, 1, 8, [.nilFunc]⟩), (134, ⟨.fn, 1, 8, [.nilFunc]⟩), (135, ⟨.ptr 193, 1, 8, [.pointer none]⟩), (136, ⟨.fn, 1, 8, [.nilFunc]⟩), (137, ⟨.fn, 1, 8, [.nilFunc]⟩), (138, ⟨.fn, 1, 8, [.nilFunc]⟩), (140, ⟨.fn, 1, 8, [.nilFunc]⟩), (141, ⟨.fn, 1, 8, [.nilFunc]⟩), (142, ⟨.fn, 1, 8, [.nilFunc]⟩), (143, ⟨.fn, 1, 8, [.nilFunc]⟩), (145, ⟨.map 2 2, 1, 8, [.map none]⟩), (146, ⟨.fn, 1, 8, [.nilFunc]⟩), (148, ⟨.fn, 1, 8, [.nilFunc]⟩), (149, ⟨.fn, 1, 8, [.nilFunc]⟩), (150, ⟨.fn, 1, 8, [.nilFunc]⟩), (151, ⟨.fn, 1, 8, [.nilFunc]⟩), (152, ⟨.fn, 1, 8, [.nilFunc]⟩), (153, ⟨.fn, 1, 8, [.nilFunc]⟩), (154, ⟨.fn, 1, 8, [.nilFunc]⟩), (155, ⟨.fn, 1, 8, [.nilFunc]⟩), (156, ⟨.fn, 1, 8, [.nilFunc]⟩), (157, ⟨.fn, 1, 8, [.nilFunc]⟩), (158, ⟨.fn, 1, 8, [.nilFunc]⟩), (159, ⟨.fn, 1, 8, [.nilFunc]⟩), (160, ⟨.fn, 1, 8, [.nilFunc]⟩), (161, ⟨.fn, 1, 8, [.nilFunc]⟩), (162, ⟨.int .u64, 1, 8, [.int .u64 0]⟩), (163, ⟨.fn, 1, 8, [.nilFunc]⟩), (164, ⟨.ptr 170, 1, 8, [.pointer none]⟩), (166, ⟨.fn, 1, 8, [.nilFunc]⟩), (167, ⟨.fn, 1, 8, [.nilFunc]⟩), (168, ⟨.fn, 1, 8, [.nilFunc]⟩), (169, ⟨.struct [(0, 26), (2, 35), (3, 86), (4, 101)], 5, 88, [.int .i64 0, .int .i64 0, .slice none 0 0, .slice none 0 0, .slice none 0 0]⟩), (170, ⟨.struct [(0, 26), (2, 35), (3, 86), (4, 101)], 5, 88, [.int .i64 0, .int .i64 0, .slice none 0 0, .slice none 0 0, .slice none 0 0]⟩), (171, ⟨.fn, 1, 8, [.nilFunc]⟩), (172, ⟨.fn, 1, 8, [.nilFunc]⟩), (173, ⟨.fn, 1, 8, [.nilFunc]⟩), (174, ⟨.fn, 1, 8, [.nilFunc]⟩), (175, ⟨.fn, 1, 8, [.nilFunc]⟩), (176, ⟨.fn, 1, 8, [.nilFunc]⟩), (177, ⟨.fn, 1, 8, [.nilFunc]⟩), (178, ⟨.fn, 1, 8, [.nilFunc]⟩), (179, ⟨.fn, 1, 8, [.nilFunc]⟩), (180, ⟨.fn, 1, 8, [.nilFunc]⟩), (181, ⟨.slice 3, 1, 24, [.slice none 0 0]⟩), (182, ⟨.fn, 1, 8, [.nilFunc]⟩), (183, ⟨.int .u64, 1, 8, [.int .u64 0]⟩), (185, ⟨.fn, 1, 8, [.nilFunc]⟩), (186, ⟨.slice 189, 1, 24, [.slice none 0 0]⟩), (187, ⟨.struct [(0, 186), (1, 101)], 2, 48, [.slice none 0 0, .slice none 0 0]⟩), (188, ⟨.struct [(0, 186), (1, 101)], 2, 48, [.slice none 0 0, .slice none 0 0]⟩), (189, ⟨.slice 122, 1, 24, [.slice none 0 0]⟩), (190, ⟨.fn, 1, 8, [.nilFunc]⟩), (191, ⟨.fn, 1, 8, [.nilFunc]⟩), (192, ⟨.struct [(0, 46), (1, 3), (2, 162)], 3, 40, [.slice none 0 0, .int .i64 0, .int .u64 0]⟩), (193, ⟨.struct [(0, 46), (1, 3), (2, 162)], 3, 40, [.slice none 0 0, .int .i64 0, .int .u64 0]⟩), (194, ⟨.fn, 1, 8, [.nilFunc]⟩), (195, ⟨.fn, 1, 8, [.nilFunc]⟩), (196, ⟨.fn, 1, 8, [.nilFunc]⟩), (197, ⟨.fn, 1, 8, [.nilFunc]⟩), (198, ⟨.fn, 1, 8, [.nilFunc]⟩), (199, ⟨.fn, 1, 8, [.nilFunc]⟩), (200, ⟨.int .u32, 1, 4, [.int .u32 0]⟩), (202, ⟨.fn, 1, 8, [.nilFunc]⟩), (204, ⟨.fn, 1, 8, [.nilFunc]⟩), (205, ⟨.fn, 1, 8, [.nilFunc]⟩), (206, ⟨.fn, 1, 8, [.nilFunc]⟩), (207, ⟨.fn, 1, 8, [.nilFunc]⟩), (208, ⟨.fn, 1, 8, [.nilFunc]⟩), (209, ⟨.fn, 1, 8, [.nilFunc]⟩), (210, ⟨.fn, 1, 8, [.nilFunc]⟩), (211, ⟨.struct [(0, 17), (1, 17), (2, 17), (3, 9)], 4, 40, [.pointer none, .pointer none, .pointer none, .string ByteArray.empty]⟩), (212, ⟨.struct [(0, 17), (1, 17), (2, 17), (3, 9)], 4, 40, [.pointer none, .pointer none, .pointer none, .string ByteArray.empty]⟩), (214, ⟨.struct [(0, 213)], 0, 0, []⟩), (215, ⟨.struct [(0, 213)], 0, 0, []⟩), (216, ⟨.fn, 1, 8, [.nilFunc]⟩), (217, ⟨.int .u8, 1, 1, [.int .u8 0]⟩), (218, ⟨.int .u8, 1, 1, [.int .u8 0]⟩), (219, ⟨.fn, 1, 8, [.nilFunc]⟩), (220, ⟨.ptr 5, 1, 8, [.pointer none]⟩), (221, ⟨.int .i32, 1, 4, [.int .i32 0]⟩), (222, ⟨.int .i32, 1, 4, [.int .i32 0]⟩), (223, ⟨.struct [(0, 12), (1, 12), (2, 200), (3, 217), (4, 5), (5, 5), (6, 218), (7, 219), (8, 220), (9, 221), (10, 222)], 11, 48, [.int .u64 0, .int .u64 0, .int .u32 0, .int .u8 0, .int .u8 0, .int .u8 0, .int .u8 0, .nilFunc, .pointer none, .int .i32 0, .int .i32 0]⟩), (224, ⟨.struct [(0, 12), (1, 12), (2, 200), (3, 217), (4, 5), (5, 5), (6, 218), (7, 219), (8, 220), (9, 221), (10, 222)], 11, 48, [.int .u64 0, .int .u64 0, .int .u32 0, .int .u8 0, .int .u8 0, .int .u8 0, .int .u8 0, .nilFunc, .pointer none, .int .i32 0, .int .i32 0]⟩)]
def tb : TypeId → Option TI := Go.V.look tbl
theorem tbEq : tbl.map (fun p => entryOf Try.prog p.1) = tbl.map (fun p => some p.2) := by kernel_rfl
theorem tbOk : TbOK Try.prog tb := tb_of tbEq
theorem mixOk : Try.prog.follows .mixedOrders = true := by kernel_rfl

/-! laws_szInt64S: function 110 -/
noncomputable def laws_szInt64S.f (l0 : List Int) (a1 : Int) : Option (Int) := if (wrap64 (a1 - (l0.length : Int))) < 0 then (some (-1)) else (some (wrap64 (a1 - (l0.length : Int))))
noncomputable def S110 (k : Nat) : Does := ⟨[(false, [.dat (.list (.int .i64))]), (false, [.dat (.int .i64)])], [(false, [.dat (.int .i64)])], fun x => laws_szInt64S.f x.1 x.2⟩
noncomputable def E110 (k : Nat) : En := ⟨tb, orcOf [], lvOf [], k, 0, lvOf [], []⟩
theorem e110 (k : Nat) (x : dens (flatC (S110 k).ps)) : funK (E110 k) (S110 k) Try.f110 x = (S110 k).fn x := by
  kernel_rfl
theorem M110 (k : Nat) : Meets Try.prog 110 (S110 k) := meets_of Try.func110 (by kernel_rfl) tbOk orc_nil mixOk (fun x y h => (e110 k x).trans h) rfl

/-! laws_szTasks: function 15 -/
noncomputable def laws_szTasks.f (l0_0 : List Int) (a1 : Int) : Option (Int) := (laws_szInt64S.f l0_0 a1).bind fun t1 => if t1 < 0 then (some (-1)) else (some t1)
noncomputable def S15 (k : Nat) : Does := ⟨[(true, [.dat (.list (.int .i64))]), (false, [.dat (.int .i64)])], [(false, [.dat (.int .i64)])], fun x => laws_szTasks.f x.1 x.2⟩
noncomputable def E15 (k : Nat) : En := ⟨tb, orcOf [(110, S110 k)], lvOf [], k, 0, lvOf [], []⟩
theorem e15 (k : Nat) (x : dens (flatC (S15 k).ps)) : funK (E15 k) (S15 k) Try.f15 x = (S15 k).fn x := by
  kernel_rfl
theorem M15 (k : Nat) : Meets Try.prog 15 (S15 k) := meets_of Try.func15 (by kernel_rfl) tbOk (orc_cons (M110 k) orc_nil) mixOk (fun x y h => (e15 k x).trans h) rfl

/-! laws_toInt64S: function 114 -/
noncomputable def laws_toInt64S.s0 (k : Nat) (r0 : (List Int) → (List Int) → Int → Option ((List Int))) (x0 : List Int) (x3 : List Int) (x4 : Int) : Option ((List Int)) := if x4 < (x0.length : Int) then (if 0 ≤ x4 then (if x4 < (x0.length : Int) then (if 0 ≤ x4 then (if x4 < (x3.length : Int) then (r0 x0 (x3.set x4.toNat (rd x0 x4)) (wrap64 (x4 + 1))) else (none)) else (none)) else (none)) else (none)) else (some x3)
noncomputable def laws_toInt64S.l0 (k : Nat) : Nat → (List Int) → (List Int) → Int → Option ((List Int))
  | 0, _, _, _ => none
  | n + 1, x0, x1, x2 => laws_toInt64S.s0 k (laws_toInt64S.l0 k n) x0 x1 x2
noncomputable def laws_toInt64S.g (k : Nat) (r0 : (List Int) → (List Int) → Int → Option ((List Int))) (l0 : List Int) : Option ((List Int)) := if 0 ≤ (l0.length : Int) then (if (l0.length : Int) ≤ (l0.length : Int) then (if (l0.length : Int).toNat ≤ 1099511627776 then (r0 l0 (List.replicate (l0.length : Int).toNat (0 : Int)) 0) else (none)) else (none)) else (none)
noncomputable def laws_toInt64S.f (k : Nat) (l0 : List Int) : Option ((List Int)) := laws_toInt64S.g k (laws_toInt64S.l0 k k) l0
noncomputable def S114 (k : Nat) : Does := ⟨[(false, [.dat (.list (.int .i64))])], [(false, [.own 2 (.int .i64)])], fun x => laws_toInt64S.f k x⟩
noncomputable def E114 (k : Nat) : En := ⟨tb, orcOf [], lvOf [(0, [(0, []), (3, []), (4, [])])], k, 0, lvOf [], []⟩
noncomputable def n114_0 (x0 : List Int) (x3 : List Int) (x4 : Int) : St := ⟨22, lookA [(0, .dat (.list (.int .i64)) x0), (3, .own 0), (4, .dat (.int .i64) x4)], Go.V.look [(0, .flat 2 (.int .i64) x3)]⟩
def p114_0 : List Bool := [true, true, false, true, false]
theorem r114_0 (k : Nat) (rec : St → Option ((List Int))) (v : (List Int) × (List Int) × Int) : roundF (E114 k) (S114 k) Try.f114 p114_0 [] rec (n114_0 v.1 v.2.1 v.2.2) = laws_toInt64S.s0 k (fun a0 a1 a2 => rec (n114_0 a0 a1 a2)) v.1 v.2.1 v.2.2 := by
  kernel_rfl
theorem q114_0 (k : Nat) (n : Nat) : ∀ v : (List Int) × (List Int) × Int, loopF (E114 k) (S114 k) Try.f114 p114_0 [] n (n114_0 v.1 v.2.1 v.2.2) = laws_toInt64S.l0 k n v.1 v.2.1 v.2.2 :=
  loopF_eq (E114 k) (S114 k) Try.f114 p114_0 [] (fun v : (List Int) × (List Int) × Int => n114_0 v.1 v.2.1 v.2.2) (fun rec v => laws_toInt64S.s0 k (fun a0 a1 a2 => rec (a0, a1, a2)) v.1 v.2.1 v.2.2) (fun n v => laws_toInt64S.l0 k n v.1 v.2.1 v.2.2) (fun _ => rfl) (fun _ _ => rfl) (fun rec v => r114_0 k rec v) n
theorem e114 (k : Nat) (x : dens (flatC (S114 k).ps)) : funK (E114 k) (S114 k) Try.f114 x = (S114 k).fn x := by
  have h : funK (E114 k) (S114 k) Try.f114 x = laws_toInt64S.g k (fun a0 a1 a2 => loopF (E114 k) (S114 k) Try.f114 p114_0 [] k (n114_0 a0 a1 a2)) x := by kernel_rfl
  rw [h]
  rw [show (fun a0 a1 a2 => loopF (E114 k) (S114 k) Try.f114 p114_0 [] k (n114_0 a0 a1 a2)) = laws_toInt64S.l0 k k from funext fun a0 => funext fun a1 => funext fun a2 => q114_0 k k (a0, a1, a2)]
  rfl
theorem M114 (k : Nat) : Meets Try.prog 114 (S114 k) := meets_of Try.func114 (by kernel_rfl) tbOk orc_nil mixOk (fun x y h => (e114 k x).trans h) rfl

/-! laws_toTasks: function 17 -/
noncomputable def laws_toTasks.f (k : Nat) (l0_0 : List Int) : Option ((List Int)) := (laws_toInt64S.f k l0_0).bind fun t1 => some t1
noncomputable def S17 (k : Nat) : Does := ⟨[(true, [.dat (.list (.int .i64))])], [(true, [.own 2 (.int .i64)])], fun x => laws_toTasks.f k x⟩
noncomputable def E17 (k : Nat) : En := ⟨tb, orcOf [(114, S114 k)], lvOf [], k, 0, lvOf [], []⟩
theorem e17 (k : Nat) (x : dens (flatC (S17 k).ps)) : funK (E17 k) (S17 k) Try.f17 x = (S17 k).fn x := by
  kernel_rfl
theorem M17 (k : Nat) : Meets Try.prog 17 (S17 k) := meets_of Try.func17 (by kernel_rfl) tbOk (orc_cons (M114 k) orc_nil) mixOk (fun x y h => (e17 k x).trans h) rfl

/-! spec_l01In: function 102 -/
noncomputable def spec_l01In.f (a0 : Int) (a1 : Int) (a2 : Int) : Option (Bool) := if a1 ≤ a0 then (some (decide (a0 ≤ a2))) else (some false)
noncomputable def S102 (k : Nat) : Does := ⟨[(false, [.dat (.int .i64)]), (false, [.dat (.int .i64)]), (false, [.dat (.int .i64)])], [(false, [.dat .bool])], fun x => spec_l01In.f x.1 x.2.1 x.2.2⟩
noncomputable def E102 (k : Nat) : En := ⟨tb, orcOf [], lvOf [], k, 0, lvOf [], []⟩
theorem e102 (k : Nat) (x : dens (flatC (S102 k).ps)) : funK (E102 k) (S102 k) Try.f102 x = (S102 k).fn x := by
  kernel_rfl
theorem M102 (k : Nat) : Meets Try.prog 102 (S102 k) := meets_of Try.func102 (by kernel_rfl) tbOk orc_nil mixOk (fun x y h => (e102 k x).trans h) rfl

/-! spec_l01K: function 142 -/
noncomputable def spec_l01K.f (l0_0 : List Int) : Option (Int) := some (l0_0.length : Int)
noncomputable def S142 (k : Nat) : Does := ⟨[(true, [.dat (.list (.int .i64))])], [(false, [.dat (.int .i64)])], fun x => spec_l01K.f x⟩
noncomputable def E142 (k : Nat) : En := ⟨tb, orcOf [], lvOf [], k, 0, lvOf [], []⟩
theorem e142 (k : Nat) (x : dens (flatC (S142 k).ps)) : funK (E142 k) (S142 k) Try.f142 x = (S142 k).fn x := by
  kernel_rfl
theorem M142 (k : Nat) : Meets Try.prog 142 (S142 k) := meets_of Try.func142 (by kernel_rfl) tbOk orc_nil mixOk (fun x y h => (e142 k x).trans h) rfl

/-! spec_l01Is: function 144 -/
noncomputable def spec_l01Is.s0 (k : Nat) (r0 : (List Int) → Int → Option (Bool)) (x1_0 : List Int) (x3 : Int) : Option (Bool) := if x3 < (x1_0.length : Int) then (if 0 ≤ x3 then (if x3 < (x1_0.length : Int) then ((spec_l01In.f (rd x1_0 x3) 1 40).bind fun t1 => if t1 = true then (r0 x1_0 (wrap64 (x3 + 1))) else (some false)) else (none)) else (none)) else ((spec_l01K.f x1_0).bind fun t2 => (spec_l01In.f t2 1 8).bind fun t3 => some t3)
noncomputable def spec_l01Is.l0 (k : Nat) : Nat → (List Int) → Int → Option (Bool)
  | 0, _, _ => none
  | n + 1, x0, x1 => spec_l01Is.s0 k (spec_l01Is.l0 k n) x0 x1
noncomputable def spec_l01Is.g (k : Nat) (r0 : (List Int) → Int → Option (Bool)) (l0_0 : List Int) : Option (Bool) := r0 l0_0 0
noncomputable def spec_l01Is.f (k : Nat) (l0_0 : List Int) : Option (Bool) := spec_l01Is.g k (spec_l01Is.l0 k k) l0_0
noncomputable def S144 (k : Nat) : Does := ⟨[(true, [.dat (.list (.int .i64))])], [(false, [.dat .bool])], fun x => spec_l01Is.f k x⟩
noncomputable def E144 (k : Nat) : En := ⟨tb, orcOf [(102, S102 k), (142, S142 k)], lvOf [(0, [(1, []), (3, [])])], k, 0, lvOf [], []⟩
noncomputable def n144_0 (x1_0 : List Int) (x3 : Int) : St := ⟨21, lookA [(1, .box 0 0), (3, .dat (.int .i64) x3)], Go.V.look [(0, .cells [.dat (.list (.int .i64)) x1_0])]⟩
def p144_0 : List Bool := [true, false, true, false]
theorem r144_0 (k : Nat) (rec : St → Option (Bool)) (v : (List Int) × Int) : roundF (E144 k) (S144 k) Try.f144 p144_0 [] rec (n144_0 v.1 v.2) = spec_l01Is.s0 k (fun a0 a1 => rec (n144_0 a0 a1)) v.1 v.2 := by
  kernel_rfl
theorem q144_0 (k : Nat) (n : Nat) : ∀ v : (List Int) × Int, loopF (E144 k) (S144 k) Try.f144 p144_0 [] n (n144_0 v.1 v.2) = spec_l01Is.l0 k n v.1 v.2 :=
  loopF_eq (E144 k) (S144 k) Try.f144 p144_0 [] (fun v : (List Int) × Int => n144_0 v.1 v.2) (fun rec v => spec_l01Is.s0 k (fun a0 a1 => rec (a0, a1)) v.1 v.2) (fun n v => spec_l01Is.l0 k n v.1 v.2) (fun _ => rfl) (fun _ _ => rfl) (fun rec v => r144_0 k rec v) n
theorem e144 (k : Nat) (x : dens (flatC (S144 k).ps)) : funK (E144 k) (S144 k) Try.f144 x = (S144 k).fn x := by
  have h : funK (E144 k) (S144 k) Try.f144 x = spec_l01Is.g k (fun a0 a1 => loopF (E144 k) (S144 k) Try.f144 p144_0 [] k (n144_0 a0 a1)) x := by kernel_rfl
  rw [h]
  rw [show (fun a0 a1 => loopF (E144 k) (S144 k) Try.f144 p144_0 [] k (n144_0 a0 a1)) = spec_l01Is.l0 k k from funext fun a0 => funext fun a1 => q144_0 k k (a0, a1)]
  rfl
theorem M144 (k : Nat) : Meets Try.prog 144 (S144 k) := meets_of Try.func144 (by kernel_rfl) tbOk (orc_cons (M102 k) (orc_cons (M142 k) orc_nil)) mixOk (fun x y h => (e144 k x).trans h) rfl

/-! spec_l02Count: function 113 -/
noncomputable def spec_l02Count.s0 (k : Nat) (r0 : (List Int) → Int → Int → Option (Int)) (x1_0 : List Int) (x3 : Int) (x4 : Int) : Option (Int) := if x4 < (x1_0.length : Int) then (if 0 ≤ x4 then (if x4 < (x1_0.length : Int) then (r0 x1_0 (wrap64 (x3 * (rd x1_0 x4))) (wrap64 (x4 + 1))) else (none)) else (none)) else (some x3)
noncomputable def spec_l02Count.l0 (k : Nat) : Nat → (List Int) → Int → Int → Option (Int)
  | 0, _, _, _ => none
  | n + 1, x0, x1, x2 => spec_l02Count.s0 k (spec_l02Count.l0 k n) x0 x1 x2
noncomputable def spec_l02Count.g (k : Nat) (r0 : (List Int) → Int → Int → Option (Int)) (l0_0 : List Int) : Option (Int) := r0 l0_0 1 0
noncomputable def spec_l02Count.f (k : Nat) (l0_0 : List Int) : Option (Int) := spec_l02Count.g k (spec_l02Count.l0 k k) l0_0
noncomputable def S113 (k : Nat) : Does := ⟨[(true, [.dat (.list (.int .i64))])], [(false, [.dat (.int .i64)])], fun x => spec_l02Count.f k x⟩
noncomputable def E113 (k : Nat) : En := ⟨tb, orcOf [], lvOf [(0, [(1, []), (3, []), (4, [])])], k, 0, lvOf [], []⟩
noncomputable def n113_0 (x1_0 : List Int) (x3 : Int) (x4 : Int) : St := ⟨20, lookA [(1, .box 0 0), (3, .dat (.int .i64) x3), (4, .dat (.int .i64) x4)], Go.V.look [(0, .cells [.dat (.list (.int .i64)) x1_0])]⟩
def p113_0 : List Bool := [true, true, false, true, false]
theorem r113_0 (k : Nat) (rec : St → Option (Int)) (v : (List Int) × Int × Int) : roundF (E113 k) (S113 k) Try.f113 p113_0 [] rec (n113_0 v.1 v.2.1 v.2.2) = spec_l02Count.s0 k (fun a0 a1 a2 => rec (n113_0 a0 a1 a2)) v.1 v.2.1 v.2.2 := by
  kernel_rfl
theorem q113_0 (k : Nat) (n : Nat) : ∀ v : (List Int) × Int × Int, loopF (E113 k) (S113 k) Try.f113 p113_0 [] n (n113_0 v.1 v.2.1 v.2.2) = spec_l02Count.l0 k n v.1 v.2.1 v.2.2 :=
  loopF_eq (E113 k) (S113 k) Try.f113 p113_0 [] (fun v : (List Int) × Int × Int => n113_0 v.1 v.2.1 v.2.2) (fun rec v => spec_l02Count.s0 k (fun a0 a1 a2 => rec (a0, a1, a2)) v.1 v.2.1 v.2.2) (fun n v => spec_l02Count.l0 k n v.1 v.2.1 v.2.2) (fun _ => rfl) (fun _ _ => rfl) (fun rec v => r113_0 k rec v) n
theorem e113 (k : Nat) (x : dens (flatC (S113 k).ps)) : funK (E113 k) (S113 k) Try.f113 x = (S113 k).fn x := by
  have h : funK (E113 k) (S113 k) Try.f113 x = spec_l02Count.g k (fun a0 a1 a2 => loopF (E113 k) (S113 k) Try.f113 p113_0 [] k (n113_0 a0 a1 a2)) x := by kernel_rfl
  rw [h]
  rw [show (fun a0 a1 a2 => loopF (E113 k) (S113 k) Try.f113 p113_0 [] k (n113_0 a0 a1 a2)) = spec_l02Count.l0 k k from funext fun a0 => funext fun a1 => funext fun a2 => q113_0 k k (a0, a1, a2)]
  rfl
theorem M113 (k : Nat) : Meets Try.prog 113 (S113 k) := meets_of Try.func113 (by kernel_rfl) tbOk orc_nil mixOk (fun x y h => (e113 k x).trans h) rfl

/-! spec_l02Few: function 146 -/
noncomputable def spec_l02Few.f (k : Nat) (l0_0 : List Int) : Option (Int) := (spec_l01Is.f k l0_0).bind fun t1 => if (!decide (t1 = true)) = true then (some 1) else ((spec_l02Count.f k l0_0).bind fun t2 => if (decide (4000 < t2)) = true then (some 3) else (some 0))
noncomputable def S146 (k : Nat) : Does := ⟨[(true, [.dat (.list (.int .i64))])], [(false, [.dat (.int .i64)])], fun x => spec_l02Few.f k x⟩
noncomputable def E146 (k : Nat) : En := ⟨tb, orcOf [(144, S144 k), (113, S113 k)], lvOf [], k, 0, lvOf [], []⟩
theorem e146 (k : Nat) (x : dens (flatC (S146 k).ps)) : funK (E146 k) (S146 k) Try.f146 x = (S146 k).fn x := by
  kernel_rfl
theorem M146 (k : Nat) : Meets Try.prog 146 (S146 k) := meets_of Try.func146 (by kernel_rfl) tbOk (orc_cons (M144 k) (orc_cons (M113 k) orc_nil)) mixOk (fun x y h => (e146 k x).trans h) rfl

/-! spec_l08Code: function 111 -/
noncomputable def spec_l08Code.f (k : Nat) (l0_0 : List Int) (a1 : Int) : Option (Int) := (spec_l01Is.f k l0_0).bind fun t1 => if (!decide (t1 = true)) = true then (some 1) else ((spec_l01In.f a1 1 4).bind fun t2 => if (!decide (t2 = true)) = true then (some 2) else ((spec_l02Few.f k l0_0).bind fun t3 => some t3))
noncomputable def S111 (k : Nat) : Does := ⟨[(true, [.dat (.list (.int .i64))]), (false, [.dat (.int .i64)])], [(false, [.dat (.int .i64)])], fun x => spec_l08Code.f k x.1 x.2⟩
noncomputable def E111 (k : Nat) : En := ⟨tb, orcOf [(144, S144 k), (102, S102 k), (146, S146 k)], lvOf [], k, 0, lvOf [], []⟩
theorem e111 (k : Nat) (x : dens (flatC (S111 k).ps)) : funK (E111 k) (S111 k) Try.f111 x = (S111 k).fn x := by
  kernel_rfl
theorem M111 (k : Nat) : Meets Try.prog 111 (S111 k) := meets_of Try.func111 (by kernel_rfl) tbOk (orc_cons (M144 k) (orc_cons (M102 k) (orc_cons (M146 k) orc_nil))) mixOk (fun x y h => (e111 k x).trans h) rfl

/-! spec_l08Size: function 211 -/
noncomputable def spec_l08Size.s0 (k : Nat) (r0 : Int → Int → Option (Int)) (x0 : Int) (x3 : Int) : Option (Int) := if 0 < x0 then (r0 (andV .i64 x0 (wrap64 (x0 - 1))) (wrap64 (x3 + 1))) else (some x3)
noncomputable def spec_l08Size.l0 (k : Nat) : Nat → Int → Int → Option (Int)
  | 0, _, _ => none
  | n + 1, x0, x1 => spec_l08Size.s0 k (spec_l08Size.l0 k n) x0 x1
noncomputable def spec_l08Size.g (k : Nat) (r0 : Int → Int → Option (Int)) (a0 : Int) : Option (Int) := r0 a0 0
noncomputable def spec_l08Size.f (k : Nat) (a0 : Int) : Option (Int) := spec_l08Size.g k (spec_l08Size.l0 k k) a0
noncomputable def S211 (k : Nat) : Does := ⟨[(false, [.dat (.int .i64)])], [(false, [.dat (.int .i64)])], fun x => spec_l08Size.f k x⟩
noncomputable def E211 (k : Nat) : En := ⟨tb, orcOf [], lvOf [(0, [(0, []), (3, [])])], k, 0, lvOf [], []⟩
noncomputable def n211_0 (x0 : Int) (x3 : Int) : St := ⟨13, lookA [(0, .dat (.int .i64) x0), (3, .dat (.int .i64) x3)], Go.V.look []⟩
def p211_0 : List Bool := [true, true, false, false]
theorem r211_0 (k : Nat) (rec : St → Option (Int)) (v : Int × Int) : roundF (E211 k) (S211 k) Try.f211 p211_0 [] rec (n211_0 v.1 v.2) = spec_l08Size.s0 k (fun a0 a1 => rec (n211_0 a0 a1)) v.1 v.2 := by
  kernel_rfl
theorem q211_0 (k : Nat) (n : Nat) : ∀ v : Int × Int, loopF (E211 k) (S211 k) Try.f211 p211_0 [] n (n211_0 v.1 v.2) = spec_l08Size.l0 k n v.1 v.2 :=
  loopF_eq (E211 k) (S211 k) Try.f211 p211_0 [] (fun v : Int × Int => n211_0 v.1 v.2) (fun rec v => spec_l08Size.s0 k (fun a0 a1 => rec (a0, a1)) v.1 v.2) (fun n v => spec_l08Size.l0 k n v.1 v.2) (fun _ => rfl) (fun _ _ => rfl) (fun rec v => r211_0 k rec v) n
theorem e211 (k : Nat) (x : dens (flatC (S211 k).ps)) : funK (E211 k) (S211 k) Try.f211 x = (S211 k).fn x := by
  have h : funK (E211 k) (S211 k) Try.f211 x = spec_l08Size.g k (fun a0 a1 => loopF (E211 k) (S211 k) Try.f211 p211_0 [] k (n211_0 a0 a1)) x := by kernel_rfl
  rw [h]
  rw [show (fun a0 a1 => loopF (E211 k) (S211 k) Try.f211 p211_0 [] k (n211_0 a0 a1)) = spec_l08Size.l0 k k from funext fun a0 => funext fun a1 => q211_0 k k (a0, a1)]
  rfl
theorem M211 (k : Nat) : Meets Try.prog 211 (S211 k) := meets_of Try.func211 (by kernel_rfl) tbOk orc_nil mixOk (fun x y h => (e211 k x).trans h) rfl

/-! spec_l08Sets: function 119 -/
noncomputable def spec_l08Sets.s0 (k : Nat) (r0 : Int → (List Int) → (List Int) → Int → Option ((List Int))) (x1 : Int) (x2_0 : List Int) (x5 : List Int) (x6 : Int) : Option ((List Int)) := if (IntKind.wrap .u64 ((x2_0.length : Int))) < 0 then (none) else (if x6 < (shlV .i64 1 (IntKind.wrap .u64 ((x2_0.length : Int)))) then ((spec_l08Size.f k x6).bind fun t1 => if t1 ≤ x1 then (if x5.length + 1 ≤ 1099511627776 then (r0 x1 x2_0 (x5 ++ [x6]) (wrap64 (x6 + 1))) else (none)) else (r0 x1 x2_0 x5 (wrap64 (x6 + 1)))) else (some x5))
noncomputable def spec_l08Sets.l0 (k : Nat) : Nat → Int → (List Int) → (List Int) → Int → Option ((List Int))
  | 0, _, _, _, _ => none
  | n + 1, x0, x1, x2, x3 => spec_l08Sets.s0 k (spec_l08Sets.l0 k n) x0 x1 x2 x3
noncomputable def spec_l08Sets.g (k : Nat) (r0 : Int → (List Int) → (List Int) → Int → Option ((List Int))) (l0_0 : List Int) (a1 : Int) : Option ((List Int)) := r0 a1 l0_0 [] 0
noncomputable def spec_l08Sets.f (k : Nat) (l0_0 : List Int) (a1 : Int) : Option ((List Int)) := spec_l08Sets.g k (spec_l08Sets.l0 k k) l0_0 a1
noncomputable def S119 (k : Nat) : Does := ⟨[(true, [.dat (.list (.int .i64))]), (false, [.dat (.int .i64)])], [(false, [.own 2 (.int .i64)])], fun x => spec_l08Sets.f k x.1 x.2⟩
noncomputable def E119 (k : Nat) : En := ⟨tb, orcOf [(211, S211 k)], lvOf [(0, [(1, []), (2, []), (5, []), (6, [])])], k, 0, lvOf [], []⟩
noncomputable def n119_0 (x1 : Int) (x2_0 : List Int) (x5 : List Int) (x6 : Int) : St := ⟨26, lookA [(1, .dat (.int .i64) x1), (2, .box 0 0), (5, .own 1), (6, .dat (.int .i64) x6)], Go.V.look [(0, .cells [.dat (.list (.int .i64)) x2_0]), (1, .flat 2 (.int .i64) x5)]⟩
def p119_0 : List Bool := [true, true, false, true, false]
theorem r119_0 (k : Nat) (rec : St → Option ((List Int))) (v : Int × (List Int) × (List Int) × Int) : roundF (E119 k) (S119 k) Try.f119 p119_0 [] rec (n119_0 v.1 v.2.1 v.2.2.1 v.2.2.2) = spec_l08Sets.s0 k (fun a0 a1 a2 a3 => rec (n119_0 a0 a1 a2 a3)) v.1 v.2.1 v.2.2.1 v.2.2.2 := by
  kernel_rfl
theorem q119_0 (k : Nat) (n : Nat) : ∀ v : Int × (List Int) × (List Int) × Int, loopF (E119 k) (S119 k) Try.f119 p119_0 [] n (n119_0 v.1 v.2.1 v.2.2.1 v.2.2.2) = spec_l08Sets.l0 k n v.1 v.2.1 v.2.2.1 v.2.2.2 :=
  loopF_eq (E119 k) (S119 k) Try.f119 p119_0 [] (fun v : Int × (List Int) × (List Int) × Int => n119_0 v.1 v.2.1 v.2.2.1 v.2.2.2) (fun rec v => spec_l08Sets.s0 k (fun a0 a1 a2 a3 => rec (a0, a1, a2, a3)) v.1 v.2.1 v.2.2.1 v.2.2.2) (fun n v => spec_l08Sets.l0 k n v.1 v.2.1 v.2.2.1 v.2.2.2) (fun _ => rfl) (fun _ _ => rfl) (fun rec v => r119_0 k rec v) n
theorem e119 (k : Nat) (x : dens (flatC (S119 k).ps)) : funK (E119 k) (S119 k) Try.f119 x = (S119 k).fn x := by
  have h : funK (E119 k) (S119 k) Try.f119 x = spec_l08Sets.g k (fun a0 a1 a2 a3 => loopF (E119 k) (S119 k) Try.f119 p119_0 [] k (n119_0 a0 a1 a2 a3)) x.1 x.2 := by kernel_rfl
  rw [h]
  rw [show (fun a0 a1 a2 a3 => loopF (E119 k) (S119 k) Try.f119 p119_0 [] k (n119_0 a0 a1 a2 a3)) = spec_l08Sets.l0 k k from funext fun a0 => funext fun a1 => funext fun a2 => funext fun a3 => q119_0 k k (a0, a1, a2, a3)]
  rfl
theorem M119 (k : Nat) : Meets Try.prog 119 (S119 k) := meets_of Try.func119 (by kernel_rfl) tbOk (orc_cons (M211 k) orc_nil) mixOk (fun x y h => (e119 k x).trans h) rfl

/-! spec_l02Of: function 123 -/
noncomputable def spec_l02Of.s0 (k : Nat) (r0 : Int → (List Int) → (List Int) → Int → Option ((List Int))) (x1 : Int) (x2_0 : List Int) (x5 : List Int) (x6 : Int) : Option ((List Int)) := if 0 ≤ x6 then (if 0 ≤ x6 then (if x6 < (x2_0.length : Int) then (if (rd x2_0 x6) = 0 then (none) else (if 0 ≤ x6 then (if x6 < (x5.length : Int) then (if 0 ≤ x6 then (if x6 < (x2_0.length : Int) then (if (rd x2_0 x6) = 0 then (none) else (r0 (wrap64 (Int.tdiv x1 (rd x2_0 x6))) x2_0 (x5.set x6.toNat (wrap64 ((Int.tmod x1 (rd x2_0 x6)) + 1))) (wrap64 (x6 - 1)))) else (none)) else (none)) else (none)) else (none))) else (none)) else (none)) else (some x5)
noncomputable def spec_l02Of.l0 (k : Nat) : Nat → Int → (List Int) → (List Int) → Int → Option ((List Int))
  | 0, _, _, _, _ => none
  | n + 1, x0, x1, x2, x3 => spec_l02Of.s0 k (spec_l02Of.l0 k n) x0 x1 x2 x3
noncomputable def spec_l02Of.g (k : Nat) (r0 : Int → (List Int) → (List Int) → Int → Option ((List Int))) (l0_0 : List Int) (a1 : Int) : Option ((List Int)) := if 0 ≤ (l0_0.length : Int) then (if (l0_0.length : Int) ≤ (l0_0.length : Int) then (if (l0_0.length : Int).toNat ≤ 1099511627776 then (r0 a1 l0_0 (List.replicate (l0_0.length : Int).toNat (0 : Int)) (wrap64 (((List.replicate (l0_0.length : Int).toNat (0 : Int)).length : Int) - 1))) else (none)) else (none)) else (none)
noncomputable def spec_l02Of.f (k : Nat) (l0_0 : List Int) (a1 : Int) : Option ((List Int)) := spec_l02Of.g k (spec_l02Of.l0 k k) l0_0 a1
noncomputable def S123 (k : Nat) : Does := ⟨[(true, [.dat (.list (.int .i64))]), (false, [.dat (.int .i64)])], [(false, [.own 2 (.int .i64)])], fun x => spec_l02Of.f k x.1 x.2⟩
noncomputable def E123 (k : Nat) : En := ⟨tb, orcOf [], lvOf [(0, [(1, []), (2, []), (5, []), (6, [])])], k, 0, lvOf [], []⟩
noncomputable def n123_0 (x1 : Int) (x2_0 : List Int) (x5 : List Int) (x6 : Int) : St := ⟨37, lookA [(1, .dat (.int .i64) x1), (2, .box 0 0), (5, .own 1), (6, .dat (.int .i64) x6)], Go.V.look [(0, .cells [.dat (.list (.int .i64)) x2_0]), (1, .flat 2 (.int .i64) x5)]⟩
def p123_0 : List Bool := [true, true, false, true, false]
theorem r123_0 (k : Nat) (rec : St → Option ((List Int))) (v : Int × (List Int) × (List Int) × Int) : roundF (E123 k) (S123 k) Try.f123 p123_0 [] rec (n123_0 v.1 v.2.1 v.2.2.1 v.2.2.2) = spec_l02Of.s0 k (fun a0 a1 a2 a3 => rec (n123_0 a0 a1 a2 a3)) v.1 v.2.1 v.2.2.1 v.2.2.2 := by
  kernel_rfl
theorem q123_0 (k : Nat) (n : Nat) : ∀ v : Int × (List Int) × (List Int) × Int, loopF (E123 k) (S123 k) Try.f123 p123_0 [] n (n123_0 v.1 v.2.1 v.2.2.1 v.2.2.2) = spec_l02Of.l0 k n v.1 v.2.1 v.2.2.1 v.2.2.2 :=
  loopF_eq (E123 k) (S123 k) Try.f123 p123_0 [] (fun v : Int × (List Int) × (List Int) × Int => n123_0 v.1 v.2.1 v.2.2.1 v.2.2.2) (fun rec v => spec_l02Of.s0 k (fun a0 a1 a2 a3 => rec (a0, a1, a2, a3)) v.1 v.2.1 v.2.2.1 v.2.2.2) (fun n v => spec_l02Of.l0 k n v.1 v.2.1 v.2.2.1 v.2.2.2) (fun _ => rfl) (fun _ _ => rfl) (fun rec v => r123_0 k rec v) n
theorem e123 (k : Nat) (x : dens (flatC (S123 k).ps)) : funK (E123 k) (S123 k) Try.f123 x = (S123 k).fn x := by
  have h : funK (E123 k) (S123 k) Try.f123 x = spec_l02Of.g k (fun a0 a1 a2 a3 => loopF (E123 k) (S123 k) Try.f123 p123_0 [] k (n123_0 a0 a1 a2 a3)) x.1 x.2 := by kernel_rfl
  rw [h]
  rw [show (fun a0 a1 a2 a3 => loopF (E123 k) (S123 k) Try.f123 p123_0 [] k (n123_0 a0 a1 a2 a3)) = spec_l02Of.l0 k k from funext fun a0 => funext fun a1 => funext fun a2 => funext fun a3 => q123_0 k k (a0, a1, a2, a3)]
  rfl
theorem M123 (k : Nat) : Meets Try.prog 123 (S123 k) := meets_of Try.func123 (by kernel_rfl) tbOk orc_nil mixOk (fun x y h => (e123 k x).trans h) rfl

/-! spec_l08Step: function 212 -/
noncomputable def spec_l08Step.s0 (k : Nat) (r0 : (List Int) → Int → (List Int) → (List Int) → Int → Option ((List Int) × Bool)) (x1 : List Int) (x2 : Int) (x3_0 : List Int) (x8 : List Int) (x9 : Int) : Option ((List Int) × Bool) := if x9 < (x1.length : Int) then (if (IntKind.wrap .u64 (x9)) < 0 then (none) else (if (decide ((andV .i64 (shrV .i64 x2 (IntKind.wrap .u64 (x9))) 1) = 1)) = true then (if 0 ≤ x9 then (if x9 < (x3_0.length : Int) then (if x8.length + 1 ≤ 1099511627776 then (r0 x1 x2 x3_0 (x8 ++ [(rd x3_0 x9)]) (wrap64 (x9 + 1))) else (none)) else (none)) else (none)) else (if 0 ≤ x9 then (if x9 < (x1.length : Int) then (if (decide ((rd x1 x9) = 1)) = true then (some ([], false)) else (if 0 ≤ x9 then (if x9 < (x1.length : Int) then (if x8.length + 1 ≤ 1099511627776 then (r0 x1 x2 x3_0 (x8 ++ [(wrap64 ((rd x1 x9) - 1))]) (wrap64 (x9 + 1))) else (none)) else (none)) else (none))) else (none)) else (none)))) else (some (x8, true))
noncomputable def spec_l08Step.l0 (k : Nat) : Nat → (List Int) → Int → (List Int) → (List Int) → Int → Option ((List Int) × Bool)
  | 0, _, _, _, _, _ => none
  | n + 1, x0, x1, x2, x3, x4 => spec_l08Step.s0 k (spec_l08Step.l0 k n) x0 x1 x2 x3 x4
noncomputable def spec_l08Step.g (k : Nat) (r0 : (List Int) → Int → (List Int) → (List Int) → Int → Option ((List Int) × Bool)) (l0_0 : List Int) (l1 : List Int) (a2 : Int) : Option ((List Int) × Bool) := r0 l1 a2 l0_0 [] 0
noncomputable def spec_l08Step.f (k : Nat) (l0_0 : List Int) (l1 : List Int) (a2 : Int) : Option ((List Int) × Bool) := spec_l08Step.g k (spec_l08Step.l0 k k) l0_0 l1 a2
noncomputable def S212 (k : Nat) : Does := ⟨[(true, [.dat (.list (.int .i64))]), (false, [.dat (.list (.int .i64))]), (false, [.dat (.int .i64)])], [(false, [.own 2 (.int .i64)]), (false, [.dat .bool])], fun x => spec_l08Step.f k x.1 x.2.1 x.2.2⟩
noncomputable def E212 (k : Nat) : En := ⟨tb, orcOf [], lvOf [(0, [(1, []), (2, []), (3, []), (8, []), (9, [])])], k, 0, lvOf [], []⟩
noncomputable def n212_0 (x1 : List Int) (x2 : Int) (x3_0 : List Int) (x8 : List Int) (x9 : Int) : St := ⟨47, lookA [(1, .dat (.list (.int .i64)) x1), (2, .dat (.int .i64) x2), (3, .box 0 0), (8, .own 1), (9, .dat (.int .i64) x9)], Go.V.look [(0, .cells [.dat (.list (.int .i64)) x3_0]), (1, .flat 2 (.int .i64) x8)]⟩
def p212_0 : List Bool := [true, true, false, true, false]
theorem r212_0 (k : Nat) (rec : St → Option ((List Int) × Bool)) (v : (List Int) × Int × (List Int) × (List Int) × Int) : roundF (E212 k) (S212 k) Try.f212 p212_0 [] rec (n212_0 v.1 v.2.1 v.2.2.1 v.2.2.2.1 v.2.2.2.2) = spec_l08Step.s0 k (fun a0 a1 a2 a3 a4 => rec (n212_0 a0 a1 a2 a3 a4)) v.1 v.2.1 v.2.2.1 v.2.2.2.1 v.2.2.2.2 := by
  kernel_rfl
theorem q212_0 (k : Nat) (n : Nat) : ∀ v : (List Int) × Int × (List Int) × (List Int) × Int, loopF (E212 k) (S212 k) Try.f212 p212_0 [] n (n212_0 v.1 v.2.1 v.2.2.1 v.2.2.2.1 v.2.2.2.2) = spec_l08Step.l0 k n v.1 v.2.1 v.2.2.1 v.2.2.2.1 v.2.2.2.2 :=
  loopF_eq (E212 k) (S212 k) Try.f212 p212_0 [] (fun v : (List Int) × Int × (List Int) × (List Int) × Int => n212_0 v.1 v.2.1 v.2.2.1 v.2.2.2.1 v.2.2.2.2) (fun rec v => spec_l08Step.s0 k (fun a0 a1 a2 a3 a4 => rec (a0, a1, a2, a3, a4)) v.1 v.2.1 v.2.2.1 v.2.2.2.1 v.2.2.2.2) (fun n v => spec_l08Step.l0 k n v.1 v.2.1 v.2.2.1 v.2.2.2.1 v.2.2.2.2) (fun _ => rfl) (fun _ _ => rfl) (fun rec v => r212_0 k rec v) n
theorem e212 (k : Nat) (x : dens (flatC (S212 k).ps)) : funK (E212 k) (S212 k) Try.f212 x = (S212 k).fn x := by
  have h : funK (E212 k) (S212 k) Try.f212 x = spec_l08Step.g k (fun a0 a1 a2 a3 a4 => loopF (E212 k) (S212 k) Try.f212 p212_0 [] k (n212_0 a0 a1 a2 a3 a4)) x.1 x.2.1 x.2.2 := by kernel_rfl
  rw [h]
  rw [show (fun a0 a1 a2 a3 a4 => loopF (E212 k) (S212 k) Try.f212 p212_0 [] k (n212_0 a0 a1 a2 a3 a4)) = spec_l08Step.l0 k k from funext fun a0 => funext fun a1 => funext fun a2 => funext fun a3 => funext fun a4 => q212_0 k k (a0, a1, a2, a3, a4)]
  rfl
theorem M212 (k : Nat) : Meets Try.prog 212 (S212 k) := meets_of Try.func212 (by kernel_rfl) tbOk orc_nil mixOk (fun x y h => (e212 k x).trans h) rfl

/-! spec_l02Number: function 121 -/
noncomputable def spec_l02Number.s0 (k : Nat) (r0 : (List Int) → (List Int) → Int → Int → Option (Int)) (x1 : List Int) (x2_0 : List Int) (x5 : Int) (x6 : Int) : Option (Int) := if x6 < (x1.length : Int) then (if 0 ≤ x6 then (if x6 < (x2_0.length : Int) then (if 0 ≤ x6 then (if x6 < (x1.length : Int) then (r0 x1 x2_0 (wrap64 ((wrap64 ((wrap64 (x5 * (rd x2_0 x6))) + (rd x1 x6))) - 1)) (wrap64 (x6 + 1))) else (none)) else (none)) else (none)) else (none)) else (some x5)
noncomputable def spec_l02Number.l0 (k : Nat) : Nat → (List Int) → (List Int) → Int → Int → Option (Int)
  | 0, _, _, _, _ => none
  | n + 1, x0, x1, x2, x3 => spec_l02Number.s0 k (spec_l02Number.l0 k n) x0 x1 x2 x3
noncomputable def spec_l02Number.g (k : Nat) (r0 : (List Int) → (List Int) → Int → Int → Option (Int)) (l0_0 : List Int) (l1 : List Int) : Option (Int) := r0 l1 l0_0 0 0
noncomputable def spec_l02Number.f (k : Nat) (l0_0 : List Int) (l1 : List Int) : Option (Int) := spec_l02Number.g k (spec_l02Number.l0 k k) l0_0 l1
noncomputable def S121 (k : Nat) : Does := ⟨[(true, [.dat (.list (.int .i64))]), (false, [.dat (.list (.int .i64))])], [(false, [.dat (.int .i64)])], fun x => spec_l02Number.f k x.1 x.2⟩
noncomputable def E121 (k : Nat) : En := ⟨tb, orcOf [], lvOf [(0, [(1, []), (2, []), (5, []), (6, [])])], k, 0, lvOf [], []⟩
noncomputable def n121_0 (x1 : List Int) (x2_0 : List Int) (x5 : Int) (x6 : Int) : St := ⟨27, lookA [(1, .dat (.list (.int .i64)) x1), (2, .box 0 0), (5, .dat (.int .i64) x5), (6, .dat (.int .i64) x6)], Go.V.look [(0, .cells [.dat (.list (.int .i64)) x2_0])]⟩
def p121_0 : List Bool := [true, true, false, true, false]
theorem r121_0 (k : Nat) (rec : St → Option (Int)) (v : (List Int) × (List Int) × Int × Int) : roundF (E121 k) (S121 k) Try.f121 p121_0 [] rec (n121_0 v.1 v.2.1 v.2.2.1 v.2.2.2) = spec_l02Number.s0 k (fun a0 a1 a2 a3 => rec (n121_0 a0 a1 a2 a3)) v.1 v.2.1 v.2.2.1 v.2.2.2 := by
  kernel_rfl
theorem q121_0 (k : Nat) (n : Nat) : ∀ v : (List Int) × (List Int) × Int × Int, loopF (E121 k) (S121 k) Try.f121 p121_0 [] n (n121_0 v.1 v.2.1 v.2.2.1 v.2.2.2) = spec_l02Number.l0 k n v.1 v.2.1 v.2.2.1 v.2.2.2 :=
  loopF_eq (E121 k) (S121 k) Try.f121 p121_0 [] (fun v : (List Int) × (List Int) × Int × Int => n121_0 v.1 v.2.1 v.2.2.1 v.2.2.2) (fun rec v => spec_l02Number.s0 k (fun a0 a1 a2 a3 => rec (a0, a1, a2, a3)) v.1 v.2.1 v.2.2.1 v.2.2.2) (fun n v => spec_l02Number.l0 k n v.1 v.2.1 v.2.2.1 v.2.2.2) (fun _ => rfl) (fun _ _ => rfl) (fun rec v => r121_0 k rec v) n
theorem e121 (k : Nat) (x : dens (flatC (S121 k).ps)) : funK (E121 k) (S121 k) Try.f121 x = (S121 k).fn x := by
  have h : funK (E121 k) (S121 k) Try.f121 x = spec_l02Number.g k (fun a0 a1 a2 a3 => loopF (E121 k) (S121 k) Try.f121 p121_0 [] k (n121_0 a0 a1 a2 a3)) x.1 x.2 := by kernel_rfl
  rw [h]
  rw [show (fun a0 a1 a2 a3 => loopF (E121 k) (S121 k) Try.f121 p121_0 [] k (n121_0 a0 a1 a2 a3)) = spec_l02Number.l0 k k from funext fun a0 => funext fun a1 => funext fun a2 => funext fun a3 => q121_0 k k (a0, a1, a2, a3)]
  rfl
theorem M121 (k : Nat) : Meets Try.prog 121 (S121 k) := meets_of Try.func121 (by kernel_rfl) tbOk orc_nil mixOk (fun x y h => (e121 k x).trans h) rfl

/-! spec_l08First: function 122 -/
noncomputable def spec_l08First.s0 (k : Nat) (r0 : (List Int) → (List Bool) → (List Int) → (List Int) → Int → Option (Int × Int × Bool)) (x1 : List Int) (x2 : List Bool) (x3 : List Int) (x4_0 : List Int) (x11 : Int) : Option (Int × Int × Bool) := if x11 < (x1.length : Int) then (if 0 ≤ x11 then (if x11 < (x1.length : Int) then ((spec_l08Step.f k x4_0 x3 (rd x1 x11)).bind fun t1 => if t1.2 = true then ((spec_l02Number.f k x4_0 t1.1).bind fun t2 => if 0 ≤ t2 then (if t2 < (x2.length : Int) then (if (rdOf false x2 t2) = true then (if 0 ≤ x11 then (if x11 < (x1.length : Int) then (some ((rd x1 x11), t2, true)) else (none)) else (none)) else (r0 x1 x2 x3 x4_0 (wrap64 (x11 + 1)))) else (none)) else (none)) else (r0 x1 x2 x3 x4_0 (wrap64 (x11 + 1)))) else (none)) else (none)) else (some (0, 0, false))
noncomputable def spec_l08First.l0 (k : Nat) : Nat → (List Int) → (List Bool) → (List Int) → (List Int) → Int → Option (Int × Int × Bool)
  | 0, _, _, _, _, _ => none
  | n + 1, x0, x1, x2, x3, x4 => spec_l08First.s0 k (spec_l08First.l0 k n) x0 x1 x2 x3 x4
noncomputable def spec_l08First.g (k : Nat) (r0 : (List Int) → (List Bool) → (List Int) → (List Int) → Int → Option (Int × Int × Bool)) (l0_0 : List Int) (l1 : List Int) (l2 : List Bool) (l3 : List Int) : Option (Int × Int × Bool) := r0 l1 l2 l3 l0_0 0
noncomputable def spec_l08First.f (k : Nat) (l0_0 : List Int) (l1 : List Int) (l2 : List Bool) (l3 : List Int) : Option (Int × Int × Bool) := spec_l08First.g k (spec_l08First.l0 k k) l0_0 l1 l2 l3
noncomputable def S122 (k : Nat) : Does := ⟨[(true, [.dat (.list (.int .i64))]), (false, [.dat (.list (.int .i64))]), (false, [.dat (.list .bool)]), (false, [.dat (.list (.int .i64))])], [(false, [.dat (.int .i64)]), (false, [.dat (.int .i64)]), (false, [.dat .bool])], fun x => spec_l08First.f k x.1 x.2.1 x.2.2.1 x.2.2.2⟩
noncomputable def E122 (k : Nat) : En := ⟨tb, orcOf [(212, S212 k), (121, S121 k)], lvOf [(0, [(1, []), (2, []), (3, []), (4, []), (11, [])])], k, 0, lvOf [], []⟩
noncomputable def n122_0 (x1 : List Int) (x2 : List Bool) (x3 : List Int) (x4_0 : List Int) (x11 : Int) : St := ⟨44, lookA [(1, .dat (.list (.int .i64)) x1), (2, .dat (.list .bool) x2), (3, .dat (.list (.int .i64)) x3), (4, .box 0 0), (11, .dat (.int .i64) x11)], Go.V.look [(0, .cells [.dat (.list (.int .i64)) x4_0])]⟩
def p122_0 : List Bool := [true, false, true, false]
theorem r122_0 (k : Nat) (rec : St → Option (Int × Int × Bool)) (v : (List Int) × (List Bool) × (List Int) × (List Int) × Int) : roundF (E122 k) (S122 k) Try.f122 p122_0 [] rec (n122_0 v.1 v.2.1 v.2.2.1 v.2.2.2.1 v.2.2.2.2) = spec_l08First.s0 k (fun a0 a1 a2 a3 a4 => rec (n122_0 a0 a1 a2 a3 a4)) v.1 v.2.1 v.2.2.1 v.2.2.2.1 v.2.2.2.2 := by
  kernel_rfl
theorem q122_0 (k : Nat) (n : Nat) : ∀ v : (List Int) × (List Bool) × (List Int) × (List Int) × Int, loopF (E122 k) (S122 k) Try.f122 p122_0 [] n (n122_0 v.1 v.2.1 v.2.2.1 v.2.2.2.1 v.2.2.2.2) = spec_l08First.l0 k n v.1 v.2.1 v.2.2.1 v.2.2.2.1 v.2.2.2.2 :=
  loopF_eq (E122 k) (S122 k) Try.f122 p122_0 [] (fun v : (List Int) × (List Bool) × (List Int) × (List Int) × Int => n122_0 v.1 v.2.1 v.2.2.1 v.2.2.2.1 v.2.2.2.2) (fun rec v => spec_l08First.s0 k (fun a0 a1 a2 a3 a4 => rec (a0, a1, a2, a3, a4)) v.1 v.2.1 v.2.2.1 v.2.2.2.1 v.2.2.2.2) (fun n v => spec_l08First.l0 k n v.1 v.2.1 v.2.2.1 v.2.2.2.1 v.2.2.2.2) (fun _ => rfl) (fun _ _ => rfl) (fun rec v => r122_0 k rec v) n
theorem e122 (k : Nat) (x : dens (flatC (S122 k).ps)) : funK (E122 k) (S122 k) Try.f122 x = (S122 k).fn x := by
  have h : funK (E122 k) (S122 k) Try.f122 x = spec_l08First.g k (fun a0 a1 a2 a3 a4 => loopF (E122 k) (S122 k) Try.f122 p122_0 [] k (n122_0 a0 a1 a2 a3 a4)) x.1 x.2.1 x.2.2.1 x.2.2.2 := by kernel_rfl
  rw [h]
  rw [show (fun a0 a1 a2 a3 a4 => loopF (E122 k) (S122 k) Try.f122 p122_0 [] k (n122_0 a0 a1 a2 a3 a4)) = spec_l08First.l0 k k from funext fun a0 => funext fun a1 => funext fun a2 => funext fun a3 => funext fun a4 => q122_0 k k (a0, a1, a2, a3, a4)]
  rfl
theorem M122 (k : Nat) : Meets Try.prog 122 (S122 k) := meets_of Try.func122 (by kernel_rfl) tbOk (orc_cons (M212 k) (orc_cons (M121 k) orc_nil)) mixOk (fun x y h => (e122 k x).trans h) rfl

/-! spec_l08Lasting: function 112 -/
noncomputable def spec_l08Lasting.s2 (k : Nat) (r1 : (List Int) → (List Int) → (List Bool) → Bool → Option ((List Bool))) (r2 : (List Int) → (List Int) → (List Bool) → Bool → Int → Int → Option ((List Bool))) (x2_0 : List Int) (x5 : List Int) (x6 : List Bool) (x8 : Bool) (x30 : Int) (x31 : Int) : Option ((List Bool)) := if x31 < x30 then (if 0 ≤ x31 then (if x31 < (x6.length : Int) then (if (rdOf false x6 x31) = true then ((spec_l02Of.f k x2_0 x31).bind fun t3 => (spec_l08First.f k x2_0 x5 x6 t3).bind fun t4 => if t4.2.2 = true then (r2 x2_0 x5 x6 x8 x30 (wrap64 (x31 + 1))) else (if 0 ≤ x31 then (if x31 < (x6.length : Int) then (r2 x2_0 x5 (x6.set x31.toNat false) true x30 (wrap64 (x31 + 1))) else (none)) else (none))) else (r2 x2_0 x5 x6 x8 x30 (wrap64 (x31 + 1)))) else (none)) else (none)) else (r1 x2_0 x5 x6 x8)
noncomputable def spec_l08Lasting.l2 (k : Nat) (r1 : (List Int) → (List Int) → (List Bool) → Bool → Option ((List Bool))) : Nat → (List Int) → (List Int) → (List Bool) → Bool → Int → Int → Option ((List Bool))
  | 0, _, _, _, _, _, _ => none
  | n + 1, x0, x1, x2, x3, x4, x5 => spec_l08Lasting.s2 k r1 (spec_l08Lasting.l2 k r1 n) x0 x1 x2 x3 x4 x5
noncomputable def spec_l08Lasting.s1 (k : Nat) (r1 : (List Int) → (List Int) → (List Bool) → Bool → Option ((List Bool))) (r2 : (List Int) → (List Int) → (List Bool) → Bool → Int → Int → Option ((List Bool))) (x2_0 : List Int) (x5 : List Int) (x6 : List Bool) (x8 : Bool) : Option ((List Bool)) := if x8 = true then (r2 x2_0 x5 x6 false (x6.length : Int) 0) else (some x6)
noncomputable def spec_l08Lasting.l1 (k : Nat) : Nat → (List Int) → (List Int) → (List Bool) → Bool → Option ((List Bool))
  | 0, _, _, _, _ => none
  | n + 1, x0, x1, x2, x3 => spec_l08Lasting.s1 k (spec_l08Lasting.l1 k n) (spec_l08Lasting.l2 k (spec_l08Lasting.l1 k n) k) x0 x1 x2 x3
noncomputable def spec_l08Lasting.s0 (k : Nat) (r0 : (List Int) → (List Int) → (List Bool) → Int → Int → Option ((List Bool))) (r1 : (List Int) → (List Int) → (List Bool) → Bool → Option ((List Bool))) (x2_0 : List Int) (x5 : List Int) (x6 : List Bool) (x20 : Int) (x21 : Int) : Option ((List Bool)) := if x21 < x20 then (if 0 ≤ x21 then (if x21 < (x6.length : Int) then (r0 x2_0 x5 (x6.set x21.toNat true) x20 (wrap64 (x21 + 1))) else (none)) else (none)) else (r1 x2_0 x5 x6 true)
noncomputable def spec_l08Lasting.l0 (k : Nat) : Nat → (List Int) → (List Int) → (List Bool) → Int → Int → Option ((List Bool))
  | 0, _, _, _, _, _ => none
  | n + 1, x0, x1, x2, x3, x4 => spec_l08Lasting.s0 k (spec_l08Lasting.l0 k n) (spec_l08Lasting.l1 k k) x0 x1 x2 x3 x4
noncomputable def spec_l08Lasting.g (k : Nat) (r0 : (List Int) → (List Int) → (List Bool) → Int → Int → Option ((List Bool))) (l0_0 : List Int) (a1 : Int) : Option ((List Bool)) := (spec_l08Sets.f k l0_0 a1).bind fun t1 => (spec_l02Count.f k l0_0).bind fun t2 => if 0 ≤ t2 then (if t2 ≤ t2 then (if t2.toNat ≤ 1099511627776 then (r0 l0_0 t1 (List.replicate t2.toNat (false : Bool)) ((List.replicate t2.toNat (false : Bool)).length : Int) 0) else (none)) else (none)) else (none)
noncomputable def spec_l08Lasting.f (k : Nat) (l0_0 : List Int) (a1 : Int) : Option ((List Bool)) := spec_l08Lasting.g k (spec_l08Lasting.l0 k k) l0_0 a1
noncomputable def S112 (k : Nat) : Does := ⟨[(true, [.dat (.list (.int .i64))]), (false, [.dat (.int .i64)])], [(false, [.own 4 .bool])], fun x => spec_l08Lasting.f k x.1 x.2⟩
noncomputable def E112 (k : Nat) : En := ⟨tb, orcOf [(119, S119 k), (113, S113 k), (123, S123 k), (122, S122 k)], lvOf [(0, [(2, []), (5, []), (6, []), (20, []), (21, [])]), (2, [(2, []), (5, []), (6, []), (8, [])]), (4, [(2, []), (5, []), (6, []), (8, []), (30, []), (31, [])])], k, 0, lvOf [], []⟩
noncomputable def n112_0 (x2_0 : List Int) (x5 : List Int) (x6 : List Bool) (x20 : Int) (x21 : Int) : St := ⟨57, lookA [(2, .box 0 0), (5, .own 1), (6, .own 2), (20, .dat (.int .i64) x20), (21, .dat (.int .i64) x21)], Go.V.look [(0, .cells [.dat (.list (.int .i64)) x2_0]), (1, .flat 2 (.int .i64) x5), (2, .flat 4 .bool x6)]⟩
def p112_0 : List Bool := [true, true, false, true, false]
noncomputable def n112_1 (x2_0 : List Int) (x5 : List Int) (x6 : List Bool) (x8 : Bool) : St := ⟨57, lookA [(2, .box 0 0), (5, .own 1), (6, .own 2), (8, .dat .bool x8)], Go.V.look [(0, .cells [.dat (.list (.int .i64)) x2_0]), (1, .flat 2 (.int .i64) x5), (2, .flat 4 .bool x6)]⟩
def p112_1 : List Bool := [true, true, true, false, true, false]
noncomputable def n112_2 (x2_0 : List Int) (x5 : List Int) (x6 : List Bool) (x8 : Bool) (x30 : Int) (x31 : Int) : St := ⟨57, lookA [(2, .box 0 0), (5, .own 1), (6, .own 2), (8, .dat .bool x8), (30, .dat (.int .i64) x30), (31, .dat (.int .i64) x31)], Go.V.look [(0, .cells [.dat (.list (.int .i64)) x2_0]), (1, .flat 2 (.int .i64) x5), (2, .flat 4 .bool x6)]⟩
def p112_2 : List Bool := [true, true, true, false, true, false, false, true, false, true, true, false]
theorem r112_2 (k : Nat) (R1 : St → Option ((List Bool))) (rec : St → Option ((List Bool))) (v : (List Int) × (List Int) × (List Bool) × Bool × Int × Int) : roundF (E112 k) (S112 k) Try.f112 p112_2 [R1] rec (n112_2 v.1 v.2.1 v.2.2.1 v.2.2.2.1 v.2.2.2.2.1 v.2.2.2.2.2) = spec_l08Lasting.s2 k (fun a0 a1 a2 a3 => R1 (n112_1 a0 a1 a2 a3)) (fun a0 a1 a2 a3 a4 a5 => rec (n112_2 a0 a1 a2 a3 a4 a5)) v.1 v.2.1 v.2.2.1 v.2.2.2.1 v.2.2.2.2.1 v.2.2.2.2.2 := by
  kernel_rfl
theorem q112_2 (k : Nat) (R1 : St → Option ((List Bool))) (n : Nat) : ∀ v : (List Int) × (List Int) × (List Bool) × Bool × Int × Int, loopF (E112 k) (S112 k) Try.f112 p112_2 [R1] n (n112_2 v.1 v.2.1 v.2.2.1 v.2.2.2.1 v.2.2.2.2.1 v.2.2.2.2.2) = spec_l08Lasting.l2 k (fun a0 a1 a2 a3 => R1 (n112_1 a0 a1 a2 a3)) n v.1 v.2.1 v.2.2.1 v.2.2.2.1 v.2.2.2.2.1 v.2.2.2.2.2 :=
  loopF_eq (E112 k) (S112 k) Try.f112 p112_2 [R1] (fun v : (List Int) × (List Int) × (List Bool) × Bool × Int × Int => n112_2 v.1 v.2.1 v.2.2.1 v.2.2.2.1 v.2.2.2.2.1 v.2.2.2.2.2) (fun rec v => spec_l08Lasting.s2 k (fun a0 a1 a2 a3 => R1 (n112_1 a0 a1 a2 a3)) (fun a0 a1 a2 a3 a4 a5 => rec (a0, a1, a2, a3, a4, a5)) v.1 v.2.1 v.2.2.1 v.2.2.2.1 v.2.2.2.2.1 v.2.2.2.2.2) (fun n v => spec_l08Lasting.l2 k (fun a0 a1 a2 a3 => R1 (n112_1 a0 a1 a2 a3)) n v.1 v.2.1 v.2.2.1 v.2.2.2.1 v.2.2.2.2.1 v.2.2.2.2.2) (fun _ => rfl) (fun _ _ => rfl) (fun rec v => r112_2 k R1 rec v) n
theorem r112_1 (k : Nat) (rec : St → Option ((List Bool))) (G2 : (List Int) → (List Int) → (List Bool) → Bool → Int → Int → Option ((List Bool))) (h2 : ∀ a0 a1 a2 a3 a4 a5, loopF (E112 k) (S112 k) Try.f112 p112_2 [rec] k (n112_2 a0 a1 a2 a3 a4 a5) = G2 a0 a1 a2 a3 a4 a5) (v : (List Int) × (List Int) × (List Bool) × Bool) : roundF (E112 k) (S112 k) Try.f112 p112_1 [] rec (n112_1 v.1 v.2.1 v.2.2.1 v.2.2.2) = spec_l08Lasting.s1 k (fun a0 a1 a2 a3 => rec (n112_1 a0 a1 a2 a3)) G2 v.1 v.2.1 v.2.2.1 v.2.2.2 := by
  obtain rfl : (fun a0 a1 a2 a3 a4 a5 => loopF (E112 k) (S112 k) Try.f112 p112_2 [rec] k (n112_2 a0 a1 a2 a3 a4 a5)) = G2 := funext fun a0 => funext fun a1 => funext fun a2 => funext fun a3 => funext fun a4 => funext fun a5 => h2 a0 a1 a2 a3 a4 a5
  kernel_rfl
theorem q112_1 (k : Nat) (n : Nat) : ∀ v : (List Int) × (List Int) × (List Bool) × Bool, loopF (E112 k) (S112 k) Try.f112 p112_1 [] n (n112_1 v.1 v.2.1 v.2.2.1 v.2.2.2) = spec_l08Lasting.l1 k n v.1 v.2.1 v.2.2.1 v.2.2.2 :=
  loopF_eq (E112 k) (S112 k) Try.f112 p112_1 [] (fun v : (List Int) × (List Int) × (List Bool) × Bool => n112_1 v.1 v.2.1 v.2.2.1 v.2.2.2) (fun rec v => spec_l08Lasting.s1 k (fun a0 a1 a2 a3 => rec (a0, a1, a2, a3)) (spec_l08Lasting.l2 k (fun a0 a1 a2 a3 => rec (a0, a1, a2, a3)) k) v.1 v.2.1 v.2.2.1 v.2.2.2) (fun n v => spec_l08Lasting.l1 k n v.1 v.2.1 v.2.2.1 v.2.2.2) (fun _ => rfl) (fun _ _ => rfl) (fun rec v => r112_1 k rec _ (fun a0 a1 a2 a3 a4 a5 => q112_2 k rec k (a0, a1, a2, a3, a4, a5)) v) n
theorem r112_0 (k : Nat) (rec : St → Option ((List Bool))) (G1 : (List Int) → (List Int) → (List Bool) → Bool → Option ((List Bool))) (h1 : ∀ a0 a1 a2 a3, loopF (E112 k) (S112 k) Try.f112 p112_1 [] k (n112_1 a0 a1 a2 a3) = G1 a0 a1 a2 a3) (v : (List Int) × (List Int) × (List Bool) × Int × Int) : roundF (E112 k) (S112 k) Try.f112 p112_0 [] rec (n112_0 v.1 v.2.1 v.2.2.1 v.2.2.2.1 v.2.2.2.2) = spec_l08Lasting.s0 k (fun a0 a1 a2 a3 a4 => rec (n112_0 a0 a1 a2 a3 a4)) G1 v.1 v.2.1 v.2.2.1 v.2.2.2.1 v.2.2.2.2 := by
  obtain rfl : (fun a0 a1 a2 a3 => loopF (E112 k) (S112 k) Try.f112 p112_1 [] k (n112_1 a0 a1 a2 a3)) = G1 := funext fun a0 => funext fun a1 => funext fun a2 => funext fun a3 => h1 a0 a1 a2 a3
  kernel_rfl
theorem q112_0 (k : Nat) (n : Nat) : ∀ v : (List Int) × (List Int) × (List Bool) × Int × Int, loopF (E112 k) (S112 k) Try.f112 p112_0 [] n (n112_0 v.1 v.2.1 v.2.2.1 v.2.2.2.1 v.2.2.2.2) = spec_l08Lasting.l0 k n v.1 v.2.1 v.2.2.1 v.2.2.2.1 v.2.2.2.2 :=
  loopF_eq (E112 k) (S112 k) Try.f112 p112_0 [] (fun v : (List Int) × (List Int) × (List Bool) × Int × Int => n112_0 v.1 v.2.1 v.2.2.1 v.2.2.2.1 v.2.2.2.2) (fun rec v => spec_l08Lasting.s0 k (fun a0 a1 a2 a3 a4 => rec (a0, a1, a2, a3, a4)) (spec_l08Lasting.l1 k k) v.1 v.2.1 v.2.2.1 v.2.2.2.1 v.2.2.2.2) (fun n v => spec_l08Lasting.l0 k n v.1 v.2.1 v.2.2.1 v.2.2.2.1 v.2.2.2.2) (fun _ => rfl) (fun _ _ => rfl) (fun rec v => r112_0 k rec _ (fun a0 a1 a2 a3 => q112_1 k k (a0, a1, a2, a3)) v) n
theorem e112 (k : Nat) (x : dens (flatC (S112 k).ps)) : funK (E112 k) (S112 k) Try.f112 x = (S112 k).fn x := by
  have h : funK (E112 k) (S112 k) Try.f112 x = spec_l08Lasting.g k (fun a0 a1 a2 a3 a4 => loopF (E112 k) (S112 k) Try.f112 p112_0 [] k (n112_0 a0 a1 a2 a3 a4)) x.1 x.2 := by kernel_rfl
  rw [h]
  rw [show (fun a0 a1 a2 a3 a4 => loopF (E112 k) (S112 k) Try.f112 p112_0 [] k (n112_0 a0 a1 a2 a3 a4)) = spec_l08Lasting.l0 k k from funext fun a0 => funext fun a1 => funext fun a2 => funext fun a3 => funext fun a4 => q112_0 k k (a0, a1, a2, a3, a4)]
  rfl
theorem M112 (k : Nat) : Meets Try.prog 112 (S112 k) := meets_of Try.func112 (by kernel_rfl) tbOk (orc_cons (M119 k) (orc_cons (M113 k) (orc_cons (M123 k) (orc_cons (M122 k) orc_nil)))) mixOk (fun x y h => (e112 k x).trans h) rfl

/-! spec_CanServeOn: function 16 -/
noncomputable def spec_CanServeOn.f (k : Nat) (l0_0 : List Int) (a1 : Int) : Option (Bool × Int) := (spec_l08Code.f k l0_0 a1).bind fun t1 => if t1 = 0 then ((spec_l08Lasting.f k l0_0 a1).bind fun t2 => (spec_l02Count.f k l0_0).bind fun t3 => if 0 ≤ (wrap64 (t3 - 1)) then (if (wrap64 (t3 - 1)) < (t2.length : Int) then (some ((rdOf false t2 (wrap64 (t3 - 1))), 0)) else (none)) else (none)) else (some (false, t1))
noncomputable def S16 (k : Nat) : Does := ⟨[(true, [.dat (.list (.int .i64))]), (false, [.dat (.int .i64)])], [(false, [.dat .bool]), (false, [.dat (.int .i64)])], fun x => spec_CanServeOn.f k x.1 x.2⟩
noncomputable def E16 (k : Nat) : En := ⟨tb, orcOf [(111, S111 k), (112, S112 k), (113, S113 k)], lvOf [], k, 0, lvOf [], []⟩
theorem e16 (k : Nat) (x : dens (flatC (S16 k).ps)) : funK (E16 k) (S16 k) Try.f16 x = (S16 k).fn x := by
  kernel_rfl
theorem M16 (k : Nat) : Meets Try.prog 16 (S16 k) := meets_of Try.func16 (by kernel_rfl) tbOk (orc_cons (M111 k) (orc_cons (M112 k) (orc_cons (M113 k) orc_nil))) mixOk (fun x y h => (e16 k x).trans h) rfl

/-! impl_within: function 108 -/
noncomputable def impl_within.f (a0 : Int) (a1 : Int) (a2 : Int) : Option (Bool) := if a1 ≤ a0 then (some (decide (a0 ≤ a2))) else (some false)
noncomputable def S108 (k : Nat) : Does := ⟨[(false, [.dat (.int .i64)]), (false, [.dat (.int .i64)]), (false, [.dat (.int .i64)])], [(false, [.dat .bool])], fun x => impl_within.f x.1 x.2.1 x.2.2⟩
noncomputable def E108 (k : Nat) : En := ⟨tb, orcOf [], lvOf [], k, 0, lvOf [], []⟩
theorem e108 (k : Nat) (x : dens (flatC (S108 k).ps)) : funK (E108 k) (S108 k) Try.f108 x = (S108 k).fn x := by
  kernel_rfl
theorem M108 (k : Nat) : Meets Try.prog 108 (S108 k) := meets_of Try.func108 (by kernel_rfl) tbOk orc_nil mixOk (fun x y h => (e108 k x).trans h) rfl

/-! impl_isChannels: function 116 -/
noncomputable def impl_isChannels.f (a0 : Int) : Option (Bool) := (impl_within.f a0 1 4).bind fun t1 => some t1
noncomputable def S116 (k : Nat) : Does := ⟨[(false, [.dat (.int .i64)])], [(false, [.dat .bool])], fun x => impl_isChannels.f x⟩
noncomputable def E116 (k : Nat) : En := ⟨tb, orcOf [(108, S108 k)], lvOf [], k, 0, lvOf [], []⟩
theorem e116 (k : Nat) (x : dens (flatC (S116 k).ps)) : funK (E116 k) (S116 k) Try.f116 x = (S116 k).fn x := by
  kernel_rfl
theorem M116 (k : Nat) : Meets Try.prog 116 (S116 k) := meets_of Try.func116 (by kernel_rfl) tbOk (orc_cons (M108 k) orc_nil) mixOk (fun x y h => (e116 k x).trans h) rfl

/-! impl_length_int64: function 149 -/
noncomputable def impl_length_int64.f (l0 : List Int) : Option (Int) := some (l0.length : Int)
noncomputable def S149 (k : Nat) : Does := ⟨[(false, [.dat (.list (.int .i64))])], [(false, [.dat (.int .i64)])], fun x => impl_length_int64.f x⟩
noncomputable def E149 (k : Nat) : En := ⟨tb, orcOf [], lvOf [], k, 0, lvOf [], []⟩
theorem e149 (k : Nat) (x : dens (flatC (S149 k).ps)) : funK (E149 k) (S149 k) Try.f149 x = (S149 k).fn x := by
  kernel_rfl
theorem M149 (k : Nat) : Meets Try.prog 149 (S149 k) := meets_of Try.func149 (by kernel_rfl) tbOk orc_nil mixOk (fun x y h => (e149 k x).trans h) rfl

/-! impl_IsTasks_1: function 235 -/
noncomputable def impl_IsTasks_1.f (a0 : Int) : Option (Bool) := (impl_within.f a0 1 40).bind fun t1 => some t1
noncomputable def S235 (k : Nat) : Does := ⟨[(false, [.dat (.int .i64)])], [(false, [.dat .bool])], fun x => impl_IsTasks_1.f x⟩
noncomputable def E235 (k : Nat) : En := ⟨tb, orcOf [(108, S108 k)], lvOf [], k, 0, lvOf [], []⟩
theorem e235 (k : Nat) (x : dens (flatC (S235 k).ps)) : funK (E235 k) (S235 k) Try.f235 x = (S235 k).fn x := by
  kernel_rfl
theorem M235 (k : Nat) : Meets Try.prog 235 (S235 k) := meets_of Try.func235 (by kernel_rfl) tbOk (orc_cons (M108 k) orc_nil) mixOk (fun x y h => (e235 k x).trans h) rfl

/-! impl_areAll_int64_1_impl_IsTasks_1: function 217 -/
noncomputable def impl_areAll_int64_1_impl_IsTasks_1.f (a0 : Int) (a1 : Unit) : Option (Bool) := (impl_IsTasks_1.f a0).bind fun t1 => some (!decide (t1 = true))
noncomputable def S217_c235 (k : Nat) : Does := ⟨[(false, [.dat (.int .i64)]), (false, [.dat (.ptr (.clo 235 .unit))])], [(false, [.dat .bool])], fun x => impl_areAll_int64_1_impl_IsTasks_1.f x.1 x.2⟩
noncomputable def E217_c235 (k : Nat) : En := ⟨tb, orcOf [(235, S235 k)], lvOf [], k, 0, lvOf [], []⟩
theorem e217_c235 (k : Nat) (x : dens (flatC (S217_c235 k).ps)) : funK (E217_c235 k) (S217_c235 k) Try.f217 x = (S217_c235 k).fn x := by
  kernel_rfl
theorem M217_c235 (k : Nat) : Meets Try.prog 217 (S217_c235 k) := meets_of Try.func217 (by kernel_rfl) tbOk (orc_cons (M235 k) orc_nil) mixOk (fun x y h => (e217_c235 k x).trans h) rfl

/-! slices_IndexFunc_int64_int64_impl_areAll_int64_1_impl_IsTasks_1: function 236 -/
noncomputable def slices_IndexFunc_int64_int64_impl_areAll_int64_1_impl_IsTasks_1.s0 (k : Nat) (r0 : (List Int) → Unit → Int → Int → Option (Int)) (x0 : List Int) (x1 : Unit) (x7 : Int) (x8 : Int) : Option (Int) := if x8 < x7 then (if 0 ≤ x8 then (if x8 < (x0.length : Int) then ((impl_areAll_int64_1_impl_IsTasks_1.f (rd x0 x8) x1).bind fun t1 => if t1 = true then (some x8) else (r0 x0 x1 x7 (wrap64 (x8 + 1)))) else (none)) else (none)) else (some (-1))
noncomputable def slices_IndexFunc_int64_int64_impl_areAll_int64_1_impl_IsTasks_1.l0 (k : Nat) : Nat → (List Int) → Unit → Int → Int → Option (Int)
  | 0, _, _, _, _ => none
  | n + 1, x0, x1, x2, x3 => slices_IndexFunc_int64_int64_impl_areAll_int64_1_impl_IsTasks_1.s0 k (slices_IndexFunc_int64_int64_impl_areAll_int64_1_impl_IsTasks_1.l0 k n) x0 x1 x2 x3
noncomputable def slices_IndexFunc_int64_int64_impl_areAll_int64_1_impl_IsTasks_1.g (k : Nat) (r0 : (List Int) → Unit → Int → Int → Option (Int)) (l0 : List Int) (a1 : Unit) : Option (Int) := r0 l0 a1 (l0.length : Int) 0
noncomputable def slices_IndexFunc_int64_int64_impl_areAll_int64_1_impl_IsTasks_1.f (k : Nat) (l0 : List Int) (a1 : Unit) : Option (Int) := slices_IndexFunc_int64_int64_impl_areAll_int64_1_impl_IsTasks_1.g k (slices_IndexFunc_int64_int64_impl_areAll_int64_1_impl_IsTasks_1.l0 k k) l0 a1
noncomputable def S236_c217c235 (k : Nat) : Does := ⟨[(false, [.dat (.list (.int .i64))]), (false, [.dat (.clo 217 (.ptr (.clo 235 .unit)))])], [(false, [.dat (.int .i64)])], fun x => slices_IndexFunc_int64_int64_impl_areAll_int64_1_impl_IsTasks_1.f k x.1 x.2⟩
noncomputable def E236_c217c235 (k : Nat) : En := ⟨tb, orcOf [(217, S217_c235 k)], lvOf [(0, [(0, []), (1, []), (7, []), (8, [])])], k, 0, lvOf [], []⟩
noncomputable def n236_c217c235_0 (x0 : List Int) (x1 : Unit) (x7 : Int) (x8 : Int) : St := ⟨19, lookA [(0, .dat (.list (.int .i64)) x0), (1, .dat (.clo 217 (.ptr (.clo 235 .unit))) x1), (7, .dat (.int .i64) x7), (8, .dat (.int .i64) x8)], Go.V.look []⟩
def p236_c217c235_0 : List Bool := [true, false, true, false]
theorem r236_c217c235_0 (k : Nat) (rec : St → Option (Int)) (v : (List Int) × Unit × Int × Int) : roundF (E236_c217c235 k) (S236_c217c235 k) Try.f236 p236_c217c235_0 [] rec (n236_c217c235_0 v.1 v.2.1 v.2.2.1 v.2.2.2) = slices_IndexFunc_int64_int64_impl_areAll_int64_1_impl_IsTasks_1.s0 k (fun a0 a1 a2 a3 => rec (n236_c217c235_0 a0 a1 a2 a3)) v.1 v.2.1 v.2.2.1 v.2.2.2 := by
  kernel_rfl
theorem q236_c217c235_0 (k : Nat) (n : Nat) : ∀ v : (List Int) × Unit × Int × Int, loopF (E236_c217c235 k) (S236_c217c235 k) Try.f236 p236_c217c235_0 [] n (n236_c217c235_0 v.1 v.2.1 v.2.2.1 v.2.2.2) = slices_IndexFunc_int64_int64_impl_areAll_int64_1_impl_IsTasks_1.l0 k n v.1 v.2.1 v.2.2.1 v.2.2.2 :=
  loopF_eq (E236_c217c235 k) (S236_c217c235 k) Try.f236 p236_c217c235_0 [] (fun v : (List Int) × Unit × Int × Int => n236_c217c235_0 v.1 v.2.1 v.2.2.1 v.2.2.2) (fun rec v => slices_IndexFunc_int64_int64_impl_areAll_int64_1_impl_IsTasks_1.s0 k (fun a0 a1 a2 a3 => rec (a0, a1, a2, a3)) v.1 v.2.1 v.2.2.1 v.2.2.2) (fun n v => slices_IndexFunc_int64_int64_impl_areAll_int64_1_impl_IsTasks_1.l0 k n v.1 v.2.1 v.2.2.1 v.2.2.2) (fun _ => rfl) (fun _ _ => rfl) (fun rec v => r236_c217c235_0 k rec v) n
theorem e236_c217c235 (k : Nat) (x : dens (flatC (S236_c217c235 k).ps)) : funK (E236_c217c235 k) (S236_c217c235 k) Try.f236 x = (S236_c217c235 k).fn x := by
  have h : funK (E236_c217c235 k) (S236_c217c235 k) Try.f236 x = slices_IndexFunc_int64_int64_impl_areAll_int64_1_impl_IsTasks_1.g k (fun a0 a1 a2 a3 => loopF (E236_c217c235 k) (S236_c217c235 k) Try.f236 p236_c217c235_0 [] k (n236_c217c235_0 a0 a1 a2 a3)) x.1 x.2 := by kernel_rfl
  rw [h]
  rw [show (fun a0 a1 a2 a3 => loopF (E236_c217c235 k) (S236_c217c235 k) Try.f236 p236_c217c235_0 [] k (n236_c217c235_0 a0 a1 a2 a3)) = slices_IndexFunc_int64_int64_impl_areAll_int64_1_impl_IsTasks_1.l0 k k from funext fun a0 => funext fun a1 => funext fun a2 => funext fun a3 => q236_c217c235_0 k k (a0, a1, a2, a3)]
  rfl
theorem M236_c217c235 (k : Nat) : Meets Try.prog 236 (S236_c217c235 k) := meets_of Try.func236 (by kernel_rfl) tbOk (orc_cons (M217_c235 k) orc_nil) mixOk (fun x y h => (e236_c217c235 k x).trans h) rfl

/-! slices_ContainsFunc_int64_int64_impl_areAll_int64_1_impl_IsTasks_1: function 216 -/
noncomputable def slices_ContainsFunc_int64_int64_impl_areAll_int64_1_impl_IsTasks_1.f (k : Nat) (l0 : List Int) (a1 : Unit) : Option (Bool) := (slices_IndexFunc_int64_int64_impl_areAll_int64_1_impl_IsTasks_1.f k l0 a1).bind fun t1 => some (decide (0 ≤ t1))
noncomputable def S216_c217c235 (k : Nat) : Does := ⟨[(false, [.dat (.list (.int .i64))]), (false, [.dat (.clo 217 (.ptr (.clo 235 .unit)))])], [(false, [.dat .bool])], fun x => slices_ContainsFunc_int64_int64_impl_areAll_int64_1_impl_IsTasks_1.f k x.1 x.2⟩
noncomputable def E216_c217c235 (k : Nat) : En := ⟨tb, orcOf [(236, S236_c217c235 k)], lvOf [], k, 0, lvOf [], []⟩
theorem e216_c217c235 (k : Nat) (x : dens (flatC (S216_c217c235 k).ps)) : funK (E216_c217c235 k) (S216_c217c235 k) Try.f216 x = (S216_c217c235 k).fn x := by
  kernel_rfl
theorem M216_c217c235 (k : Nat) : Meets Try.prog 216 (S216_c217c235 k) := meets_of Try.func216 (by kernel_rfl) tbOk (orc_cons (M236_c217c235 k) orc_nil) mixOk (fun x y h => (e216_c217c235 k x).trans h) rfl

/-! impl_areAll_int64_impl_IsTasks_1: function 148 -/
noncomputable def impl_areAll_int64_impl_IsTasks_1.f (k : Nat) (l0 : List Int) (a1 : Unit) : Option (Bool) := (slices_ContainsFunc_int64_int64_impl_areAll_int64_1_impl_IsTasks_1.f k l0 a1).bind fun t1 => some (!decide (t1 = true))
noncomputable def S148_c235 (k : Nat) : Does := ⟨[(false, [.dat (.list (.int .i64))]), (false, [.dat (.clo 235 .unit)])], [(false, [.dat .bool])], fun x => impl_areAll_int64_impl_IsTasks_1.f k x.1 x.2⟩
noncomputable def E148_c235 (k : Nat) : En := ⟨tb, orcOf [(216, S216_c217c235 k)], lvOf [], k, 0, lvOf [], []⟩
theorem e148_c235 (k : Nat) (x : dens (flatC (S148_c235 k).ps)) : funK (E148_c235 k) (S148_c235 k) Try.f148 x = (S148_c235 k).fn x := by
  kernel_rfl
theorem M148_c235 (k : Nat) : Meets Try.prog 148 (S148_c235 k) := meets_of Try.func148 (by kernel_rfl) tbOk (orc_cons (M216_c217c235 k) orc_nil) mixOk (fun x y h => (e148_c235 k x).trans h) rfl

/-! impl_IsTasks: function 214 -/
noncomputable def impl_IsTasks.f (k : Nat) (l0_0 : List Int) : Option (Bool) := (impl_length_int64.f l0_0).bind fun t1 => (impl_within.f t1 1 8).bind fun t2 => if t2 = true then ((impl_areAll_int64_impl_IsTasks_1.f k l0_0 ()).bind fun t3 => some t3) else (some false)
noncomputable def S214 (k : Nat) : Does := ⟨[(true, [.dat (.list (.int .i64))])], [(false, [.dat .bool])], fun x => impl_IsTasks.f k x⟩
noncomputable def E214 (k : Nat) : En := ⟨tb, orcOf [(149, S149 k), (108, S108 k), (148, S148_c235 k)], lvOf [], k, 0, lvOf [], []⟩
theorem e214 (k : Nat) (x : dens (flatC (S214 k).ps)) : funK (E214 k) (S214 k) Try.f214 x = (S214 k).fn x := by
  kernel_rfl
theorem M214 (k : Nat) : Meets Try.prog 214 (S214 k) := meets_of Try.func214 (by kernel_rfl) tbOk (orc_cons (M149 k) (orc_cons (M108 k) (orc_cons (M148_c235 k) orc_nil))) mixOk (fun x y h => (e214 k x).trans h) rfl

/-! impl_tasksCode: function 138 -/
noncomputable def impl_tasksCode.f (k : Nat) (l0_0 : List Int) (a1 : Bool) : Option (Int) := (impl_IsTasks.f k l0_0).bind fun t1 => if (!decide (t1 = true)) = true then (some 1) else (if (!decide (a1 = true)) = true then (some 2) else (some 0))
noncomputable def S138 (k : Nat) : Does := ⟨[(true, [.dat (.list (.int .i64))]), (false, [.dat .bool])], [(false, [.dat (.int .i64)])], fun x => impl_tasksCode.f k x.1 x.2⟩
noncomputable def E138 (k : Nat) : En := ⟨tb, orcOf [(214, S214 k)], lvOf [], k, 0, lvOf [], []⟩
theorem e138 (k : Nat) (x : dens (flatC (S138 k).ps)) : funK (E138 k) (S138 k) Try.f138 x = (S138 k).fn x := by
  kernel_rfl
theorem M138 (k : Nat) : Meets Try.prog 138 (S138 k) := meets_of Try.func138 (by kernel_rfl) tbOk (orc_cons (M214 k) orc_nil) mixOk (fun x y h => (e138 k x).trans h) rfl

/-! impl_Tasks_states: function 124 -/
noncomputable def impl_Tasks_states.s0 (k : Nat) (r0 : Int → (List Int) → Int → Int → Option (Int)) (x3 : Int) (x7 : List Int) (x8 : Int) (x9 : Int) : Option (Int) := if x9 < x8 then (if 0 ≤ x9 then (if x9 < (x7.length : Int) then (r0 (wrap64 (x3 * (rd x7 x9))) x7 x8 (wrap64 (x9 + 1))) else (none)) else (none)) else (some x3)
noncomputable def impl_Tasks_states.l0 (k : Nat) : Nat → Int → (List Int) → Int → Int → Option (Int)
  | 0, _, _, _, _ => none
  | n + 1, x0, x1, x2, x3 => impl_Tasks_states.s0 k (impl_Tasks_states.l0 k n) x0 x1 x2 x3
noncomputable def impl_Tasks_states.g (k : Nat) (r0 : Int → (List Int) → Int → Int → Option (Int)) (l0_0 : List Int) : Option (Int) := r0 1 l0_0 (l0_0.length : Int) 0
noncomputable def impl_Tasks_states.f (k : Nat) (l0_0 : List Int) : Option (Int) := impl_Tasks_states.g k (impl_Tasks_states.l0 k k) l0_0
noncomputable def S124 (k : Nat) : Does := ⟨[(true, [.dat (.list (.int .i64))])], [(false, [.dat (.int .i64)])], fun x => impl_Tasks_states.f k x⟩
noncomputable def E124 (k : Nat) : En := ⟨tb, orcOf [], lvOf [(0, [(3, []), (7, []), (8, []), (9, [])])], k, 0, lvOf [], []⟩
noncomputable def n124_0 (x3 : Int) (x7 : List Int) (x8 : Int) (x9 : Int) : St := ⟨18, lookA [(3, .dat (.int .i64) x3), (7, .dat (.list (.int .i64)) x7), (8, .dat (.int .i64) x8), (9, .dat (.int .i64) x9)], Go.V.look []⟩
def p124_0 : List Bool := [true, true, false, true, false]
theorem r124_0 (k : Nat) (rec : St → Option (Int)) (v : Int × (List Int) × Int × Int) : roundF (E124 k) (S124 k) Try.f124 p124_0 [] rec (n124_0 v.1 v.2.1 v.2.2.1 v.2.2.2) = impl_Tasks_states.s0 k (fun a0 a1 a2 a3 => rec (n124_0 a0 a1 a2 a3)) v.1 v.2.1 v.2.2.1 v.2.2.2 := by
  kernel_rfl
theorem q124_0 (k : Nat) (n : Nat) : ∀ v : Int × (List Int) × Int × Int, loopF (E124 k) (S124 k) Try.f124 p124_0 [] n (n124_0 v.1 v.2.1 v.2.2.1 v.2.2.2) = impl_Tasks_states.l0 k n v.1 v.2.1 v.2.2.1 v.2.2.2 :=
  loopF_eq (E124 k) (S124 k) Try.f124 p124_0 [] (fun v : Int × (List Int) × Int × Int => n124_0 v.1 v.2.1 v.2.2.1 v.2.2.2) (fun rec v => impl_Tasks_states.s0 k (fun a0 a1 a2 a3 => rec (a0, a1, a2, a3)) v.1 v.2.1 v.2.2.1 v.2.2.2) (fun n v => impl_Tasks_states.l0 k n v.1 v.2.1 v.2.2.1 v.2.2.2) (fun _ => rfl) (fun _ _ => rfl) (fun rec v => r124_0 k rec v) n
theorem e124 (k : Nat) (x : dens (flatC (S124 k).ps)) : funK (E124 k) (S124 k) Try.f124 x = (S124 k).fn x := by
  have h : funK (E124 k) (S124 k) Try.f124 x = impl_Tasks_states.g k (fun a0 a1 a2 a3 => loopF (E124 k) (S124 k) Try.f124 p124_0 [] k (n124_0 a0 a1 a2 a3)) x := by kernel_rfl
  rw [h]
  rw [show (fun a0 a1 a2 a3 => loopF (E124 k) (S124 k) Try.f124 p124_0 [] k (n124_0 a0 a1 a2 a3)) = impl_Tasks_states.l0 k k from funext fun a0 => funext fun a1 => funext fun a2 => funext fun a3 => q124_0 k k (a0, a1, a2, a3)]
  rfl
theorem M124 (k : Nat) : Meets Try.prog 124 (S124 k) := meets_of Try.func124 (by kernel_rfl) tbOk orc_nil mixOk (fun x y h => (e124 k x).trans h) rfl

/-! impl_statesCode: function 115 -/
noncomputable def impl_statesCode.f (k : Nat) (l0_0 : List Int) (a1 : Bool) : Option (Int) := (impl_tasksCode.f k l0_0 a1).bind fun t1 => if t1 = 0 then ((impl_Tasks_states.f k l0_0).bind fun t2 => if 4000 < t2 then (some 3) else (some 0)) else (some t1)
noncomputable def S115 (k : Nat) : Does := ⟨[(true, [.dat (.list (.int .i64))]), (false, [.dat .bool])], [(false, [.dat (.int .i64)])], fun x => impl_statesCode.f k x.1 x.2⟩
noncomputable def E115 (k : Nat) : En := ⟨tb, orcOf [(138, S138 k), (124, S124 k)], lvOf [], k, 0, lvOf [], []⟩
theorem e115 (k : Nat) (x : dens (flatC (S115 k).ps)) : funK (E115 k) (S115 k) Try.f115 x = (S115 k).fn x := by
  kernel_rfl
theorem M115 (k : Nat) : Meets Try.prog 115 (S115 k) := meets_of Try.func115 (by kernel_rfl) tbOk (orc_cons (M138 k) (orc_cons (M124 k) orc_nil)) mixOk (fun x y h => (e115 k x).trans h) rfl

/-! impl_Tasks_many: function 197 -/
noncomputable def impl_Tasks_many.f (l0_0 : List Int) : Option (Int) := (impl_length_int64.f l0_0).bind fun t1 => some t1
noncomputable def S197 (k : Nat) : Does := ⟨[(true, [.dat (.list (.int .i64))])], [(false, [.dat (.int .i64)])], fun x => impl_Tasks_many.f x⟩
noncomputable def E197 (k : Nat) : En := ⟨tb, orcOf [(149, S149 k)], lvOf [], k, 0, lvOf [], []⟩
theorem e197 (k : Nat) (x : dens (flatC (S197 k).ps)) : funK (E197 k) (S197 k) Try.f197 x = (S197 k).fn x := by
  kernel_rfl
theorem M197 (k : Nat) : Meets Try.prog 197 (S197 k) := meets_of Try.func197 (by kernel_rfl) tbOk (orc_cons (M149 k) orc_nil) mixOk (fun x y h => (e197 k x).trans h) rfl

/-! impl_Tasks_numbered: function 155 -/
noncomputable def impl_Tasks_numbered.s0 (k : Nat) (r0 : Int → (List Int) → (List Int) → Int → Option ((List Int))) (x1 : Int) (x2_0 : List Int) (x5 : List Int) (x6 : Int) : Option ((List Int)) := if 0 ≤ x6 then (if 0 ≤ x6 then (if x6 < (x2_0.length : Int) then (if (rd x2_0 x6) = 0 then (none) else (if 0 ≤ x6 then (if x6 < (x5.length : Int) then (if 0 ≤ x6 then (if x6 < (x2_0.length : Int) then (if (rd x2_0 x6) = 0 then (none) else (r0 (wrap64 (Int.tdiv x1 (rd x2_0 x6))) x2_0 (x5.set x6.toNat (wrap64 ((Int.tmod x1 (rd x2_0 x6)) + 1))) (wrap64 (x6 - 1)))) else (none)) else (none)) else (none)) else (none))) else (none)) else (none)) else (some x5)
noncomputable def impl_Tasks_numbered.l0 (k : Nat) : Nat → Int → (List Int) → (List Int) → Int → Option ((List Int))
  | 0, _, _, _, _ => none
  | n + 1, x0, x1, x2, x3 => impl_Tasks_numbered.s0 k (impl_Tasks_numbered.l0 k n) x0 x1 x2 x3
noncomputable def impl_Tasks_numbered.g (k : Nat) (r0 : Int → (List Int) → (List Int) → Int → Option ((List Int))) (l0_0 : List Int) (a1 : Int) : Option ((List Int)) := (impl_Tasks_many.f l0_0).bind fun t1 => if 0 ≤ t1 then (if t1 ≤ t1 then (if t1.toNat ≤ 1099511627776 then ((impl_Tasks_many.f l0_0).bind fun t2 => r0 a1 l0_0 (List.replicate t1.toNat (0 : Int)) (wrap64 (t2 - 1))) else (none)) else (none)) else (none)
noncomputable def impl_Tasks_numbered.f (k : Nat) (l0_0 : List Int) (a1 : Int) : Option ((List Int)) := impl_Tasks_numbered.g k (impl_Tasks_numbered.l0 k k) l0_0 a1
noncomputable def S155 (k : Nat) : Does := ⟨[(true, [.dat (.list (.int .i64))]), (false, [.dat (.int .i64)])], [(false, [.own 2 (.int .i64)])], fun x => impl_Tasks_numbered.f k x.1 x.2⟩
noncomputable def E155 (k : Nat) : En := ⟨tb, orcOf [(197, S197 k)], lvOf [(0, [(1, []), (2, []), (5, []), (6, [])])], k, 0, lvOf [], []⟩
noncomputable def n155_0 (x1 : Int) (x2_0 : List Int) (x5 : List Int) (x6 : Int) : St := ⟨36, lookA [(1, .dat (.int .i64) x1), (2, .box 0 0), (5, .own 1), (6, .dat (.int .i64) x6)], Go.V.look [(0, .cells [.dat (.list (.int .i64)) x2_0]), (1, .flat 2 (.int .i64) x5)]⟩
def p155_0 : List Bool := [true, true, false, true, false]
theorem r155_0 (k : Nat) (rec : St → Option ((List Int))) (v : Int × (List Int) × (List Int) × Int) : roundF (E155 k) (S155 k) Try.f155 p155_0 [] rec (n155_0 v.1 v.2.1 v.2.2.1 v.2.2.2) = impl_Tasks_numbered.s0 k (fun a0 a1 a2 a3 => rec (n155_0 a0 a1 a2 a3)) v.1 v.2.1 v.2.2.1 v.2.2.2 := by
  kernel_rfl
theorem q155_0 (k : Nat) (n : Nat) : ∀ v : Int × (List Int) × (List Int) × Int, loopF (E155 k) (S155 k) Try.f155 p155_0 [] n (n155_0 v.1 v.2.1 v.2.2.1 v.2.2.2) = impl_Tasks_numbered.l0 k n v.1 v.2.1 v.2.2.1 v.2.2.2 :=
  loopF_eq (E155 k) (S155 k) Try.f155 p155_0 [] (fun v : Int × (List Int) × (List Int) × Int => n155_0 v.1 v.2.1 v.2.2.1 v.2.2.2) (fun rec v => impl_Tasks_numbered.s0 k (fun a0 a1 a2 a3 => rec (a0, a1, a2, a3)) v.1 v.2.1 v.2.2.1 v.2.2.2) (fun n v => impl_Tasks_numbered.l0 k n v.1 v.2.1 v.2.2.1 v.2.2.2) (fun _ => rfl) (fun _ _ => rfl) (fun rec v => r155_0 k rec v) n
theorem e155 (k : Nat) (x : dens (flatC (S155 k).ps)) : funK (E155 k) (S155 k) Try.f155 x = (S155 k).fn x := by
  have h : funK (E155 k) (S155 k) Try.f155 x = impl_Tasks_numbered.g k (fun a0 a1 a2 a3 => loopF (E155 k) (S155 k) Try.f155 p155_0 [] k (n155_0 a0 a1 a2 a3)) x.1 x.2 := by kernel_rfl
  rw [h]
  rw [show (fun a0 a1 a2 a3 => loopF (E155 k) (S155 k) Try.f155 p155_0 [] k (n155_0 a0 a1 a2 a3)) = impl_Tasks_numbered.l0 k k from funext fun a0 => funext fun a1 => funext fun a2 => funext fun a3 => q155_0 k k (a0, a1, a2, a3)]
  rfl
theorem M155 (k : Nat) : Meets Try.prog 155 (S155 k) := meets_of Try.func155 (by kernel_rfl) tbOk (orc_cons (M197 k) orc_nil) mixOk (fun x y h => (e155 k x).trans h) rfl

/-! bits_OnesCount64: function 240 -/
noncomputable def bits_OnesCount64.f (a0 : Int) : Option (Int) := some (andV .i64 (wrap64 ((IntKind.wrap .u64 ((IntKind.wrap .u64 ((IntKind.wrap .u64 ((andV .u64 (IntKind.wrap .u64 ((shrV .u64 (IntKind.wrap .u64 ((andV .u64 (shrV .u64 (IntKind.wrap .u64 ((andV .u64 (shrV .u64 a0 1) 6148914691236517205) + (andV .u64 a0 6148914691236517205))) 2) 3689348814741910323) + (andV .u64 (IntKind.wrap .u64 ((andV .u64 (shrV .u64 a0 1) 6148914691236517205) + (andV .u64 a0 6148914691236517205))) 3689348814741910323))) 4) + (IntKind.wrap .u64 ((andV .u64 (shrV .u64 (IntKind.wrap .u64 ((andV .u64 (shrV .u64 a0 1) 6148914691236517205) + (andV .u64 a0 6148914691236517205))) 2) 3689348814741910323) + (andV .u64 (IntKind.wrap .u64 ((andV .u64 (shrV .u64 a0 1) 6148914691236517205) + (andV .u64 a0 6148914691236517205))) 3689348814741910323))))) 1085102592571150095) + (shrV .u64 (andV .u64 (IntKind.wrap .u64 ((shrV .u64 (IntKind.wrap .u64 ((andV .u64 (shrV .u64 (IntKind.wrap .u64 ((andV .u64 (shrV .u64 a0 1) 6148914691236517205) + (andV .u64 a0 6148914691236517205))) 2) 3689348814741910323) + (andV .u64 (IntKind.wrap .u64 ((andV .u64 (shrV .u64 a0 1) 6148914691236517205) + (andV .u64 a0 6148914691236517205))) 3689348814741910323))) 4) + (IntKind.wrap .u64 ((andV .u64 (shrV .u64 (IntKind.wrap .u64 ((andV .u64 (shrV .u64 a0 1) 6148914691236517205) + (andV .u64 a0 6148914691236517205))) 2) 3689348814741910323) + (andV .u64 (IntKind.wrap .u64 ((andV .u64 (shrV .u64 a0 1) 6148914691236517205) + (andV .u64 a0 6148914691236517205))) 3689348814741910323))))) 1085102592571150095) 8))) + (shrV .u64 (IntKind.wrap .u64 ((andV .u64 (IntKind.wrap .u64 ((shrV .u64 (IntKind.wrap .u64 ((andV .u64 (shrV .u64 (IntKind.wrap .u64 ((andV .u64 (shrV .u64 a0 1) 6148914691236517205) + (andV .u64 a0 6148914691236517205))) 2) 3689348814741910323) + (andV .u64 (IntKind.wrap .u64 ((andV .u64 (shrV .u64 a0 1) 6148914691236517205) + (andV .u64 a0 6148914691236517205))) 3689348814741910323))) 4) + (IntKind.wrap .u64 ((andV .u64 (shrV .u64 (IntKind.wrap .u64 ((andV .u64 (shrV .u64 a0 1) 6148914691236517205) + (andV .u64 a0 6148914691236517205))) 2) 3689348814741910323) + (andV .u64 (IntKind.wrap .u64 ((andV .u64 (shrV .u64 a0 1) 6148914691236517205) + (andV .u64 a0 6148914691236517205))) 3689348814741910323))))) 1085102592571150095) + (shrV .u64 (andV .u64 (IntKind.wrap .u64 ((shrV .u64 (IntKind.wrap .u64 ((andV .u64 (shrV .u64 (IntKind.wrap .u64 ((andV .u64 (shrV .u64 a0 1) 6148914691236517205) + (andV .u64 a0 6148914691236517205))) 2) 3689348814741910323) + (andV .u64 (IntKind.wrap .u64 ((andV .u64 (shrV .u64 a0 1) 6148914691236517205) + (andV .u64 a0 6148914691236517205))) 3689348814741910323))) 4) + (IntKind.wrap .u64 ((andV .u64 (shrV .u64 (IntKind.wrap .u64 ((andV .u64 (shrV .u64 a0 1) 6148914691236517205) + (andV .u64 a0 6148914691236517205))) 2) 3689348814741910323) + (andV .u64 (IntKind.wrap .u64 ((andV .u64 (shrV .u64 a0 1) 6148914691236517205) + (andV .u64 a0 6148914691236517205))) 3689348814741910323))))) 1085102592571150095) 8))) 16))) + (shrV .u64 (IntKind.wrap .u64 ((IntKind.wrap .u64 ((andV .u64 (IntKind.wrap .u64 ((shrV .u64 (IntKind.wrap .u64 ((andV .u64 (shrV .u64 (IntKind.wrap .u64 ((andV .u64 (shrV .u64 a0 1) 6148914691236517205) + (andV .u64 a0 6148914691236517205))) 2) 3689348814741910323) + (andV .u64 (IntKind.wrap .u64 ((andV .u64 (shrV .u64 a0 1) 6148914691236517205) + (andV .u64 a0 6148914691236517205))) 3689348814741910323))) 4) + (IntKind.wrap .u64 ((andV .u64 (shrV .u64 (IntKind.wrap .u64 ((andV .u64 (shrV .u64 a0 1) 6148914691236517205) + (andV .u64 a0 6148914691236517205))) 2) 3689348814741910323) + (andV .u64 (IntKind.wrap .u64 ((andV .u64 (shrV .u64 a0 1) 6148914691236517205) + (andV .u64 a0 6148914691236517205))) 3689348814741910323))))) 1085102592571150095) + (shrV .u64 (andV .u64 (IntKind.wrap .u64 ((shrV .u64 (IntKind.wrap .u64 ((andV .u64 (shrV .u64 (IntKind.wrap .u64 ((andV .u64 (shrV .u64 a0 1) 6148914691236517205) + (andV .u64 a0 6148914691236517205))) 2) 3689348814741910323) + (andV .u64 (IntKind.wrap .u64 ((andV .u64 (shrV .u64 a0 1) 6148914691236517205) + (andV .u64 a0 6148914691236517205))) 3689348814741910323))) 4) + (IntKind.wrap .u64 ((andV .u64 (shrV .u64 (IntKind.wrap .u64 ((andV .u64 (shrV .u64 a0 1) 6148914691236517205) + (andV .u64 a0 6148914691236517205))) 2) 3689348814741910323) + (andV .u64 (IntKind.wrap .u64 ((andV .u64 (shrV .u64 a0 1) 6148914691236517205) + (andV .u64 a0 6148914691236517205))) 3689348814741910323))))) 1085102592571150095) 8))) + (shrV .u64 (IntKind.wrap .u64 ((andV .u64 (IntKind.wrap .u64 ((shrV .u64 (IntKind.wrap .u64 ((andV .u64 (shrV .u64 (IntKind.wrap .u64 ((andV .u64 (shrV .u64 a0 1) 6148914691236517205) + (andV .u64 a0 6148914691236517205))) 2) 3689348814741910323) + (andV .u64 (IntKind.wrap .u64 ((andV .u64 (shrV .u64 a0 1) 6148914691236517205) + (andV .u64 a0 6148914691236517205))) 3689348814741910323))) 4) + (IntKind.wrap .u64 ((andV .u64 (shrV .u64 (IntKind.wrap .u64 ((andV .u64 (shrV .u64 a0 1) 6148914691236517205) + (andV .u64 a0 6148914691236517205))) 2) 3689348814741910323) + (andV .u64 (IntKind.wrap .u64 ((andV .u64 (shrV .u64 a0 1) 6148914691236517205) + (andV .u64 a0 6148914691236517205))) 3689348814741910323))))) 1085102592571150095) + (shrV .u64 (andV .u64 (IntKind.wrap .u64 ((shrV .u64 (IntKind.wrap .u64 ((andV .u64 (shrV .u64 (IntKind.wrap .u64 ((andV .u64 (shrV .u64 a0 1) 6148914691236517205) + (andV .u64 a0 6148914691236517205))) 2) 3689348814741910323) + (andV .u64 (IntKind.wrap .u64 ((andV .u64 (shrV .u64 a0 1) 6148914691236517205) + (andV .u64 a0 6148914691236517205))) 3689348814741910323))) 4) + (IntKind.wrap .u64 ((andV .u64 (shrV .u64 (IntKind.wrap .u64 ((andV .u64 (shrV .u64 a0 1) 6148914691236517205) + (andV .u64 a0 6148914691236517205))) 2) 3689348814741910323) + (andV .u64 (IntKind.wrap .u64 ((andV .u64 (shrV .u64 a0 1) 6148914691236517205) + (andV .u64 a0 6148914691236517205))) 3689348814741910323))))) 1085102592571150095) 8))) 16))) 32))))) 127)
noncomputable def S240 (k : Nat) : Does := ⟨[(false, [.dat (.int .u64)])], [(false, [.dat (.int .i64)])], fun x => bits_OnesCount64.f x⟩
noncomputable def E240 (k : Nat) : En := ⟨tb, orcOf [], lvOf [], k, 0, lvOf [], []⟩
theorem e240 (k : Nat) (x : dens (flatC (S240 k).ps)) : funK (E240 k) (S240 k) Try.f240 x = (S240 k).fn x := by
  kernel_rfl
theorem M240 (k : Nat) : Meets Try.prog 240 (S240 k) := meets_of Try.func240 (by kernel_rfl) tbOk orc_nil mixOk (fun x y h => (e240 k x).trans h) rfl

/-! impl_members: function 232 -/
noncomputable def impl_members.f (a0 : Int) : Option (Int) := (bits_OnesCount64.f (IntKind.wrap .u64 (a0))).bind fun t1 => some t1
noncomputable def S232 (k : Nat) : Does := ⟨[(false, [.dat (.int .i64)])], [(false, [.dat (.int .i64)])], fun x => impl_members.f x⟩
noncomputable def E232 (k : Nat) : En := ⟨tb, orcOf [(240, S240 k)], lvOf [], k, 0, lvOf [], []⟩
theorem e232 (k : Nat) (x : dens (flatC (S232 k).ps)) : funK (E232 k) (S232 k) Try.f232 x = (S232 k).fn x := by
  kernel_rfl
theorem M232 (k : Nat) : Meets Try.prog 232 (S232 k) := meets_of Try.func232 (by kernel_rfl) tbOk (orc_cons (M240 k) orc_nil) mixOk (fun x y h => (e232 k x).trans h) rfl

/-! slices_Clone_int64_int64: function 125 -/
def slices_Clone_int64_int64.f (l : List Int) : Option (List Int) := if l.length = 0 then some [] else if 0 + l.length ≤ 1099511627776 then some ([] ++ l) else none
def S125 (k : Nat) : Does := ⟨[(false, [.dat (.list (.int .i64))])], [(false, [.own 2 (.int .i64)])], fun x => slices_Clone_int64_int64.f x⟩
def E125 : En := ⟨tb, orcOf [], lvOf [], 0, 0, lvOf [], []⟩
theorem slices_Clone_int64_int64.e (l : List Int) (h : l.length ≠ 0) : slices_Clone_int64_int64.f l = (if l.length = 0 then none else if 0 + l.length ≤ 1099511627776 then some ([] ++ l) else none) := by
  unfold slices_Clone_int64_int64.f; rw [if_neg h, if_neg h]
theorem M125 (k : Nat) : Meets Try.prog 125 (S125 k) := by
  refine meets_nil (E := E125) (t := (.int .i64)) (rs := [(false, [.own 2 (.int .i64)])]) (F := slices_Clone_int64_int64.f) Try.func125 (by kernel_rfl) tbOk orc_nil mixOk rfl rfl rfl (fun l hl => ?_) (by kernel_rfl) (by kernel_rfl)
  refine Eq.trans ?_ (slices_Clone_int64_int64.e l hl).symm
  kernel_rfl

/-! impl_Tasks_setStep: function 233 -/
noncomputable def impl_Tasks_setStep.s0 (k : Nat) (r0 : Int → (List Int) → (List Int) → Int → Int → Option ((List Int) × Bool)) (x2 : Int) (x3_0 : List Int) (x8 : List Int) (x13 : Int) (x14 : Int) : Option ((List Int) × Bool) := if x14 < x13 then (if x14 < 0 then (none) else (if (decide ((andV .i64 (shrV .i64 x2 x14) 1) = 1)) = true then (if 0 ≤ x14 then (if x14 < (x3_0.length : Int) then (if 0 ≤ x14 then (if x14 < (x8.length : Int) then (r0 x2 x3_0 (x8.set x14.toNat (rd x3_0 x14)) x13 (wrap64 (x14 + 1))) else (none)) else (none)) else (none)) else (none)) else (if 0 ≤ x14 then (if x14 < (x8.length : Int) then (if (decide ((rd x8 x14) < 2)) = true then (some ([], false)) else (if 0 ≤ x14 then (if x14 < (x8.length : Int) then (if 0 ≤ x14 then (if x14 < (x8.length : Int) then (r0 x2 x3_0 (x8.set x14.toNat (wrap64 ((rd x8 x14) - 1))) x13 (wrap64 (x14 + 1))) else (none)) else (none)) else (none)) else (none))) else (none)) else (none)))) else (some (x8, true))
noncomputable def impl_Tasks_setStep.l0 (k : Nat) : Nat → Int → (List Int) → (List Int) → Int → Int → Option ((List Int) × Bool)
  | 0, _, _, _, _, _ => none
  | n + 1, x0, x1, x2, x3, x4 => impl_Tasks_setStep.s0 k (impl_Tasks_setStep.l0 k n) x0 x1 x2 x3 x4
noncomputable def impl_Tasks_setStep.g (k : Nat) (r0 : Int → (List Int) → (List Int) → Int → Int → Option ((List Int) × Bool)) (l0_0 : List Int) (l1 : List Int) (a2 : Int) : Option ((List Int) × Bool) := (slices_Clone_int64_int64.f l1).bind fun t1 => r0 a2 l0_0 t1 (t1.length : Int) 0
noncomputable def impl_Tasks_setStep.f (k : Nat) (l0_0 : List Int) (l1 : List Int) (a2 : Int) : Option ((List Int) × Bool) := impl_Tasks_setStep.g k (impl_Tasks_setStep.l0 k k) l0_0 l1 a2
noncomputable def S233 (k : Nat) : Does := ⟨[(true, [.dat (.list (.int .i64))]), (false, [.dat (.list (.int .i64))]), (false, [.dat (.int .i64)])], [(false, [.own 2 (.int .i64)]), (false, [.dat .bool])], fun x => impl_Tasks_setStep.f k x.1 x.2.1 x.2.2⟩
noncomputable def E233 (k : Nat) : En := ⟨tb, orcOf [(125, S125 k)], lvOf [(0, [(2, []), (3, []), (8, []), (13, []), (14, [])])], k, 0, lvOf [], []⟩
noncomputable def n233_0 (x2 : Int) (x3_0 : List Int) (x8 : List Int) (x13 : Int) (x14 : Int) : St := ⟨45, lookA [(2, .dat (.int .i64) x2), (3, .box 0 0), (8, .own 1), (13, .dat (.int .i64) x13), (14, .dat (.int .i64) x14)], Go.V.look [(0, .cells [.dat (.list (.int .i64)) x3_0]), (1, .flat 2 (.int .i64) x8)]⟩
def p233_0 : List Bool := [true, true, false, true, false]
theorem r233_0 (k : Nat) (rec : St → Option ((List Int) × Bool)) (v : Int × (List Int) × (List Int) × Int × Int) : roundF (E233 k) (S233 k) Try.f233 p233_0 [] rec (n233_0 v.1 v.2.1 v.2.2.1 v.2.2.2.1 v.2.2.2.2) = impl_Tasks_setStep.s0 k (fun a0 a1 a2 a3 a4 => rec (n233_0 a0 a1 a2 a3 a4)) v.1 v.2.1 v.2.2.1 v.2.2.2.1 v.2.2.2.2 := by
  kernel_rfl
theorem q233_0 (k : Nat) (n : Nat) : ∀ v : Int × (List Int) × (List Int) × Int × Int, loopF (E233 k) (S233 k) Try.f233 p233_0 [] n (n233_0 v.1 v.2.1 v.2.2.1 v.2.2.2.1 v.2.2.2.2) = impl_Tasks_setStep.l0 k n v.1 v.2.1 v.2.2.1 v.2.2.2.1 v.2.2.2.2 :=
  loopF_eq (E233 k) (S233 k) Try.f233 p233_0 [] (fun v : Int × (List Int) × (List Int) × Int × Int => n233_0 v.1 v.2.1 v.2.2.1 v.2.2.2.1 v.2.2.2.2) (fun rec v => impl_Tasks_setStep.s0 k (fun a0 a1 a2 a3 a4 => rec (a0, a1, a2, a3, a4)) v.1 v.2.1 v.2.2.1 v.2.2.2.1 v.2.2.2.2) (fun n v => impl_Tasks_setStep.l0 k n v.1 v.2.1 v.2.2.1 v.2.2.2.1 v.2.2.2.2) (fun _ => rfl) (fun _ _ => rfl) (fun rec v => r233_0 k rec v) n
theorem e233 (k : Nat) (x : dens (flatC (S233 k).ps)) : funK (E233 k) (S233 k) Try.f233 x = (S233 k).fn x := by
  have h : funK (E233 k) (S233 k) Try.f233 x = impl_Tasks_setStep.g k (fun a0 a1 a2 a3 a4 => loopF (E233 k) (S233 k) Try.f233 p233_0 [] k (n233_0 a0 a1 a2 a3 a4)) x.1 x.2.1 x.2.2 := by kernel_rfl
  rw [h]
  rw [show (fun a0 a1 a2 a3 a4 => loopF (E233 k) (S233 k) Try.f233 p233_0 [] k (n233_0 a0 a1 a2 a3 a4)) = impl_Tasks_setStep.l0 k k from funext fun a0 => funext fun a1 => funext fun a2 => funext fun a3 => funext fun a4 => q233_0 k k (a0, a1, a2, a3, a4)]
  rfl
theorem M233 (k : Nat) : Meets Try.prog 233 (S233 k) := meets_of Try.func233 (by kernel_rfl) tbOk (orc_cons (M125 k) orc_nil) mixOk (fun x y h => (e233 k x).trans h) rfl

/-! impl_Tasks_number: function 130 -/
noncomputable def impl_Tasks_number.s0 (k : Nat) (r0 : (List Int) → Int → (List Int) → Int → Int → Option (Int)) (x2_0 : List Int) (x5 : Int) (x8 : List Int) (x9 : Int) (x10 : Int) : Option (Int) := if x10 < x9 then (if 0 ≤ x10 then (if x10 < (x8.length : Int) then (if 0 ≤ x10 then (if x10 < (x2_0.length : Int) then (r0 x2_0 (wrap64 ((wrap64 ((wrap64 (x5 * (rd x2_0 x10))) + (rd x8 x10))) - 1)) x8 x9 (wrap64 (x10 + 1))) else (none)) else (none)) else (none)) else (none)) else (some x5)
noncomputable def impl_Tasks_number.l0 (k : Nat) : Nat → (List Int) → Int → (List Int) → Int → Int → Option (Int)
  | 0, _, _, _, _, _ => none
  | n + 1, x0, x1, x2, x3, x4 => impl_Tasks_number.s0 k (impl_Tasks_number.l0 k n) x0 x1 x2 x3 x4
noncomputable def impl_Tasks_number.g (k : Nat) (r0 : (List Int) → Int → (List Int) → Int → Int → Option (Int)) (l0_0 : List Int) (l1 : List Int) : Option (Int) := r0 l0_0 0 l1 (l1.length : Int) 0
noncomputable def impl_Tasks_number.f (k : Nat) (l0_0 : List Int) (l1 : List Int) : Option (Int) := impl_Tasks_number.g k (impl_Tasks_number.l0 k k) l0_0 l1
noncomputable def S130 (k : Nat) : Does := ⟨[(true, [.dat (.list (.int .i64))]), (false, [.dat (.list (.int .i64))])], [(false, [.dat (.int .i64)])], fun x => impl_Tasks_number.f k x.1 x.2⟩
noncomputable def E130 (k : Nat) : En := ⟨tb, orcOf [], lvOf [(0, [(2, []), (5, []), (8, []), (9, []), (10, [])])], k, 0, lvOf [], []⟩
noncomputable def n130_0 (x2_0 : List Int) (x5 : Int) (x8 : List Int) (x9 : Int) (x10 : Int) : St := ⟨27, lookA [(2, .box 0 0), (5, .dat (.int .i64) x5), (8, .dat (.list (.int .i64)) x8), (9, .dat (.int .i64) x9), (10, .dat (.int .i64) x10)], Go.V.look [(0, .cells [.dat (.list (.int .i64)) x2_0])]⟩
def p130_0 : List Bool := [true, true, false, true, false]
theorem r130_0 (k : Nat) (rec : St → Option (Int)) (v : (List Int) × Int × (List Int) × Int × Int) : roundF (E130 k) (S130 k) Try.f130 p130_0 [] rec (n130_0 v.1 v.2.1 v.2.2.1 v.2.2.2.1 v.2.2.2.2) = impl_Tasks_number.s0 k (fun a0 a1 a2 a3 a4 => rec (n130_0 a0 a1 a2 a3 a4)) v.1 v.2.1 v.2.2.1 v.2.2.2.1 v.2.2.2.2 := by
  kernel_rfl
theorem q130_0 (k : Nat) (n : Nat) : ∀ v : (List Int) × Int × (List Int) × Int × Int, loopF (E130 k) (S130 k) Try.f130 p130_0 [] n (n130_0 v.1 v.2.1 v.2.2.1 v.2.2.2.1 v.2.2.2.2) = impl_Tasks_number.l0 k n v.1 v.2.1 v.2.2.1 v.2.2.2.1 v.2.2.2.2 :=
  loopF_eq (E130 k) (S130 k) Try.f130 p130_0 [] (fun v : (List Int) × Int × (List Int) × Int × Int => n130_0 v.1 v.2.1 v.2.2.1 v.2.2.2.1 v.2.2.2.2) (fun rec v => impl_Tasks_number.s0 k (fun a0 a1 a2 a3 a4 => rec (a0, a1, a2, a3, a4)) v.1 v.2.1 v.2.2.1 v.2.2.2.1 v.2.2.2.2) (fun n v => impl_Tasks_number.l0 k n v.1 v.2.1 v.2.2.1 v.2.2.2.1 v.2.2.2.2) (fun _ => rfl) (fun _ _ => rfl) (fun rec v => r130_0 k rec v) n
theorem e130 (k : Nat) (x : dens (flatC (S130 k).ps)) : funK (E130 k) (S130 k) Try.f130 x = (S130 k).fn x := by
  have h : funK (E130 k) (S130 k) Try.f130 x = impl_Tasks_number.g k (fun a0 a1 a2 a3 a4 => loopF (E130 k) (S130 k) Try.f130 p130_0 [] k (n130_0 a0 a1 a2 a3 a4)) x.1 x.2 := by kernel_rfl
  rw [h]
  rw [show (fun a0 a1 a2 a3 a4 => loopF (E130 k) (S130 k) Try.f130 p130_0 [] k (n130_0 a0 a1 a2 a3 a4)) = impl_Tasks_number.l0 k k from funext fun a0 => funext fun a1 => funext fun a2 => funext fun a3 => funext fun a4 => q130_0 k k (a0, a1, a2, a3, a4)]
  rfl
theorem M130 (k : Nat) : Meets Try.prog 130 (S130 k) := meets_of Try.func130 (by kernel_rfl) tbOk orc_nil mixOk (fun x y h => (e130 k x).trans h) rfl

/-! impl_Tasks_openings: function 210 -/
noncomputable def impl_Tasks_openings.s1 (k : Nat) (r1 : (List Int) → Int → (List Int) → Int → (List (Int × Int)) → Int → Option ((List (Int × Int)))) (x1 : List Int) (x2 : Int) (x3_0 : List Int) (x7 : Int) (x10 : List (Int × Int)) (x11 : Int) : Option ((List (Int × Int))) := (impl_Tasks_many.f x3_0).bind fun t1 => if t1 < 0 then (none) else (if x11 < (shlV .i64 1 t1) then (if (andV .i64 x11 x7) = x7 then ((impl_members.f x11).bind fun t2 => if t2 ≤ x2 then ((impl_Tasks_setStep.f k x3_0 x1 x11).bind fun t3 => (impl_Tasks_number.f k x3_0 t3.1).bind fun t4 => if x10.length + 1 ≤ 1099511627776 then (r1 x1 x2 x3_0 x7 (x10 ++ [(x11, t4)]) (wrap64 (x11 + 1))) else (none)) else (r1 x1 x2 x3_0 x7 x10 (wrap64 (x11 + 1)))) else (r1 x1 x2 x3_0 x7 x10 (wrap64 (x11 + 1)))) else (some x10))
noncomputable def impl_Tasks_openings.l1 (k : Nat) : Nat → (List Int) → Int → (List Int) → Int → (List (Int × Int)) → Int → Option ((List (Int × Int)))
  | 0, _, _, _, _, _, _ => none
  | n + 1, x0, x1, x2, x3, x4, x5 => impl_Tasks_openings.s1 k (impl_Tasks_openings.l1 k n) x0 x1 x2 x3 x4 x5
noncomputable def impl_Tasks_openings.s0 (k : Nat) (r0 : (List Int) → Int → (List Int) → Int → (List Int) → Int → Int → Option ((List (Int × Int)))) (r1 : (List Int) → Int → (List Int) → Int → (List (Int × Int)) → Int → Option ((List (Int × Int)))) (x1 : List Int) (x2 : Int) (x3_0 : List Int) (x7 : Int) (x14 : List Int) (x15 : Int) (x16 : Int) : Option ((List (Int × Int))) := if x16 < x15 then (if 0 ≤ x16 then (if x16 < (x14.length : Int) then (if (rd x14 x16) < 2 then (if x16 < 0 then (none) else (r0 x1 x2 x3_0 (orV .i64 x7 (shlV .i64 1 x16)) x14 x15 (wrap64 (x16 + 1)))) else (r0 x1 x2 x3_0 x7 x14 x15 (wrap64 (x16 + 1)))) else (none)) else (none)) else (r1 x1 x2 x3_0 x7 [] x7)
noncomputable def impl_Tasks_openings.l0 (k : Nat) : Nat → (List Int) → Int → (List Int) → Int → (List Int) → Int → Int → Option ((List (Int × Int)))
  | 0, _, _, _, _, _, _, _ => none
  | n + 1, x0, x1, x2, x3, x4, x5, x6 => impl_Tasks_openings.s0 k (impl_Tasks_openings.l0 k n) (impl_Tasks_openings.l1 k k) x0 x1 x2 x3 x4 x5 x6
noncomputable def impl_Tasks_openings.g (k : Nat) (r0 : (List Int) → Int → (List Int) → Int → (List Int) → Int → Int → Option ((List (Int × Int)))) (l0_0 : List Int) (l1 : List Int) (a2 : Int) : Option ((List (Int × Int))) := r0 l1 a2 l0_0 0 l1 (l1.length : Int) 0
noncomputable def impl_Tasks_openings.f (k : Nat) (l0_0 : List Int) (l1 : List Int) (a2 : Int) : Option ((List (Int × Int))) := impl_Tasks_openings.g k (impl_Tasks_openings.l0 k k) l0_0 l1 a2
noncomputable def S210 (k : Nat) : Does := ⟨[(true, [.dat (.list (.int .i64))]), (false, [.dat (.list (.int .i64))]), (false, [.dat (.int .i64)])], [(false, [.own 122 (.struct (.pair (.int .i64) (.int .i64)))])], fun x => impl_Tasks_openings.f k x.1 x.2.1 x.2.2⟩
noncomputable def E210 (k : Nat) : En := ⟨tb, orcOf [(197, S197 k), (232, S232 k), (233, S233 k), (130, S130 k)], lvOf [(0, [(1, []), (2, []), (3, []), (7, []), (14, []), (15, []), (16, [])]), (2, [(1, []), (2, []), (3, []), (7, []), (10, [.nil 122 (.struct (.pair (.int .i64) (.int .i64)))]), (11, [])])], k, 0, lvOf [], []⟩
noncomputable def n210_0 (x1 : List Int) (x2 : Int) (x3_0 : List Int) (x7 : Int) (x14 : List Int) (x15 : Int) (x16 : Int) : St := ⟨63, lookA [(1, .dat (.list (.int .i64)) x1), (2, .dat (.int .i64) x2), (3, .box 0 0), (7, .dat (.int .i64) x7), (14, .dat (.list (.int .i64)) x14), (15, .dat (.int .i64) x15), (16, .dat (.int .i64) x16)], Go.V.look [(0, .cells [.dat (.list (.int .i64)) x3_0])]⟩
def p210_0 : List Bool := [true, true, false, true, false]
noncomputable def n210_1 (x1 : List Int) (x2 : Int) (x3_0 : List Int) (x7 : Int) (x10 : List (Int × Int)) (x11 : Int) : St := ⟨63, lookA [(1, .dat (.list (.int .i64)) x1), (2, .dat (.int .i64) x2), (3, .box 0 0), (7, .dat (.int .i64) x7), (10, .own 1), (11, .dat (.int .i64) x11)], Go.V.look [(0, .cells [.dat (.list (.int .i64)) x3_0]), (1, .flat 122 (.struct (.pair (.int .i64) (.int .i64))) x10)]⟩
def p210_1 : List Bool := [true, true, true, true, false, true, false]
theorem r210_1 (k : Nat) (rec : St → Option ((List (Int × Int)))) (v : (List Int) × Int × (List Int) × Int × (List (Int × Int)) × Int) : roundF (E210 k) (S210 k) Try.f210 p210_1 [] rec (n210_1 v.1 v.2.1 v.2.2.1 v.2.2.2.1 v.2.2.2.2.1 v.2.2.2.2.2) = impl_Tasks_openings.s1 k (fun a0 a1 a2 a3 a4 a5 => rec (n210_1 a0 a1 a2 a3 a4 a5)) v.1 v.2.1 v.2.2.1 v.2.2.2.1 v.2.2.2.2.1 v.2.2.2.2.2 := by
  kernel_rfl
theorem q210_1 (k : Nat) (n : Nat) : ∀ v : (List Int) × Int × (List Int) × Int × (List (Int × Int)) × Int, loopF (E210 k) (S210 k) Try.f210 p210_1 [] n (n210_1 v.1 v.2.1 v.2.2.1 v.2.2.2.1 v.2.2.2.2.1 v.2.2.2.2.2) = impl_Tasks_openings.l1 k n v.1 v.2.1 v.2.2.1 v.2.2.2.1 v.2.2.2.2.1 v.2.2.2.2.2 :=
  loopF_eq (E210 k) (S210 k) Try.f210 p210_1 [] (fun v : (List Int) × Int × (List Int) × Int × (List (Int × Int)) × Int => n210_1 v.1 v.2.1 v.2.2.1 v.2.2.2.1 v.2.2.2.2.1 v.2.2.2.2.2) (fun rec v => impl_Tasks_openings.s1 k (fun a0 a1 a2 a3 a4 a5 => rec (a0, a1, a2, a3, a4, a5)) v.1 v.2.1 v.2.2.1 v.2.2.2.1 v.2.2.2.2.1 v.2.2.2.2.2) (fun n v => impl_Tasks_openings.l1 k n v.1 v.2.1 v.2.2.1 v.2.2.2.1 v.2.2.2.2.1 v.2.2.2.2.2) (fun _ => rfl) (fun _ _ => rfl) (fun rec v => r210_1 k rec v) n
theorem r210_0 (k : Nat) (rec : St → Option ((List (Int × Int)))) (G1 : (List Int) → Int → (List Int) → Int → (List (Int × Int)) → Int → Option ((List (Int × Int)))) (h1 : ∀ a0 a1 a2 a3 a4 a5, loopF (E210 k) (S210 k) Try.f210 p210_1 [] k (n210_1 a0 a1 a2 a3 a4 a5) = G1 a0 a1 a2 a3 a4 a5) (v : (List Int) × Int × (List Int) × Int × (List Int) × Int × Int) : roundF (E210 k) (S210 k) Try.f210 p210_0 [] rec (n210_0 v.1 v.2.1 v.2.2.1 v.2.2.2.1 v.2.2.2.2.1 v.2.2.2.2.2.1 v.2.2.2.2.2.2) = impl_Tasks_openings.s0 k (fun a0 a1 a2 a3 a4 a5 a6 => rec (n210_0 a0 a1 a2 a3 a4 a5 a6)) G1 v.1 v.2.1 v.2.2.1 v.2.2.2.1 v.2.2.2.2.1 v.2.2.2.2.2.1 v.2.2.2.2.2.2 := by
  obtain rfl : (fun a0 a1 a2 a3 a4 a5 => loopF (E210 k) (S210 k) Try.f210 p210_1 [] k (n210_1 a0 a1 a2 a3 a4 a5)) = G1 := funext fun a0 => funext fun a1 => funext fun a2 => funext fun a3 => funext fun a4 => funext fun a5 => h1 a0 a1 a2 a3 a4 a5
  kernel_rfl
theorem q210_0 (k : Nat) (n : Nat) : ∀ v : (List Int) × Int × (List Int) × Int × (List Int) × Int × Int, loopF (E210 k) (S210 k) Try.f210 p210_0 [] n (n210_0 v.1 v.2.1 v.2.2.1 v.2.2.2.1 v.2.2.2.2.1 v.2.2.2.2.2.1 v.2.2.2.2.2.2) = impl_Tasks_openings.l0 k n v.1 v.2.1 v.2.2.1 v.2.2.2.1 v.2.2.2.2.1 v.2.2.2.2.2.1 v.2.2.2.2.2.2 :=
  loopF_eq (E210 k) (S210 k) Try.f210 p210_0 [] (fun v : (List Int) × Int × (List Int) × Int × (List Int) × Int × Int => n210_0 v.1 v.2.1 v.2.2.1 v.2.2.2.1 v.2.2.2.2.1 v.2.2.2.2.2.1 v.2.2.2.2.2.2) (fun rec v => impl_Tasks_openings.s0 k (fun a0 a1 a2 a3 a4 a5 a6 => rec (a0, a1, a2, a3, a4, a5, a6)) (impl_Tasks_openings.l1 k k) v.1 v.2.1 v.2.2.1 v.2.2.2.1 v.2.2.2.2.1 v.2.2.2.2.2.1 v.2.2.2.2.2.2) (fun n v => impl_Tasks_openings.l0 k n v.1 v.2.1 v.2.2.1 v.2.2.2.1 v.2.2.2.2.1 v.2.2.2.2.2.1 v.2.2.2.2.2.2) (fun _ => rfl) (fun _ _ => rfl) (fun rec v => r210_0 k rec _ (fun a0 a1 a2 a3 a4 a5 => q210_1 k k (a0, a1, a2, a3, a4, a5)) v) n
theorem e210 (k : Nat) (x : dens (flatC (S210 k).ps)) : funK (E210 k) (S210 k) Try.f210 x = (S210 k).fn x := by
  have h : funK (E210 k) (S210 k) Try.f210 x = impl_Tasks_openings.g k (fun a0 a1 a2 a3 a4 a5 a6 => loopF (E210 k) (S210 k) Try.f210 p210_0 [] k (n210_0 a0 a1 a2 a3 a4 a5 a6)) x.1 x.2.1 x.2.2 := by kernel_rfl
  rw [h]
  rw [show (fun a0 a1 a2 a3 a4 a5 a6 => loopF (E210 k) (S210 k) Try.f210 p210_0 [] k (n210_0 a0 a1 a2 a3 a4 a5 a6)) = impl_Tasks_openings.l0 k k from funext fun a0 => funext fun a1 => funext fun a2 => funext fun a3 => funext fun a4 => funext fun a5 => funext fun a6 => q210_0 k k (a0, a1, a2, a3, a4, a5, a6)]
  rfl
theorem M210 (k : Nat) : Meets Try.prog 210 (S210 k) := meets_of Try.func210 (by kernel_rfl) tbOk (orc_cons (M197 k) (orc_cons (M232 k) (orc_cons (M233 k) (orc_cons (M130 k) orc_nil)))) mixOk (fun x y h => (e210 k x).trans h) rfl

/-! impl_setGraph_least: function 126 -/
noncomputable def impl_setGraph_least.s0 (k : Nat) (r0 : ((List (List (Int × Int))) × (List Bool)) → Int → Int → (List (Int × Int)) → Int → Int → Option (Int × Int × Bool)) (x0 : (List (List (Int × Int))) × (List Bool)) (x4_0 : Int) (x4_1 : Int) (x14 : List (Int × Int)) (x15 : Int) (x16 : Int) : Option (Int × Int × Bool) := if x16 < x15 then (if 0 ≤ x16 then (if x16 < (x14.length : Int) then (if 0 ≤ ((rdOf (0, 0) x14 x16).2) then (if ((rdOf (0, 0) x14 x16).2) < (x0.2.length : Int) then (if (rdOf false x0.2 ((rdOf (0, 0) x14 x16).2)) = true then (some ((rdOf (0, 0) x14 x16).1, (rdOf (0, 0) x14 x16).2, true)) else (r0 x0 x4_0 x4_1 x14 x15 (wrap64 (x16 + 1)))) else (none)) else (none)) else (none)) else (none)) else (some (0, 0, false))
noncomputable def impl_setGraph_least.l0 (k : Nat) : Nat → ((List (List (Int × Int))) × (List Bool)) → Int → Int → (List (Int × Int)) → Int → Int → Option (Int × Int × Bool)
  | 0, _, _, _, _, _, _ => none
  | n + 1, x0, x1, x2, x3, x4, x5 => impl_setGraph_least.s0 k (impl_setGraph_least.l0 k n) x0 x1 x2 x3 x4 x5
noncomputable def impl_setGraph_least.g (k : Nat) (r0 : ((List (List (Int × Int))) × (List Bool)) → Int → Int → (List (Int × Int)) → Int → Int → Option (Int × Int × Bool)) (a0 : (List (List (Int × Int))) × (List Bool)) (a1 : Int) : Option (Int × Int × Bool) := if 0 ≤ a1 then (if a1 < (a0.1.length : Int) then (r0 a0 0 0 (rdOf ([] : List (Int × Int)) a0.1 a1) ((rdOf ([] : List (Int × Int)) a0.1 a1).length : Int) 0) else (none)) else (none)
noncomputable def impl_setGraph_least.f (k : Nat) (a0 : (List (List (Int × Int))) × (List Bool)) (a1 : Int) : Option (Int × Int × Bool) := impl_setGraph_least.g k (impl_setGraph_least.l0 k k) a0 a1
noncomputable def S126 (k : Nat) : Does := ⟨[(false, [.dat (.ptr (.struct (.pair (.list (.list (.struct (.pair (.int .i64) (.int .i64))))) (.list .bool))))]), (false, [.dat (.int .i64)])], [(true, [.dat (.int .i64), .dat (.int .i64)]), (false, [.dat .bool])], fun x => impl_setGraph_least.f k x.1 x.2⟩
noncomputable def E126 (k : Nat) : En := ⟨tb, orcOf [], lvOf [(0, [(0, []), (4, []), (14, []), (15, []), (16, [])])], k, 0, lvOf [], []⟩
noncomputable def n126_0 (x0 : (List (List (Int × Int))) × (List Bool)) (x4_0 : Int) (x4_1 : Int) (x14 : List (Int × Int)) (x15 : Int) (x16 : Int) : St := ⟨31, lookA [(0, .dp (.struct (.pair (.list (.list (.struct (.pair (.int .i64) (.int .i64))))) (.list .bool))) x0), (4, .box 0 0), (14, .dat (.list (.struct (.pair (.int .i64) (.int .i64)))) x14), (15, .dat (.int .i64) x15), (16, .dat (.int .i64) x16)], Go.V.look [(0, .cells [.dat (.int .i64) x4_0, .dat (.int .i64) x4_1])]⟩
def p126_0 : List Bool := [true, false, true, false]
theorem r126_0 (k : Nat) (rec : St → Option (Int × Int × Bool)) (v : ((List (List (Int × Int))) × (List Bool)) × Int × Int × (List (Int × Int)) × Int × Int) : roundF (E126 k) (S126 k) Try.f126 p126_0 [] rec (n126_0 v.1 v.2.1 v.2.2.1 v.2.2.2.1 v.2.2.2.2.1 v.2.2.2.2.2) = impl_setGraph_least.s0 k (fun a0 a1 a2 a3 a4 a5 => rec (n126_0 a0 a1 a2 a3 a4 a5)) v.1 v.2.1 v.2.2.1 v.2.2.2.1 v.2.2.2.2.1 v.2.2.2.2.2 := by
  kernel_rfl
theorem q126_0 (k : Nat) (n : Nat) : ∀ v : ((List (List (Int × Int))) × (List Bool)) × Int × Int × (List (Int × Int)) × Int × Int, loopF (E126 k) (S126 k) Try.f126 p126_0 [] n (n126_0 v.1 v.2.1 v.2.2.1 v.2.2.2.1 v.2.2.2.2.1 v.2.2.2.2.2) = impl_setGraph_least.l0 k n v.1 v.2.1 v.2.2.1 v.2.2.2.1 v.2.2.2.2.1 v.2.2.2.2.2 :=
  loopF_eq (E126 k) (S126 k) Try.f126 p126_0 [] (fun v : ((List (List (Int × Int))) × (List Bool)) × Int × Int × (List (Int × Int)) × Int × Int => n126_0 v.1 v.2.1 v.2.2.1 v.2.2.2.1 v.2.2.2.2.1 v.2.2.2.2.2) (fun rec v => impl_setGraph_least.s0 k (fun a0 a1 a2 a3 a4 a5 => rec (a0, a1, a2, a3, a4, a5)) v.1 v.2.1 v.2.2.1 v.2.2.2.1 v.2.2.2.2.1 v.2.2.2.2.2) (fun n v => impl_setGraph_least.l0 k n v.1 v.2.1 v.2.2.1 v.2.2.2.1 v.2.2.2.2.1 v.2.2.2.2.2) (fun _ => rfl) (fun _ _ => rfl) (fun rec v => r126_0 k rec v) n
theorem e126 (k : Nat) (x : dens (flatC (S126 k).ps)) : funK (E126 k) (S126 k) Try.f126 x = (S126 k).fn x := by
  have h : funK (E126 k) (S126 k) Try.f126 x = impl_setGraph_least.g k (fun a0 a1 a2 a3 a4 a5 => loopF (E126 k) (S126 k) Try.f126 p126_0 [] k (n126_0 a0 a1 a2 a3 a4 a5)) x.1 x.2 := by kernel_rfl
  rw [h]
  rw [show (fun a0 a1 a2 a3 a4 a5 => loopF (E126 k) (S126 k) Try.f126 p126_0 [] k (n126_0 a0 a1 a2 a3 a4 a5)) = impl_setGraph_least.l0 k k from funext fun a0 => funext fun a1 => funext fun a2 => funext fun a3 => funext fun a4 => funext fun a5 => q126_0 k k (a0, a1, a2, a3, a4, a5)]
  rfl
theorem M126 (k : Nat) : Meets Try.prog 126 (S126 k) := meets_of Try.func126 (by kernel_rfl) tbOk orc_nil mixOk (fun x y h => (e126 k x).trans h) rfl

/-! impl_setGraphOf: function 117 -/
noncomputable def impl_setGraphOf.s2 (k : Nat) (r1 : (List (List (Int × Int))) → (List Bool) → Bool → Option (((List (List (Int × Int))) × (List Bool)))) (r2 : (List (List (Int × Int))) → (List Bool) → Bool → Int → Int → Option (((List (List (Int × Int))) × (List Bool)))) (x5_0 : List (List (Int × Int))) (x5_1 : List Bool) (x7 : Bool) (x49 : Int) (x50 : Int) : Option (((List (List (Int × Int))) × (List Bool))) := if x50 < x49 then (if 0 ≤ x50 then (if x50 < (x5_1.length : Int) then ((impl_setGraph_least.f k (x5_0, x5_1) x50).bind fun t4 => if (rdOf false x5_1 x50) = true then (if t4.2.2 = true then (r2 x5_0 x5_1 x7 x49 (wrap64 (x50 + 1))) else (if 0 ≤ x50 then (if x50 < (x5_1.length : Int) then (r2 x5_0 (x5_1.set x50.toNat false) true x49 (wrap64 (x50 + 1))) else (none)) else (none))) else (r2 x5_0 x5_1 x7 x49 (wrap64 (x50 + 1)))) else (none)) else (none)) else (r1 x5_0 x5_1 x7)
noncomputable def impl_setGraphOf.l2 (k : Nat) (r1 : (List (List (Int × Int))) → (List Bool) → Bool → Option (((List (List (Int × Int))) × (List Bool)))) : Nat → (List (List (Int × Int))) → (List Bool) → Bool → Int → Int → Option (((List (List (Int × Int))) × (List Bool)))
  | 0, _, _, _, _, _ => none
  | n + 1, x0, x1, x2, x3, x4 => impl_setGraphOf.s2 k r1 (impl_setGraphOf.l2 k r1 n) x0 x1 x2 x3 x4
noncomputable def impl_setGraphOf.s1 (k : Nat) (r1 : (List (List (Int × Int))) → (List Bool) → Bool → Option (((List (List (Int × Int))) × (List Bool)))) (r2 : (List (List (Int × Int))) → (List Bool) → Bool → Int → Int → Option (((List (List (Int × Int))) × (List Bool)))) (x5_0 : List (List (Int × Int))) (x5_1 : List Bool) (x7 : Bool) : Option (((List (List (Int × Int))) × (List Bool))) := if x7 = true then (r2 x5_0 x5_1 false (x5_1.length : Int) 0) else (some (x5_0, x5_1))
noncomputable def impl_setGraphOf.l1 (k : Nat) : Nat → (List (List (Int × Int))) → (List Bool) → Bool → Option (((List (List (Int × Int))) × (List Bool)))
  | 0, _, _, _ => none
  | n + 1, x0, x1, x2 => impl_setGraphOf.s1 k (impl_setGraphOf.l1 k n) (impl_setGraphOf.l2 k (impl_setGraphOf.l1 k n) k) x0 x1 x2
noncomputable def impl_setGraphOf.s0 (k : Nat) (r0 : Int → (List Int) → (List (List (Int × Int))) → (List Bool) → Int → Int → Option (((List (List (Int × Int))) × (List Bool)))) (r1 : (List (List (Int × Int))) → (List Bool) → Bool → Option (((List (List (Int × Int))) × (List Bool)))) (x1 : Int) (x2_0 : List Int) (x5_0 : List (List (Int × Int))) (x5_1 : List Bool) (x15 : Int) (x16 : Int) : Option (((List (List (Int × Int))) × (List Bool))) := if x16 < x15 then ((impl_Tasks_numbered.f k x2_0 x16).bind fun t2 => (impl_Tasks_openings.f k x2_0 t2 x1).bind fun t3 => if x5_0.length + 1 ≤ 1099511627776 then (if x5_1.length + 1 ≤ 1099511627776 then (r0 x1 x2_0 (x5_0 ++ [t3]) (x5_1 ++ [true]) x15 (wrap64 (x16 + 1))) else (none)) else (none)) else (r1 x5_0 x5_1 true)
noncomputable def impl_setGraphOf.l0 (k : Nat) : Nat → Int → (List Int) → (List (List (Int × Int))) → (List Bool) → Int → Int → Option (((List (List (Int × Int))) × (List Bool)))
  | 0, _, _, _, _, _, _ => none
  | n + 1, x0, x1, x2, x3, x4, x5 => impl_setGraphOf.s0 k (impl_setGraphOf.l0 k n) (impl_setGraphOf.l1 k k) x0 x1 x2 x3 x4 x5
noncomputable def impl_setGraphOf.g (k : Nat) (r0 : Int → (List Int) → (List (List (Int × Int))) → (List Bool) → Int → Int → Option (((List (List (Int × Int))) × (List Bool)))) (l0_0 : List Int) (a1 : Int) : Option (((List (List (Int × Int))) × (List Bool))) := (impl_Tasks_states.f k l0_0).bind fun t1 => r0 a1 l0_0 [] [] t1 0
noncomputable def impl_setGraphOf.f (k : Nat) (l0_0 : List Int) (a1 : Int) : Option (((List (List (Int × Int))) × (List Bool))) := impl_setGraphOf.g k (impl_setGraphOf.l0 k k) l0_0 a1
noncomputable def S117 (k : Nat) : Does := ⟨[(true, [.dat (.list (.int .i64))]), (false, [.dat (.int .i64)])], [(false, [.dat (.ptr (.struct (.pair (.list (.list (.struct (.pair (.int .i64) (.int .i64))))) (.list .bool))))])], fun x => impl_setGraphOf.f k x.1 x.2⟩
noncomputable def E117 (k : Nat) : En := ⟨tb, orcOf [(124, S124 k), (155, S155 k), (210, S210 k), (126, S126 k)], lvOf [(0, [(1, []), (2, []), (5, [.cell 0 189 (.list (.struct (.pair (.int .i64) (.int .i64)))), .cell 1 4 .bool]), (15, []), (16, [])]), (2, [(5, []), (7, [])]), (4, [(5, []), (7, []), (48, []), (49, []), (50, [])])], k, 0, lvOf [], [29]⟩
noncomputable def n117_0 (x1 : Int) (x2_0 : List Int) (x5_0 : List (List (Int × Int))) (x5_1 : List Bool) (x15 : Int) (x16 : Int) : St := ⟨74, lookA [(1, .dat (.int .i64) x1), (2, .box 0 0), (5, .box 1 0), (15, .dat (.int .i64) x15), (16, .dat (.int .i64) x16)], Go.V.look [(0, .cells [.dat (.list (.int .i64)) x2_0]), (1, .cells [.own 2, .own 3]), (2, .flat 189 (.list (.struct (.pair (.int .i64) (.int .i64)))) x5_0), (3, .flat 4 .bool x5_1)]⟩
def p117_0 : List Bool := [true, true, false, true, false]
noncomputable def n117_1 (x5_0 : List (List (Int × Int))) (x5_1 : List Bool) (x7 : Bool) : St := ⟨74, lookA [(5, .box 0 0), (7, .dat .bool x7)], Go.V.look [(0, .cells [.own 1, .own 2]), (1, .flat 189 (.list (.struct (.pair (.int .i64) (.int .i64)))) x5_0), (2, .flat 4 .bool x5_1)]⟩
def p117_1 : List Bool := [true, true, true, false, true, false]
noncomputable def n117_2 (x5_0 : List (List (Int × Int))) (x5_1 : List Bool) (x7 : Bool) (x49 : Int) (x50 : Int) : St := ⟨74, lookA [(5, .box 0 0), (7, .dat .bool x7), (48, .own 1), (49, .dat (.int .i64) x49), (50, .dat (.int .i64) x50)], Go.V.look [(0, .cells [.own 2, .own 1]), (1, .flat 4 .bool x5_1), (2, .flat 189 (.list (.struct (.pair (.int .i64) (.int .i64)))) x5_0)]⟩
def p117_2 : List Bool := [true, true, true, false, true, false, false, true, false, true, true, false]
theorem r117_2 (k : Nat) (R1 : St → Option (((List (List (Int × Int))) × (List Bool)))) (rec : St → Option (((List (List (Int × Int))) × (List Bool)))) (v : (List (List (Int × Int))) × (List Bool) × Bool × Int × Int) : roundF (E117 k) (S117 k) Try.f117 p117_2 [R1] rec (n117_2 v.1 v.2.1 v.2.2.1 v.2.2.2.1 v.2.2.2.2) = impl_setGraphOf.s2 k (fun a0 a1 a2 => R1 (n117_1 a0 a1 a2)) (fun a0 a1 a2 a3 a4 => rec (n117_2 a0 a1 a2 a3 a4)) v.1 v.2.1 v.2.2.1 v.2.2.2.1 v.2.2.2.2 := by
  kernel_rfl
theorem q117_2 (k : Nat) (R1 : St → Option (((List (List (Int × Int))) × (List Bool)))) (n : Nat) : ∀ v : (List (List (Int × Int))) × (List Bool) × Bool × Int × Int, loopF (E117 k) (S117 k) Try.f117 p117_2 [R1] n (n117_2 v.1 v.2.1 v.2.2.1 v.2.2.2.1 v.2.2.2.2) = impl_setGraphOf.l2 k (fun a0 a1 a2 => R1 (n117_1 a0 a1 a2)) n v.1 v.2.1 v.2.2.1 v.2.2.2.1 v.2.2.2.2 :=
  loopF_eq (E117 k) (S117 k) Try.f117 p117_2 [R1] (fun v : (List (List (Int × Int))) × (List Bool) × Bool × Int × Int => n117_2 v.1 v.2.1 v.2.2.1 v.2.2.2.1 v.2.2.2.2) (fun rec v => impl_setGraphOf.s2 k (fun a0 a1 a2 => R1 (n117_1 a0 a1 a2)) (fun a0 a1 a2 a3 a4 => rec (a0, a1, a2, a3, a4)) v.1 v.2.1 v.2.2.1 v.2.2.2.1 v.2.2.2.2) (fun n v => impl_setGraphOf.l2 k (fun a0 a1 a2 => R1 (n117_1 a0 a1 a2)) n v.1 v.2.1 v.2.2.1 v.2.2.2.1 v.2.2.2.2) (fun _ => rfl) (fun _ _ => rfl) (fun rec v => r117_2 k R1 rec v) n
theorem r117_1 (k : Nat) (rec : St → Option (((List (List (Int × Int))) × (List Bool)))) (G2 : (List (List (Int × Int))) → (List Bool) → Bool → Int → Int → Option (((List (List (Int × Int))) × (List Bool)))) (h2 : ∀ a0 a1 a2 a3 a4, loopF (E117 k) (S117 k) Try.f117 p117_2 [rec] k (n117_2 a0 a1 a2 a3 a4) = G2 a0 a1 a2 a3 a4) (v : (List (List (Int × Int))) × (List Bool) × Bool) : roundF (E117 k) (S117 k) Try.f117 p117_1 [] rec (n117_1 v.1 v.2.1 v.2.2) = impl_setGraphOf.s1 k (fun a0 a1 a2 => rec (n117_1 a0 a1 a2)) G2 v.1 v.2.1 v.2.2 := by
  obtain rfl : (fun a0 a1 a2 a3 a4 => loopF (E117 k) (S117 k) Try.f117 p117_2 [rec] k (n117_2 a0 a1 a2 a3 a4)) = G2 := funext fun a0 => funext fun a1 => funext fun a2 => funext fun a3 => funext fun a4 => h2 a0 a1 a2 a3 a4
  kernel_rfl
theorem q117_1 (k : Nat) (n : Nat) : ∀ v : (List (List (Int × Int))) × (List Bool) × Bool, loopF (E117 k) (S117 k) Try.f117 p117_1 [] n (n117_1 v.1 v.2.1 v.2.2) = impl_setGraphOf.l1 k n v.1 v.2.1 v.2.2 :=
  loopF_eq (E117 k) (S117 k) Try.f117 p117_1 [] (fun v : (List (List (Int × Int))) × (List Bool) × Bool => n117_1 v.1 v.2.1 v.2.2) (fun rec v => impl_setGraphOf.s1 k (fun a0 a1 a2 => rec (a0, a1, a2)) (impl_setGraphOf.l2 k (fun a0 a1 a2 => rec (a0, a1, a2)) k) v.1 v.2.1 v.2.2) (fun n v => impl_setGraphOf.l1 k n v.1 v.2.1 v.2.2) (fun _ => rfl) (fun _ _ => rfl) (fun rec v => r117_1 k rec _ (fun a0 a1 a2 a3 a4 => q117_2 k rec k (a0, a1, a2, a3, a4)) v) n
theorem r117_0 (k : Nat) (rec : St → Option (((List (List (Int × Int))) × (List Bool)))) (G1 : (List (List (Int × Int))) → (List Bool) → Bool → Option (((List (List (Int × Int))) × (List Bool)))) (h1 : ∀ a0 a1 a2, loopF (E117 k) (S117 k) Try.f117 p117_1 [] k (n117_1 a0 a1 a2) = G1 a0 a1 a2) (v : Int × (List Int) × (List (List (Int × Int))) × (List Bool) × Int × Int) : roundF (E117 k) (S117 k) Try.f117 p117_0 [] rec (n117_0 v.1 v.2.1 v.2.2.1 v.2.2.2.1 v.2.2.2.2.1 v.2.2.2.2.2) = impl_setGraphOf.s0 k (fun a0 a1 a2 a3 a4 a5 => rec (n117_0 a0 a1 a2 a3 a4 a5)) G1 v.1 v.2.1 v.2.2.1 v.2.2.2.1 v.2.2.2.2.1 v.2.2.2.2.2 := by
  obtain rfl : (fun a0 a1 a2 => loopF (E117 k) (S117 k) Try.f117 p117_1 [] k (n117_1 a0 a1 a2)) = G1 := funext fun a0 => funext fun a1 => funext fun a2 => h1 a0 a1 a2
  kernel_rfl
theorem q117_0 (k : Nat) (n : Nat) : ∀ v : Int × (List Int) × (List (List (Int × Int))) × (List Bool) × Int × Int, loopF (E117 k) (S117 k) Try.f117 p117_0 [] n (n117_0 v.1 v.2.1 v.2.2.1 v.2.2.2.1 v.2.2.2.2.1 v.2.2.2.2.2) = impl_setGraphOf.l0 k n v.1 v.2.1 v.2.2.1 v.2.2.2.1 v.2.2.2.2.1 v.2.2.2.2.2 :=
  loopF_eq (E117 k) (S117 k) Try.f117 p117_0 [] (fun v : Int × (List Int) × (List (List (Int × Int))) × (List Bool) × Int × Int => n117_0 v.1 v.2.1 v.2.2.1 v.2.2.2.1 v.2.2.2.2.1 v.2.2.2.2.2) (fun rec v => impl_setGraphOf.s0 k (fun a0 a1 a2 a3 a4 a5 => rec (a0, a1, a2, a3, a4, a5)) (impl_setGraphOf.l1 k k) v.1 v.2.1 v.2.2.1 v.2.2.2.1 v.2.2.2.2.1 v.2.2.2.2.2) (fun n v => impl_setGraphOf.l0 k n v.1 v.2.1 v.2.2.1 v.2.2.2.1 v.2.2.2.2.1 v.2.2.2.2.2) (fun _ => rfl) (fun _ _ => rfl) (fun rec v => r117_0 k rec _ (fun a0 a1 a2 => q117_1 k k (a0, a1, a2)) v) n
theorem e117 (k : Nat) (x : dens (flatC (S117 k).ps)) : funK (E117 k) (S117 k) Try.f117 x = (S117 k).fn x := by
  have h : funK (E117 k) (S117 k) Try.f117 x = impl_setGraphOf.g k (fun a0 a1 a2 a3 a4 a5 => loopF (E117 k) (S117 k) Try.f117 p117_0 [] k (n117_0 a0 a1 a2 a3 a4 a5)) x.1 x.2 := by kernel_rfl
  rw [h]
  rw [show (fun a0 a1 a2 a3 a4 a5 => loopF (E117 k) (S117 k) Try.f117 p117_0 [] k (n117_0 a0 a1 a2 a3 a4 a5)) = impl_setGraphOf.l0 k k from funext fun a0 => funext fun a1 => funext fun a2 => funext fun a3 => funext fun a4 => funext fun a5 => q117_0 k k (a0, a1, a2, a3, a4, a5)]
  rfl
theorem M117 (k : Nat) : Meets Try.prog 117 (S117 k) := meets_of Try.func117 (by kernel_rfl) tbOk (orc_cons (M124 k) (orc_cons (M155 k) (orc_cons (M210 k) (orc_cons (M126 k) orc_nil)))) mixOk (fun x y h => (e117 k x).trans h) rfl

/-! impl_setGraph_canServe: function 118 -/
noncomputable def impl_setGraph_canServe.f (a0 : (List (List (Int × Int))) × (List Bool)) : Option (Bool) := if 0 ≤ (wrap64 ((a0.2.length : Int) - 1)) then (if (wrap64 ((a0.2.length : Int) - 1)) < (a0.2.length : Int) then (some (rdOf false a0.2 (wrap64 ((a0.2.length : Int) - 1)))) else (none)) else (none)
noncomputable def S118 (k : Nat) : Does := ⟨[(false, [.dat (.ptr (.struct (.pair (.list (.list (.struct (.pair (.int .i64) (.int .i64))))) (.list .bool))))])], [(false, [.dat .bool])], fun x => impl_setGraph_canServe.f x⟩
noncomputable def E118 (k : Nat) : En := ⟨tb, orcOf [], lvOf [], k, 0, lvOf [], []⟩
theorem e118 (k : Nat) (x : dens (flatC (S118 k).ps)) : funK (E118 k) (S118 k) Try.f118 x = (S118 k).fn x := by
  kernel_rfl
theorem M118 (k : Nat) : Meets Try.prog 118 (S118 k) := meets_of Try.func118 (by kernel_rfl) tbOk orc_nil mixOk (fun x y h => (e118 k x).trans h) rfl

/-! impl_CanServeOn: function 18 -/
noncomputable def impl_CanServeOn.f (k : Nat) (l0_0 : List Int) (a1 : Int) : Option (Bool × Int) := (impl_isChannels.f a1).bind fun t1 => (impl_statesCode.f k l0_0 t1).bind fun t2 => if t2 = 0 then ((impl_setGraphOf.f k l0_0 a1).bind fun t3 => (impl_setGraph_canServe.f t3).bind fun t4 => some (t4, 0)) else (some (false, t2))
noncomputable def S18 (k : Nat) : Does := ⟨[(true, [.dat (.list (.int .i64))]), (false, [.dat (.int .i64)])], [(false, [.dat .bool]), (false, [.dat (.int .i64)])], fun x => impl_CanServeOn.f k x.1 x.2⟩
noncomputable def E18 (k : Nat) : En := ⟨tb, orcOf [(116, S116 k), (115, S115 k), (117, S117 k), (118, S118 k)], lvOf [], k, 0, lvOf [], []⟩
theorem e18 (k : Nat) (x : dens (flatC (S18 k).ps)) : funK (E18 k) (S18 k) Try.f18 x = (S18 k).fn x := by
  kernel_rfl
theorem M18 (k : Nat) : Meets Try.prog 18 (S18 k) := meets_of Try.func18 (by kernel_rfl) tbOk (orc_cons (M116 k) (orc_cons (M115 k) (orc_cons (M117 k) (orc_cons (M118 k) orc_nil)))) mixOk (fun x y h => (e18 k x).trans h) rfl

/-! laws_eqInt64S: function 24 -/
noncomputable def laws_eqInt64S.s0 (k : Nat) (r0 : (List Int) → (List Int) → Int → Option (Bool)) (x0 : List Int) (x1 : List Int) (x5 : Int) : Option (Bool) := if x5 < (x0.length : Int) then (if 0 ≤ x5 then (if x5 < (x0.length : Int) then (if 0 ≤ x5 then (if x5 < (x1.length : Int) then (if (rd x0 x5) = (rd x1 x5) then (r0 x0 x1 (wrap64 (x5 + 1))) else (some false)) else (none)) else (none)) else (none)) else (none)) else (some true)
noncomputable def laws_eqInt64S.l0 (k : Nat) : Nat → (List Int) → (List Int) → Int → Option (Bool)
  | 0, _, _, _ => none
  | n + 1, x0, x1, x2 => laws_eqInt64S.s0 k (laws_eqInt64S.l0 k n) x0 x1 x2
noncomputable def laws_eqInt64S.g (k : Nat) (r0 : (List Int) → (List Int) → Int → Option (Bool)) (l0 : List Int) (l1 : List Int) : Option (Bool) := if (l0.length : Int) = (l1.length : Int) then (r0 l0 l1 0) else (some false)
noncomputable def laws_eqInt64S.f (k : Nat) (l0 : List Int) (l1 : List Int) : Option (Bool) := laws_eqInt64S.g k (laws_eqInt64S.l0 k k) l0 l1
noncomputable def S24 (k : Nat) : Does := ⟨[(false, [.dat (.list (.int .i64))]), (false, [.dat (.list (.int .i64))])], [(false, [.dat .bool])], fun x => laws_eqInt64S.f k x.1 x.2⟩
noncomputable def E24 (k : Nat) : En := ⟨tb, orcOf [], lvOf [(0, [(0, []), (1, []), (5, [])])], k, 0, lvOf [], []⟩
noncomputable def n24_0 (x0 : List Int) (x1 : List Int) (x5 : Int) : St := ⟨26, lookA [(0, .dat (.list (.int .i64)) x0), (1, .dat (.list (.int .i64)) x1), (5, .dat (.int .i64) x5)], Go.V.look []⟩
def p24_0 : List Bool := [true, true, false, true, false]
theorem r24_0 (k : Nat) (rec : St → Option (Bool)) (v : (List Int) × (List Int) × Int) : roundF (E24 k) (S24 k) Try.f24 p24_0 [] rec (n24_0 v.1 v.2.1 v.2.2) = laws_eqInt64S.s0 k (fun a0 a1 a2 => rec (n24_0 a0 a1 a2)) v.1 v.2.1 v.2.2 := by
  kernel_rfl
theorem q24_0 (k : Nat) (n : Nat) : ∀ v : (List Int) × (List Int) × Int, loopF (E24 k) (S24 k) Try.f24 p24_0 [] n (n24_0 v.1 v.2.1 v.2.2) = laws_eqInt64S.l0 k n v.1 v.2.1 v.2.2 :=
  loopF_eq (E24 k) (S24 k) Try.f24 p24_0 [] (fun v : (List Int) × (List Int) × Int => n24_0 v.1 v.2.1 v.2.2) (fun rec v => laws_eqInt64S.s0 k (fun a0 a1 a2 => rec (a0, a1, a2)) v.1 v.2.1 v.2.2) (fun n v => laws_eqInt64S.l0 k n v.1 v.2.1 v.2.2) (fun _ => rfl) (fun _ _ => rfl) (fun rec v => r24_0 k rec v) n
theorem e24 (k : Nat) (x : dens (flatC (S24 k).ps)) : funK (E24 k) (S24 k) Try.f24 x = (S24 k).fn x := by
  have h : funK (E24 k) (S24 k) Try.f24 x = laws_eqInt64S.g k (fun a0 a1 a2 => loopF (E24 k) (S24 k) Try.f24 p24_0 [] k (n24_0 a0 a1 a2)) x.1 x.2 := by kernel_rfl
  rw [h]
  rw [show (fun a0 a1 a2 => loopF (E24 k) (S24 k) Try.f24 p24_0 [] k (n24_0 a0 a1 a2)) = laws_eqInt64S.l0 k k from funext fun a0 => funext fun a1 => funext fun a2 => q24_0 k k (a0, a1, a2)]
  rfl
theorem M24 (k : Nat) : Meets Try.prog 24 (S24 k) := meets_of Try.func24 (by kernel_rfl) tbOk orc_nil mixOk (fun x y h => (e24 k x).trans h) rfl

/-! laws_eqTasks: function 19 -/
noncomputable def laws_eqTasks.f (k : Nat) (l0_0 : List Int) (l1_0 : List Int) : Option (Bool) := (laws_eqInt64S.f k l0_0 l1_0).bind fun t1 => if t1 = true then (some true) else (some false)
noncomputable def S19 (k : Nat) : Does := ⟨[(true, [.dat (.list (.int .i64))]), (true, [.dat (.list (.int .i64))])], [(false, [.dat .bool])], fun x => laws_eqTasks.f k x.1 x.2⟩
noncomputable def E19 (k : Nat) : En := ⟨tb, orcOf [(24, S24 k)], lvOf [], k, 0, lvOf [], []⟩
theorem e19 (k : Nat) (x : dens (flatC (S19 k).ps)) : funK (E19 k) (S19 k) Try.f19 x = (S19 k).fn x := by
  kernel_rfl
theorem M19 (k : Nat) : Meets Try.prog 19 (S19 k) := meets_of Try.func19 (by kernel_rfl) tbOk (orc_cons (M24 k) orc_nil) mixOk (fun x y h => (e19 k x).trans h) rfl

/-! laws_FnExactCanServeOn: function 4 -/
noncomputable def laws_FnExactCanServeOn.f (k : Nat) (l0_0 : List Int) (a1 : Int) : Option (Bool) := (laws_szTasks.f l0_0 1048576).bind fun t1 => if t1 < 0 then (some true) else ((laws_toTasks.f k l0_0).bind fun t2 => (spec_CanServeOn.f k t2 a1).bind fun t3 => (laws_toTasks.f k l0_0).bind fun t4 => (impl_CanServeOn.f k t4 a1).bind fun t5 => if t5.1 = t3.1 then (if t5.2 = t3.2 then ((laws_toTasks.f k l0_0).bind fun t6 => (laws_eqTasks.f k t4 t6).bind fun t7 => if t7 = true then (some true) else (some false)) else (some false)) else (some false))
noncomputable def S4 (k : Nat) : Does := ⟨[(true, [.dat (.list (.int .i64))]), (false, [.dat (.int .i64)])], [(false, [.dat .bool])], fun x => laws_FnExactCanServeOn.f k x.1 x.2⟩
noncomputable def E4 (k : Nat) : En := ⟨tb, orcOf [(15, S15 k), (17, S17 k), (16, S16 k), (18, S18 k), (19, S19 k)], lvOf [], k, 0, lvOf [], []⟩
theorem e4 (k : Nat) (x : dens (flatC (S4 k).ps)) : funK (E4 k) (S4 k) Try.f4 x = (S4 k).fn x := by
  kernel_rfl
theorem M4 (k : Nat) : Meets Try.prog 4 (S4 k) := meets_of Try.func4 (by kernel_rfl) tbOk (orc_cons (M15 k) (orc_cons (M17 k) (orc_cons (M16 k) (orc_cons (M18 k) (orc_cons (M19 k) orc_nil))))) mixOk (fun x y h => (e4 k x).trans h) rfl

/-! spec_FewestChannels: function 20 -/
noncomputable def spec_FewestChannels.s0 (k : Nat) (r0 : (List Int) → Int → Option (Int × Int)) (x1_0 : List Int) (x5 : Int) : Option (Int × Int) := if x5 ≤ 4 then ((spec_l08Lasting.f k x1_0 x5).bind fun t2 => (spec_l02Count.f k x1_0).bind fun t3 => if 0 ≤ (wrap64 (t3 - 1)) then (if (wrap64 (t3 - 1)) < (t2.length : Int) then (if (rdOf false t2 (wrap64 (t3 - 1))) = true then (some (x5, 0)) else (r0 x1_0 (wrap64 (x5 + 1)))) else (none)) else (none)) else (some (0, 4))
noncomputable def spec_FewestChannels.l0 (k : Nat) : Nat → (List Int) → Int → Option (Int × Int)
  | 0, _, _ => none
  | n + 1, x0, x1 => spec_FewestChannels.s0 k (spec_FewestChannels.l0 k n) x0 x1
noncomputable def spec_FewestChannels.g (k : Nat) (r0 : (List Int) → Int → Option (Int × Int)) (l0_0 : List Int) : Option (Int × Int) := (spec_l08Code.f k l0_0 1).bind fun t1 => if t1 = 0 then (r0 l0_0 1) else (some (0, t1))
noncomputable def spec_FewestChannels.f (k : Nat) (l0_0 : List Int) : Option (Int × Int) := spec_FewestChannels.g k (spec_FewestChannels.l0 k k) l0_0
noncomputable def S20 (k : Nat) : Does := ⟨[(true, [.dat (.list (.int .i64))])], [(false, [.dat (.int .i64)]), (false, [.dat (.int .i64)])], fun x => spec_FewestChannels.f k x⟩
noncomputable def E20 (k : Nat) : En := ⟨tb, orcOf [(111, S111 k), (112, S112 k), (113, S113 k)], lvOf [(0, [(1, []), (5, [])])], k, 0, lvOf [], []⟩
noncomputable def n20_0 (x1_0 : List Int) (x5 : Int) : St := ⟨24, lookA [(1, .box 0 0), (5, .dat (.int .i64) x5)], Go.V.look [(0, .cells [.dat (.list (.int .i64)) x1_0])]⟩
def p20_0 : List Bool := [true, true, false, true, false]
theorem r20_0 (k : Nat) (rec : St → Option (Int × Int)) (v : (List Int) × Int) : roundF (E20 k) (S20 k) Try.f20 p20_0 [] rec (n20_0 v.1 v.2) = spec_FewestChannels.s0 k (fun a0 a1 => rec (n20_0 a0 a1)) v.1 v.2 := by
  kernel_rfl
theorem q20_0 (k : Nat) (n : Nat) : ∀ v : (List Int) × Int, loopF (E20 k) (S20 k) Try.f20 p20_0 [] n (n20_0 v.1 v.2) = spec_FewestChannels.l0 k n v.1 v.2 :=
  loopF_eq (E20 k) (S20 k) Try.f20 p20_0 [] (fun v : (List Int) × Int => n20_0 v.1 v.2) (fun rec v => spec_FewestChannels.s0 k (fun a0 a1 => rec (a0, a1)) v.1 v.2) (fun n v => spec_FewestChannels.l0 k n v.1 v.2) (fun _ => rfl) (fun _ _ => rfl) (fun rec v => r20_0 k rec v) n
theorem e20 (k : Nat) (x : dens (flatC (S20 k).ps)) : funK (E20 k) (S20 k) Try.f20 x = (S20 k).fn x := by
  have h : funK (E20 k) (S20 k) Try.f20 x = spec_FewestChannels.g k (fun a0 a1 => loopF (E20 k) (S20 k) Try.f20 p20_0 [] k (n20_0 a0 a1)) x := by kernel_rfl
  rw [h]
  rw [show (fun a0 a1 => loopF (E20 k) (S20 k) Try.f20 p20_0 [] k (n20_0 a0 a1)) = spec_FewestChannels.l0 k k from funext fun a0 => funext fun a1 => q20_0 k k (a0, a1)]
  rfl
theorem M20 (k : Nat) : Meets Try.prog 20 (S20 k) := meets_of Try.func20 (by kernel_rfl) tbOk (orc_cons (M111 k) (orc_cons (M112 k) (orc_cons (M113 k) orc_nil))) mixOk (fun x y h => (e20 k x).trans h) rfl

/-! impl_FewestChannels: function 21 -/
noncomputable def impl_FewestChannels.s0 (k : Nat) (r0 : (List Int) → Int → Option (Int × Int)) (x1_0 : List Int) (x5 : Int) : Option (Int × Int) := if x5 ≤ 4 then ((impl_setGraphOf.f k x1_0 x5).bind fun t2 => (impl_setGraph_canServe.f t2).bind fun t3 => if t3 = true then (some (x5, 0)) else (r0 x1_0 (wrap64 (x5 + 1)))) else (some (0, 4))
noncomputable def impl_FewestChannels.l0 (k : Nat) : Nat → (List Int) → Int → Option (Int × Int)
  | 0, _, _ => none
  | n + 1, x0, x1 => impl_FewestChannels.s0 k (impl_FewestChannels.l0 k n) x0 x1
noncomputable def impl_FewestChannels.g (k : Nat) (r0 : (List Int) → Int → Option (Int × Int)) (l0_0 : List Int) : Option (Int × Int) := (impl_statesCode.f k l0_0 true).bind fun t1 => if t1 = 0 then (r0 l0_0 1) else (some (0, t1))
noncomputable def impl_FewestChannels.f (k : Nat) (l0_0 : List Int) : Option (Int × Int) := impl_FewestChannels.g k (impl_FewestChannels.l0 k k) l0_0
noncomputable def S21 (k : Nat) : Does := ⟨[(true, [.dat (.list (.int .i64))])], [(false, [.dat (.int .i64)]), (false, [.dat (.int .i64)])], fun x => impl_FewestChannels.f k x⟩
noncomputable def E21 (k : Nat) : En := ⟨tb, orcOf [(115, S115 k), (117, S117 k), (118, S118 k)], lvOf [(0, [(1, []), (5, [])])], k, 0, lvOf [], []⟩
noncomputable def n21_0 (x1_0 : List Int) (x5 : Int) : St := ⟨20, lookA [(1, .box 0 0), (5, .dat (.int .i64) x5)], Go.V.look [(0, .cells [.dat (.list (.int .i64)) x1_0])]⟩
def p21_0 : List Bool := [true, true, false, true, false]
theorem r21_0 (k : Nat) (rec : St → Option (Int × Int)) (v : (List Int) × Int) : roundF (E21 k) (S21 k) Try.f21 p21_0 [] rec (n21_0 v.1 v.2) = impl_FewestChannels.s0 k (fun a0 a1 => rec (n21_0 a0 a1)) v.1 v.2 := by
  kernel_rfl
theorem q21_0 (k : Nat) (n : Nat) : ∀ v : (List Int) × Int, loopF (E21 k) (S21 k) Try.f21 p21_0 [] n (n21_0 v.1 v.2) = impl_FewestChannels.l0 k n v.1 v.2 :=
  loopF_eq (E21 k) (S21 k) Try.f21 p21_0 [] (fun v : (List Int) × Int => n21_0 v.1 v.2) (fun rec v => impl_FewestChannels.s0 k (fun a0 a1 => rec (a0, a1)) v.1 v.2) (fun n v => impl_FewestChannels.l0 k n v.1 v.2) (fun _ => rfl) (fun _ _ => rfl) (fun rec v => r21_0 k rec v) n
theorem e21 (k : Nat) (x : dens (flatC (S21 k).ps)) : funK (E21 k) (S21 k) Try.f21 x = (S21 k).fn x := by
  have h : funK (E21 k) (S21 k) Try.f21 x = impl_FewestChannels.g k (fun a0 a1 => loopF (E21 k) (S21 k) Try.f21 p21_0 [] k (n21_0 a0 a1)) x := by kernel_rfl
  rw [h]
  rw [show (fun a0 a1 => loopF (E21 k) (S21 k) Try.f21 p21_0 [] k (n21_0 a0 a1)) = impl_FewestChannels.l0 k k from funext fun a0 => funext fun a1 => q21_0 k k (a0, a1)]
  rfl
theorem M21 (k : Nat) : Meets Try.prog 21 (S21 k) := meets_of Try.func21 (by kernel_rfl) tbOk (orc_cons (M115 k) (orc_cons (M117 k) (orc_cons (M118 k) orc_nil))) mixOk (fun x y h => (e21 k x).trans h) rfl

/-! laws_FnExactFewestChannels: function 5 -/
noncomputable def laws_FnExactFewestChannels.f (k : Nat) (l0_0 : List Int) : Option (Bool) := (laws_szTasks.f l0_0 1048576).bind fun t1 => if t1 < 0 then (some true) else ((laws_toTasks.f k l0_0).bind fun t2 => (spec_FewestChannels.f k t2).bind fun t3 => (laws_toTasks.f k l0_0).bind fun t4 => (impl_FewestChannels.f k t4).bind fun t5 => if t5.1 = t3.1 then (if t5.2 = t3.2 then ((laws_toTasks.f k l0_0).bind fun t6 => (laws_eqTasks.f k t4 t6).bind fun t7 => if t7 = true then (some true) else (some false)) else (some false)) else (some false))
noncomputable def S5 (k : Nat) : Does := ⟨[(true, [.dat (.list (.int .i64))])], [(false, [.dat .bool])], fun x => laws_FnExactFewestChannels.f k x⟩
noncomputable def E5 (k : Nat) : En := ⟨tb, orcOf [(15, S15 k), (17, S17 k), (20, S20 k), (21, S21 k), (19, S19 k)], lvOf [], k, 0, lvOf [], []⟩
theorem e5 (k : Nat) (x : dens (flatC (S5 k).ps)) : funK (E5 k) (S5 k) Try.f5 x = (S5 k).fn x := by
  kernel_rfl
theorem M5 (k : Nat) : Meets Try.prog 5 (S5 k) := meets_of Try.func5 (by kernel_rfl) tbOk (orc_cons (M15 k) (orc_cons (M17 k) (orc_cons (M20 k) (orc_cons (M21 k) (orc_cons (M19 k) orc_nil))))) mixOk (fun x y h => (e5 k x).trans h) rfl

/-! spec_l01Own: function 120 -/
noncomputable def spec_l01Own.f (l0 : List Int) : Option ((List Int)) := if 0 + l0.length ≤ 1099511627776 then (some ([] ++ l0)) else (none)
noncomputable def S120 (k : Nat) : Does := ⟨[(false, [.dat (.list (.int .i64))])], [(false, [.own 2 (.int .i64)])], fun x => spec_l01Own.f x⟩
noncomputable def E120 (k : Nat) : En := ⟨tb, orcOf [], lvOf [], k, 0, lvOf [], []⟩
theorem e120 (k : Nat) (x : dens (flatC (S120 k).ps)) : funK (E120 k) (S120 k) Try.f120 x = (S120 k).fn x := by
  kernel_rfl
theorem M120 (k : Nat) : Meets Try.prog 120 (S120 k) := meets_of Try.func120 (by kernel_rfl) tbOk orc_nil mixOk (fun x y h => (e120 k x).trans h) rfl

/-! spec_LeastPlayOn: function 22 -/
noncomputable def spec_LeastPlayOn.s1 (k : Nat) (r1 : (List Int) → (List Bool) → (List Int) → (List Int) → (List Int) → (List Int) → Option ((List Int) × (List Int) × Int)) (x2_0 : List Int) (x8 : List Bool) (x9 : List Int) (x10 : List Int) (x11 : List Int) (x12 : List Int) : Option ((List Int) × (List Int) × Int) := (spec_l02Number.f k x2_0 x11).bind fun t5 => if 0 ≤ t5 then (if t5 < (x10.length : Int) then (if 0 ≤ (rd x10 t5) then (if 0 ≤ (rd x10 t5) then (if (rd x10 t5) ≤ (x12.length : Int) then ((spec_l01Own.f (x12.take (rd x10 t5).toNat)).bind fun t6 => if 0 ≤ (rd x10 t5) then (if (rd x10 t5) ≤ (x12.length : Int) then (if (x12.length : Int) ≤ (x12.length : Int) then ((spec_l01Own.f ((x12.take (x12.length : Int).toNat).drop (rd x10 t5).toNat)).bind fun t7 => some (t6, t7, 0)) else (none)) else (none)) else (none)) else (none)) else (none)) else (if 0 ≤ t5 then (if t5 < (x10.length : Int) then ((spec_l08First.f k x2_0 x9 x8 x11).bind fun t8 => if x12.length + 1 ≤ 1099511627776 then ((spec_l02Of.f k x2_0 t8.2.1).bind fun t9 => r1 x2_0 x8 x9 (x10.set t5.toNat (x12.length : Int)) t9 (x12 ++ [t8.1])) else (none)) else (none)) else (none))) else (none)) else (none)
noncomputable def spec_LeastPlayOn.l1 (k : Nat) : Nat → (List Int) → (List Bool) → (List Int) → (List Int) → (List Int) → (List Int) → Option ((List Int) × (List Int) × Int)
  | 0, _, _, _, _, _, _ => none
  | n + 1, x0, x1, x2, x3, x4, x5 => spec_LeastPlayOn.s1 k (spec_LeastPlayOn.l1 k n) x0 x1 x2 x3 x4 x5
noncomputable def spec_LeastPlayOn.s0 (k : Nat) (r0 : (List Int) → (List Bool) → (List Int) → (List Int) → (List Int) → (List Int) → Int → Int → Option ((List Int) × (List Int) × Int)) (r1 : (List Int) → (List Bool) → (List Int) → (List Int) → (List Int) → (List Int) → Option ((List Int) × (List Int) × Int)) (x2_0 : List Int) (x8 : List Bool) (x9 : List Int) (x10 : List Int) (x11 : List Int) (x12 : List Int) (x46 : Int) (x47 : Int) : Option ((List Int) × (List Int) × Int) := if x47 < x46 then (if 0 ≤ x47 then (if x47 < (x10.length : Int) then (r0 x2_0 x8 x9 (x10.set x47.toNat (-1)) x11 x12 x46 (wrap64 (x47 + 1))) else (none)) else (none)) else (r1 x2_0 x8 x9 x10 x11 x12)
noncomputable def spec_LeastPlayOn.l0 (k : Nat) : Nat → (List Int) → (List Bool) → (List Int) → (List Int) → (List Int) → (List Int) → Int → Int → Option ((List Int) × (List Int) × Int)
  | 0, _, _, _, _, _, _, _, _ => none
  | n + 1, x0, x1, x2, x3, x4, x5, x6, x7 => spec_LeastPlayOn.s0 k (spec_LeastPlayOn.l0 k n) (spec_LeastPlayOn.l1 k k) x0 x1 x2 x3 x4 x5 x6 x7
noncomputable def spec_LeastPlayOn.g (k : Nat) (r0 : (List Int) → (List Bool) → (List Int) → (List Int) → (List Int) → (List Int) → Int → Int → Option ((List Int) × (List Int) × Int)) (l0_0 : List Int) (a1 : Int) : Option ((List Int) × (List Int) × Int) := (spec_l08Code.f k l0_0 a1).bind fun t1 => if t1 = 0 then ((spec_l08Lasting.f k l0_0 a1).bind fun t2 => (spec_l08Sets.f k l0_0 a1).bind fun t3 => if 0 ≤ (wrap64 ((t2.length : Int) - 1)) then (if (wrap64 ((t2.length : Int) - 1)) < (t2.length : Int) then (if (rdOf false t2 (wrap64 ((t2.length : Int) - 1))) = true then (if 0 ≤ (t2.length : Int) then (if (t2.length : Int) ≤ (t2.length : Int) then (if (t2.length : Int).toNat ≤ 1099511627776 then ((spec_l01Own.f l0_0).bind fun t4 => r0 l0_0 t2 t3 (List.replicate (t2.length : Int).toNat (0 : Int)) t4 [] ((List.replicate (t2.length : Int).toNat (0 : Int)).length : Int) 0) else (none)) else (none)) else (none)) else (some ([], [], 4))) else (none)) else (none)) else (some ([], [], t1))
noncomputable def spec_LeastPlayOn.f (k : Nat) (l0_0 : List Int) (a1 : Int) : Option ((List Int) × (List Int) × Int) := spec_LeastPlayOn.g k (spec_LeastPlayOn.l0 k k) l0_0 a1
noncomputable def S22 (k : Nat) : Does := ⟨[(true, [.dat (.list (.int .i64))]), (false, [.dat (.int .i64)])], [(false, [.own 2 (.int .i64)]), (false, [.own 2 (.int .i64)]), (false, [.dat (.int .i64)])], fun x => spec_LeastPlayOn.f k x.1 x.2⟩
noncomputable def E22 (k : Nat) : En := ⟨tb, orcOf [(111, S111 k), (112, S112 k), (119, S119 k), (120, S120 k), (121, S121 k), (122, S122 k), (123, S123 k)], lvOf [(0, [(2, []), (8, []), (9, []), (10, []), (11, []), (12, []), (46, []), (47, [])]), (2, [(2, []), (8, []), (9, []), (10, []), (11, []), (12, [])])], k, 0, lvOf [(16, [(12, [.data (.int .i64)])])], []⟩
noncomputable def n22_0 (x2_0 : List Int) (x8 : List Bool) (x9 : List Int) (x10 : List Int) (x11 : List Int) (x12 : List Int) (x46 : Int) (x47 : Int) : St := ⟨92, lookA [(2, .box 0 0), (8, .own 1), (9, .own 2), (10, .own 3), (11, .own 4), (12, .own 5), (46, .dat (.int .i64) x46), (47, .dat (.int .i64) x47)], Go.V.look [(0, .cells [.dat (.list (.int .i64)) x2_0]), (1, .flat 4 .bool x8), (2, .flat 2 (.int .i64) x9), (3, .flat 2 (.int .i64) x10), (4, .flat 2 (.int .i64) x11), (5, .flat 2 (.int .i64) x12)]⟩
def p22_0 : List Bool := [true, true, true, true, true, false, true, false]
noncomputable def n22_1 (x2_0 : List Int) (x8 : List Bool) (x9 : List Int) (x10 : List Int) (x11 : List Int) (x12 : List Int) : St := ⟨92, lookA [(2, .box 0 0), (8, .own 1), (9, .own 2), (10, .own 3), (11, .own 4), (12, .own 5)], Go.V.look [(0, .cells [.dat (.list (.int .i64)) x2_0]), (1, .flat 4 .bool x8), (2, .flat 2 (.int .i64) x9), (3, .flat 2 (.int .i64) x10), (4, .flat 2 (.int .i64) x11), (5, .flat 2 (.int .i64) x12)]⟩
def p22_1 : List Bool := [true, true, true, true, true, true, false]
theorem r22_1 (k : Nat) (rec : St → Option ((List Int) × (List Int) × Int)) (v : (List Int) × (List Bool) × (List Int) × (List Int) × (List Int) × (List Int)) : roundF (E22 k) (S22 k) Try.f22 p22_1 [] rec (n22_1 v.1 v.2.1 v.2.2.1 v.2.2.2.1 v.2.2.2.2.1 v.2.2.2.2.2) = spec_LeastPlayOn.s1 k (fun a0 a1 a2 a3 a4 a5 => rec (n22_1 a0 a1 a2 a3 a4 a5)) v.1 v.2.1 v.2.2.1 v.2.2.2.1 v.2.2.2.2.1 v.2.2.2.2.2 := by
  kernel_rfl
theorem q22_1 (k : Nat) (n : Nat) : ∀ v : (List Int) × (List Bool) × (List Int) × (List Int) × (List Int) × (List Int), loopF (E22 k) (S22 k) Try.f22 p22_1 [] n (n22_1 v.1 v.2.1 v.2.2.1 v.2.2.2.1 v.2.2.2.2.1 v.2.2.2.2.2) = spec_LeastPlayOn.l1 k n v.1 v.2.1 v.2.2.1 v.2.2.2.1 v.2.2.2.2.1 v.2.2.2.2.2 :=
  loopF_eq (E22 k) (S22 k) Try.f22 p22_1 [] (fun v : (List Int) × (List Bool) × (List Int) × (List Int) × (List Int) × (List Int) => n22_1 v.1 v.2.1 v.2.2.1 v.2.2.2.1 v.2.2.2.2.1 v.2.2.2.2.2) (fun rec v => spec_LeastPlayOn.s1 k (fun a0 a1 a2 a3 a4 a5 => rec (a0, a1, a2, a3, a4, a5)) v.1 v.2.1 v.2.2.1 v.2.2.2.1 v.2.2.2.2.1 v.2.2.2.2.2) (fun n v => spec_LeastPlayOn.l1 k n v.1 v.2.1 v.2.2.1 v.2.2.2.1 v.2.2.2.2.1 v.2.2.2.2.2) (fun _ => rfl) (fun _ _ => rfl) (fun rec v => r22_1 k rec v) n
theorem r22_0 (k : Nat) (rec : St → Option ((List Int) × (List Int) × Int)) (G1 : (List Int) → (List Bool) → (List Int) → (List Int) → (List Int) → (List Int) → Option ((List Int) × (List Int) × Int)) (h1 : ∀ a0 a1 a2 a3 a4 a5, loopF (E22 k) (S22 k) Try.f22 p22_1 [] k (n22_1 a0 a1 a2 a3 a4 a5) = G1 a0 a1 a2 a3 a4 a5) (v : (List Int) × (List Bool) × (List Int) × (List Int) × (List Int) × (List Int) × Int × Int) : roundF (E22 k) (S22 k) Try.f22 p22_0 [] rec (n22_0 v.1 v.2.1 v.2.2.1 v.2.2.2.1 v.2.2.2.2.1 v.2.2.2.2.2.1 v.2.2.2.2.2.2.1 v.2.2.2.2.2.2.2) = spec_LeastPlayOn.s0 k (fun a0 a1 a2 a3 a4 a5 a6 a7 => rec (n22_0 a0 a1 a2 a3 a4 a5 a6 a7)) G1 v.1 v.2.1 v.2.2.1 v.2.2.2.1 v.2.2.2.2.1 v.2.2.2.2.2.1 v.2.2.2.2.2.2.1 v.2.2.2.2.2.2.2 := by
  obtain rfl : (fun a0 a1 a2 a3 a4 a5 => loopF (E22 k) (S22 k) Try.f22 p22_1 [] k (n22_1 a0 a1 a2 a3 a4 a5)) = G1 := funext fun a0 => funext fun a1 => funext fun a2 => funext fun a3 => funext fun a4 => funext fun a5 => h1 a0 a1 a2 a3 a4 a5
  kernel_rfl
theorem q22_0 (k : Nat) (n : Nat) : ∀ v : (List Int) × (List Bool) × (List Int) × (List Int) × (List Int) × (List Int) × Int × Int, loopF (E22 k) (S22 k) Try.f22 p22_0 [] n (n22_0 v.1 v.2.1 v.2.2.1 v.2.2.2.1 v.2.2.2.2.1 v.2.2.2.2.2.1 v.2.2.2.2.2.2.1 v.2.2.2.2.2.2.2) = spec_LeastPlayOn.l0 k n v.1 v.2.1 v.2.2.1 v.2.2.2.1 v.2.2.2.2.1 v.2.2.2.2.2.1 v.2.2.2.2.2.2.1 v.2.2.2.2.2.2.2 :=
  loopF_eq (E22 k) (S22 k) Try.f22 p22_0 [] (fun v : (List Int) × (List Bool) × (List Int) × (List Int) × (List Int) × (List Int) × Int × Int => n22_0 v.1 v.2.1 v.2.2.1 v.2.2.2.1 v.2.2.2.2.1 v.2.2.2.2.2.1 v.2.2.2.2.2.2.1 v.2.2.2.2.2.2.2) (fun rec v => spec_LeastPlayOn.s0 k (fun a0 a1 a2 a3 a4 a5 a6 a7 => rec (a0, a1, a2, a3, a4, a5, a6, a7)) (spec_LeastPlayOn.l1 k k) v.1 v.2.1 v.2.2.1 v.2.2.2.1 v.2.2.2.2.1 v.2.2.2.2.2.1 v.2.2.2.2.2.2.1 v.2.2.2.2.2.2.2) (fun n v => spec_LeastPlayOn.l0 k n v.1 v.2.1 v.2.2.1 v.2.2.2.1 v.2.2.2.2.1 v.2.2.2.2.2.1 v.2.2.2.2.2.2.1 v.2.2.2.2.2.2.2) (fun _ => rfl) (fun _ _ => rfl) (fun rec v => r22_0 k rec _ (fun a0 a1 a2 a3 a4 a5 => q22_1 k k (a0, a1, a2, a3, a4, a5)) v) n
theorem e22 (k : Nat) (x : dens (flatC (S22 k).ps)) : funK (E22 k) (S22 k) Try.f22 x = (S22 k).fn x := by
  have h : funK (E22 k) (S22 k) Try.f22 x = spec_LeastPlayOn.g k (fun a0 a1 a2 a3 a4 a5 a6 a7 => loopF (E22 k) (S22 k) Try.f22 p22_0 [] k (n22_0 a0 a1 a2 a3 a4 a5 a6 a7)) x.1 x.2 := by kernel_rfl
  rw [h]
  rw [show (fun a0 a1 a2 a3 a4 a5 a6 a7 => loopF (E22 k) (S22 k) Try.f22 p22_0 [] k (n22_0 a0 a1 a2 a3 a4 a5 a6 a7)) = spec_LeastPlayOn.l0 k k from funext fun a0 => funext fun a1 => funext fun a2 => funext fun a3 => funext fun a4 => funext fun a5 => funext fun a6 => funext fun a7 => q22_0 k k (a0, a1, a2, a3, a4, a5, a6, a7)]
  rfl
theorem M22 (k : Nat) : Meets Try.prog 22 (S22 k) := meets_of Try.func22 (by kernel_rfl) tbOk (orc_cons (M111 k) (orc_cons (M112 k) (orc_cons (M119 k) (orc_cons (M120 k) (orc_cons (M121 k) (orc_cons (M122 k) (orc_cons (M123 k) orc_nil))))))) mixOk (fun x y h => (e22 k x).trans h) rfl

/-! impl_LeastPlayOn: function 23 -/
noncomputable def impl_LeastPlayOn.s0 (k : Nat) (r0 : ((List (List (Int × Int))) × (List Bool)) → (List (Int × Int)) → (List Int) → Int → Option ((List Int) × (List Int) × Int)) (x8 : (List (List (Int × Int))) × (List Bool)) (x9 : List (Int × Int)) (x10 : List Int) (x11 : Int) : Option ((List Int) × (List Int) × Int) := if (mgI x9 x11).isSome = true then (if 0 ≤ ((mgI x9 x11).getD 0) then (if ((mgI x9 x11).getD 0) ≤ (x10.length : Int) then ((slices_Clone_int64_int64.f (x10.take ((mgI x9 x11).getD 0).toNat)).bind fun t6 => if 0 ≤ ((mgI x9 x11).getD 0) then (if ((mgI x9 x11).getD 0) ≤ (x10.length : Int) then (if (x10.length : Int) ≤ (x10.length : Int) then ((slices_Clone_int64_int64.f ((x10.take (x10.length : Int).toNat).drop ((mgI x9 x11).getD 0).toNat)).bind fun t7 => some (t6, t7, 0)) else (none)) else (none)) else (none)) else (none)) else (none)) else ((impl_setGraph_least.f k x8 x11).bind fun t8 => if x10.length + 1 ≤ 1099511627776 then (r0 x8 (mpI x9 x11 (x10.length : Int)) (x10 ++ [t8.1]) t8.2.1) else (none))
noncomputable def impl_LeastPlayOn.l0 (k : Nat) : Nat → ((List (List (Int × Int))) × (List Bool)) → (List (Int × Int)) → (List Int) → Int → Option ((List Int) × (List Int) × Int)
  | 0, _, _, _, _ => none
  | n + 1, x0, x1, x2, x3 => impl_LeastPlayOn.s0 k (impl_LeastPlayOn.l0 k n) x0 x1 x2 x3
noncomputable def impl_LeastPlayOn.g (k : Nat) (r0 : ((List (List (Int × Int))) × (List Bool)) → (List (Int × Int)) → (List Int) → Int → Option ((List Int) × (List Int) × Int)) (l0_0 : List Int) (a1 : Int) : Option ((List Int) × (List Int) × Int) := (impl_isChannels.f a1).bind fun t1 => (impl_statesCode.f k l0_0 t1).bind fun t2 => if t2 = 0 then ((impl_setGraphOf.f k l0_0 a1).bind fun t3 => (impl_setGraph_canServe.f t3).bind fun t4 => if t4 = true then ((impl_Tasks_states.f k l0_0).bind fun t5 => r0 t3 [] [] (wrap64 (t5 - 1))) else (some ([], [], 4))) else (some ([], [], t2))
noncomputable def impl_LeastPlayOn.f (k : Nat) (l0_0 : List Int) (a1 : Int) : Option ((List Int) × (List Int) × Int) := impl_LeastPlayOn.g k (impl_LeastPlayOn.l0 k k) l0_0 a1
noncomputable def S23 (k : Nat) : Does := ⟨[(true, [.dat (.list (.int .i64))]), (false, [.dat (.int .i64)])], [(false, [.own 2 (.int .i64)]), (false, [.own 2 (.int .i64)]), (false, [.dat (.int .i64)])], fun x => impl_LeastPlayOn.f k x.1 x.2⟩
noncomputable def E23 (k : Nat) : En := ⟨tb, orcOf [(116, S116 k), (115, S115 k), (117, S117 k), (118, S118 k), (124, S124 k), (125, S125 k), (126, S126 k)], lvOf [(0, [(8, []), (9, []), (10, [.nil 2 (.int .i64)]), (11, [])])], k, 0, lvOf [(12, [(10, [.data (.int .i64)])])], []⟩
noncomputable def n23_0 (x8 : (List (List (Int × Int))) × (List Bool)) (x9 : List (Int × Int)) (x10 : List Int) (x11 : Int) : St := ⟨65, lookA [(8, .dp (.struct (.pair (.list (.list (.struct (.pair (.int .i64) (.int .i64))))) (.list .bool))) x8), (9, .om 0), (10, .own 1), (11, .dat (.int .i64) x11)], Go.V.look [(0, .mp (.int .i64) (.int .i64) x9), (1, .flat 2 (.int .i64) x10)]⟩
def p23_0 : List Bool := [true, true, true, true, true, true, true, false]
theorem r23_0 (k : Nat) (rec : St → Option ((List Int) × (List Int) × Int)) (v : ((List (List (Int × Int))) × (List Bool)) × (List (Int × Int)) × (List Int) × Int) : roundF (E23 k) (S23 k) Try.f23 p23_0 [] rec (n23_0 v.1 v.2.1 v.2.2.1 v.2.2.2) = impl_LeastPlayOn.s0 k (fun a0 a1 a2 a3 => rec (n23_0 a0 a1 a2 a3)) v.1 v.2.1 v.2.2.1 v.2.2.2 := by
  kernel_rfl
theorem q23_0 (k : Nat) (n : Nat) : ∀ v : ((List (List (Int × Int))) × (List Bool)) × (List (Int × Int)) × (List Int) × Int, loopF (E23 k) (S23 k) Try.f23 p23_0 [] n (n23_0 v.1 v.2.1 v.2.2.1 v.2.2.2) = impl_LeastPlayOn.l0 k n v.1 v.2.1 v.2.2.1 v.2.2.2 :=
  loopF_eq (E23 k) (S23 k) Try.f23 p23_0 [] (fun v : ((List (List (Int × Int))) × (List Bool)) × (List (Int × Int)) × (List Int) × Int => n23_0 v.1 v.2.1 v.2.2.1 v.2.2.2) (fun rec v => impl_LeastPlayOn.s0 k (fun a0 a1 a2 a3 => rec (a0, a1, a2, a3)) v.1 v.2.1 v.2.2.1 v.2.2.2) (fun n v => impl_LeastPlayOn.l0 k n v.1 v.2.1 v.2.2.1 v.2.2.2) (fun _ => rfl) (fun _ _ => rfl) (fun rec v => r23_0 k rec v) n
theorem e23 (k : Nat) (x : dens (flatC (S23 k).ps)) : funK (E23 k) (S23 k) Try.f23 x = (S23 k).fn x := by
  have h : funK (E23 k) (S23 k) Try.f23 x = impl_LeastPlayOn.g k (fun a0 a1 a2 a3 => loopF (E23 k) (S23 k) Try.f23 p23_0 [] k (n23_0 a0 a1 a2 a3)) x.1 x.2 := by kernel_rfl
  rw [h]
  rw [show (fun a0 a1 a2 a3 => loopF (E23 k) (S23 k) Try.f23 p23_0 [] k (n23_0 a0 a1 a2 a3)) = impl_LeastPlayOn.l0 k k from funext fun a0 => funext fun a1 => funext fun a2 => funext fun a3 => q23_0 k k (a0, a1, a2, a3)]
  rfl
theorem M23 (k : Nat) : Meets Try.prog 23 (S23 k) := meets_of Try.func23 (by kernel_rfl) tbOk (orc_cons (M116 k) (orc_cons (M115 k) (orc_cons (M117 k) (orc_cons (M118 k) (orc_cons (M124 k) (orc_cons (M125 k) (orc_cons (M126 k) orc_nil))))))) mixOk (fun x y h => (e23 k x).trans h) rfl

/-! laws_markInt64S: function 26 -/
noncomputable def laws_markInt64S.s0 (k : Nat) (r0 : (List Int) → Int → Int → Option (Int × (List Int))) (x0 : List Int) (x1 : Int) (x5 : Int) : Option (Int × (List Int)) := if x5 < (x0.length : Int) then (if 0 ≤ x5 then (if x5 < (x0.length : Int) then (r0 (x0.set x5.toNat x1) (wrap64 (x1 + 1)) (wrap64 (x5 + 1))) else (none)) else (none)) else (some (x1, x0))
noncomputable def laws_markInt64S.l0 (k : Nat) : Nat → (List Int) → Int → Int → Option (Int × (List Int))
  | 0, _, _, _ => none
  | n + 1, x0, x1, x2 => laws_markInt64S.s0 k (laws_markInt64S.l0 k n) x0 x1 x2
noncomputable def laws_markInt64S.g (k : Nat) (r0 : (List Int) → Int → Int → Option (Int × (List Int))) (l0 : List Int) (a1 : Int) : Option (Int × (List Int)) := r0 l0 a1 0
noncomputable def laws_markInt64S.f (k : Nat) (l0 : List Int) (a1 : Int) : Option (Int × (List Int)) := laws_markInt64S.g k (laws_markInt64S.l0 k k) l0 a1
noncomputable def S26 (k : Nat) : Does := ⟨[(false, [.own 2 (.int .i64)]), (false, [.dat (.int .i64)])], [(false, [.dat (.int .i64)])], fun x => laws_markInt64S.f k x.1 x.2⟩
noncomputable def E26 (k : Nat) : En := ⟨tb, orcOf [], lvOf [(0, [(0, []), (1, []), (5, [])])], k, 1, lvOf [], []⟩
noncomputable def n26_0 (x0 : List Int) (x1 : Int) (x5 : Int) : St := ⟨19, lookA [(0, .own 0), (1, .dat (.int .i64) x1), (5, .dat (.int .i64) x5)], Go.V.look [(0, .flat 2 (.int .i64) x0)]⟩
def p26_0 : List Bool := [true, false, true, false]
theorem r26_0 (k : Nat) (rec : St → Option (Int × (List Int))) (v : (List Int) × Int × Int) : roundF (E26 k) (S26 k) Try.f26 p26_0 [] rec (n26_0 v.1 v.2.1 v.2.2) = laws_markInt64S.s0 k (fun a0 a1 a2 => rec (n26_0 a0 a1 a2)) v.1 v.2.1 v.2.2 := by
  kernel_rfl
theorem q26_0 (k : Nat) (n : Nat) : ∀ v : (List Int) × Int × Int, loopF (E26 k) (S26 k) Try.f26 p26_0 [] n (n26_0 v.1 v.2.1 v.2.2) = laws_markInt64S.l0 k n v.1 v.2.1 v.2.2 :=
  loopF_eq (E26 k) (S26 k) Try.f26 p26_0 [] (fun v : (List Int) × Int × Int => n26_0 v.1 v.2.1 v.2.2) (fun rec v => laws_markInt64S.s0 k (fun a0 a1 a2 => rec (a0, a1, a2)) v.1 v.2.1 v.2.2) (fun n v => laws_markInt64S.l0 k n v.1 v.2.1 v.2.2) (fun _ => rfl) (fun _ _ => rfl) (fun rec v => r26_0 k rec v) n
theorem e26 (k : Nat) (x : dens (flatC (S26 k).ps)) : funK (E26 k) (S26 k) Try.f26 x = (S26 k).fn x := by
  have h : funK (E26 k) (S26 k) Try.f26 x = laws_markInt64S.g k (fun a0 a1 a2 => loopF (E26 k) (S26 k) Try.f26 p26_0 [] k (n26_0 a0 a1 a2)) x.1 x.2 := by kernel_rfl
  rw [h]
  rw [show (fun a0 a1 a2 => loopF (E26 k) (S26 k) Try.f26 p26_0 [] k (n26_0 a0 a1 a2)) = laws_markInt64S.l0 k k from funext fun a0 => funext fun a1 => funext fun a2 => q26_0 k k (a0, a1, a2)]
  rfl
theorem M26 (k : Nat) : Meets Try.prog 26 (S26 k) := meets_of Try.func26 (by kernel_rfl) tbOk orc_nil mixOk (fun x y h => (e26 k x).trans h) rfl

/-! laws_markTasks: function 25 -/
noncomputable def laws_markTasks.f (k : Nat) (l0_0 : List Int) (a1 : Int) : Option (Int × (List Int)) := (laws_markInt64S.f k l0_0 a1).bind fun t1 => some (t1.1, t1.2)
noncomputable def S25 (k : Nat) : Does := ⟨[(true, [.own 2 (.int .i64)]), (false, [.dat (.int .i64)])], [(false, [.dat (.int .i64)])], fun x => laws_markTasks.f k x.1 x.2⟩
noncomputable def E25 (k : Nat) : En := ⟨tb, orcOf [(26, S26 k)], lvOf [], k, 1, lvOf [], []⟩
theorem e25 (k : Nat) (x : dens (flatC (S25 k).ps)) : funK (E25 k) (S25 k) Try.f25 x = (S25 k).fn x := by
  kernel_rfl
theorem M25 (k : Nat) : Meets Try.prog 25 (S25 k) := meets_of Try.func25 (by kernel_rfl) tbOk (orc_cons (M26 k) orc_nil) mixOk (fun x y h => (e25 k x).trans h) rfl

/-! laws_heldInt64S: function 27 -/
noncomputable def laws_heldInt64S.s0 (k : Nat) (r0 : (List Int) → Int → Int → Option (Int)) (x0 : List Int) (x1 : Int) (x5 : Int) : Option (Int) := if x5 < (x0.length : Int) then (if 0 ≤ x5 then (if x5 < (x0.length : Int) then (if (rd x0 x5) = x1 then (r0 x0 (wrap64 (x1 + 1)) (wrap64 (x5 + 1))) else (some (-1))) else (none)) else (none)) else (some x1)
noncomputable def laws_heldInt64S.l0 (k : Nat) : Nat → (List Int) → Int → Int → Option (Int)
  | 0, _, _, _ => none
  | n + 1, x0, x1, x2 => laws_heldInt64S.s0 k (laws_heldInt64S.l0 k n) x0 x1 x2
noncomputable def laws_heldInt64S.g (k : Nat) (r0 : (List Int) → Int → Int → Option (Int)) (l0 : List Int) (a1 : Int) : Option (Int) := r0 l0 a1 0
noncomputable def laws_heldInt64S.f (k : Nat) (l0 : List Int) (a1 : Int) : Option (Int) := laws_heldInt64S.g k (laws_heldInt64S.l0 k k) l0 a1
noncomputable def S27 (k : Nat) : Does := ⟨[(false, [.dat (.list (.int .i64))]), (false, [.dat (.int .i64)])], [(false, [.dat (.int .i64)])], fun x => laws_heldInt64S.f k x.1 x.2⟩
noncomputable def E27 (k : Nat) : En := ⟨tb, orcOf [], lvOf [(0, [(0, []), (1, []), (5, [])])], k, 0, lvOf [], []⟩
noncomputable def n27_0 (x0 : List Int) (x1 : Int) (x5 : Int) : St := ⟨21, lookA [(0, .dat (.list (.int .i64)) x0), (1, .dat (.int .i64) x1), (5, .dat (.int .i64) x5)], Go.V.look []⟩
def p27_0 : List Bool := [true, false, true, false]
theorem r27_0 (k : Nat) (rec : St → Option (Int)) (v : (List Int) × Int × Int) : roundF (E27 k) (S27 k) Try.f27 p27_0 [] rec (n27_0 v.1 v.2.1 v.2.2) = laws_heldInt64S.s0 k (fun a0 a1 a2 => rec (n27_0 a0 a1 a2)) v.1 v.2.1 v.2.2 := by
  kernel_rfl
theorem q27_0 (k : Nat) (n : Nat) : ∀ v : (List Int) × Int × Int, loopF (E27 k) (S27 k) Try.f27 p27_0 [] n (n27_0 v.1 v.2.1 v.2.2) = laws_heldInt64S.l0 k n v.1 v.2.1 v.2.2 :=
  loopF_eq (E27 k) (S27 k) Try.f27 p27_0 [] (fun v : (List Int) × Int × Int => n27_0 v.1 v.2.1 v.2.2) (fun rec v => laws_heldInt64S.s0 k (fun a0 a1 a2 => rec (a0, a1, a2)) v.1 v.2.1 v.2.2) (fun n v => laws_heldInt64S.l0 k n v.1 v.2.1 v.2.2) (fun _ => rfl) (fun _ _ => rfl) (fun rec v => r27_0 k rec v) n
theorem e27 (k : Nat) (x : dens (flatC (S27 k).ps)) : funK (E27 k) (S27 k) Try.f27 x = (S27 k).fn x := by
  have h : funK (E27 k) (S27 k) Try.f27 x = laws_heldInt64S.g k (fun a0 a1 a2 => loopF (E27 k) (S27 k) Try.f27 p27_0 [] k (n27_0 a0 a1 a2)) x.1 x.2 := by kernel_rfl
  rw [h]
  rw [show (fun a0 a1 a2 => loopF (E27 k) (S27 k) Try.f27 p27_0 [] k (n27_0 a0 a1 a2)) = laws_heldInt64S.l0 k k from funext fun a0 => funext fun a1 => funext fun a2 => q27_0 k k (a0, a1, a2)]
  rfl
theorem M27 (k : Nat) : Meets Try.prog 27 (S27 k) := meets_of Try.func27 (by kernel_rfl) tbOk orc_nil mixOk (fun x y h => (e27 k x).trans h) rfl

/-! laws_FnExactLeastPlayOn: function 6 -/
noncomputable def laws_FnExactLeastPlayOn.f (k : Nat) (l0_0 : List Int) (a1 : Int) : Option (Bool) := (laws_szTasks.f l0_0 1048576).bind fun t1 => if t1 < 0 then (some true) else ((laws_toTasks.f k l0_0).bind fun t2 => (spec_LeastPlayOn.f k t2 a1).bind fun t3 => (laws_toTasks.f k l0_0).bind fun t4 => (impl_LeastPlayOn.f k t4 a1).bind fun t5 => (laws_eqInt64S.f k t5.1 t3.1).bind fun t6 => if t6 = true then ((laws_eqInt64S.f k t5.2.1 t3.2.1).bind fun t7 => if t7 = true then (if t5.2.2 = t3.2.2 then ((laws_toTasks.f k l0_0).bind fun t8 => (laws_eqTasks.f k t4 t8).bind fun t9 => if t9 = true then ((laws_markTasks.f k t4 1).bind fun t10 => if t10.1 < 0 then (some false) else ((laws_eqInt64S.f k t5.1 t3.1).bind fun t11 => if t11 = true then ((laws_eqInt64S.f k t5.2.1 t3.2.1).bind fun t12 => if t12 = true then (if t5.2.2 = t3.2.2 then ((laws_markInt64S.f k t5.1 1).bind fun t13 => (laws_markInt64S.f k t5.2.1 t13.1).bind fun t14 => (laws_heldInt64S.f k t13.2 1).bind fun t15 => if t15 < 0 then (some false) else ((laws_heldInt64S.f k t14.2 t15).bind fun t16 => if t16 < 0 then (some false) else (if t16 = t14.1 then ((laws_toTasks.f k l0_0).bind fun t17 => (impl_LeastPlayOn.f k t17 a1).bind fun t18 => (laws_eqInt64S.f k t18.1 t3.1).bind fun t19 => if t19 = true then ((laws_eqInt64S.f k t18.2.1 t3.2.1).bind fun t20 => if t20 = true then (if t18.2.2 = t3.2.2 then ((laws_heldInt64S.f k t13.2 1).bind fun t21 => if t21 < 0 then (some false) else ((laws_heldInt64S.f k t14.2 t21).bind fun t22 => if t22 < 0 then (some false) else (if t22 = t14.1 then (some true) else (some false)))) else (some false)) else (some false)) else (some false)) else (some false)))) else (some false)) else (some false)) else (some false))) else (some false)) else (some false)) else (some false)) else (some false))
noncomputable def S6 (k : Nat) : Does := ⟨[(true, [.dat (.list (.int .i64))]), (false, [.dat (.int .i64)])], [(false, [.dat .bool])], fun x => laws_FnExactLeastPlayOn.f k x.1 x.2⟩
noncomputable def E6 (k : Nat) : En := ⟨tb, orcOf [(15, S15 k), (17, S17 k), (22, S22 k), (23, S23 k), (24, S24 k), (19, S19 k), (25, S25 k), (26, S26 k), (27, S27 k)], lvOf [], k, 0, lvOf [], []⟩
theorem e6 (k : Nat) (x : dens (flatC (S6 k).ps)) : funK (E6 k) (S6 k) Try.f6 x = (S6 k).fn x := by
  kernel_rfl
theorem M6 (k : Nat) : Meets Try.prog 6 (S6 k) := meets_of Try.func6 (by kernel_rfl) tbOk (orc_cons (M15 k) (orc_cons (M17 k) (orc_cons (M22 k) (orc_cons (M23 k) (orc_cons (M24 k) (orc_cons (M19 k) (orc_cons (M25 k) (orc_cons (M26 k) (orc_cons (M27 k) orc_nil))))))))) mixOk (fun x y h => (e6 k x).trans h) rfl

/-! impl_Tasks_step: function 140 -/
noncomputable def impl_Tasks_step.s0 (k : Nat) (r0 : Int → (List Int) → (List Int) → Int → Int → Option ((List Int) × Bool)) (x2 : Int) (x3_0 : List Int) (x8 : List Int) (x13 : Int) (x14 : Int) : Option ((List Int) × Bool) := if x14 < x13 then (if (decide (x14 = x2)) = true then (if 0 ≤ x14 then (if x14 < (x3_0.length : Int) then (if 0 ≤ x14 then (if x14 < (x8.length : Int) then (r0 x2 x3_0 (x8.set x14.toNat (rd x3_0 x14)) x13 (wrap64 (x14 + 1))) else (none)) else (none)) else (none)) else (none)) else (if 0 ≤ x14 then (if x14 < (x8.length : Int) then (if (decide ((rd x8 x14) < 2)) = true then (some ([], false)) else (if 0 ≤ x14 then (if x14 < (x8.length : Int) then (if 0 ≤ x14 then (if x14 < (x8.length : Int) then (r0 x2 x3_0 (x8.set x14.toNat (wrap64 ((rd x8 x14) - 1))) x13 (wrap64 (x14 + 1))) else (none)) else (none)) else (none)) else (none))) else (none)) else (none))) else (some (x8, true))
noncomputable def impl_Tasks_step.l0 (k : Nat) : Nat → Int → (List Int) → (List Int) → Int → Int → Option ((List Int) × Bool)
  | 0, _, _, _, _, _ => none
  | n + 1, x0, x1, x2, x3, x4 => impl_Tasks_step.s0 k (impl_Tasks_step.l0 k n) x0 x1 x2 x3 x4
noncomputable def impl_Tasks_step.g (k : Nat) (r0 : Int → (List Int) → (List Int) → Int → Int → Option ((List Int) × Bool)) (l0_0 : List Int) (l1 : List Int) (a2 : Int) : Option ((List Int) × Bool) := (slices_Clone_int64_int64.f l1).bind fun t1 => r0 a2 l0_0 t1 (t1.length : Int) 0
noncomputable def impl_Tasks_step.f (k : Nat) (l0_0 : List Int) (l1 : List Int) (a2 : Int) : Option ((List Int) × Bool) := impl_Tasks_step.g k (impl_Tasks_step.l0 k k) l0_0 l1 a2
noncomputable def S140 (k : Nat) : Does := ⟨[(true, [.dat (.list (.int .i64))]), (false, [.dat (.list (.int .i64))]), (false, [.dat (.int .i64)])], [(false, [.own 2 (.int .i64)]), (false, [.dat .bool])], fun x => impl_Tasks_step.f k x.1 x.2.1 x.2.2⟩
noncomputable def E140 (k : Nat) : En := ⟨tb, orcOf [(125, S125 k)], lvOf [(0, [(2, []), (3, []), (8, []), (13, []), (14, [])])], k, 0, lvOf [], []⟩
noncomputable def n140_0 (x2 : Int) (x3_0 : List Int) (x8 : List Int) (x13 : Int) (x14 : Int) : St := ⟨43, lookA [(2, .dat (.int .i64) x2), (3, .box 0 0), (8, .own 1), (13, .dat (.int .i64) x13), (14, .dat (.int .i64) x14)], Go.V.look [(0, .cells [.dat (.list (.int .i64)) x3_0]), (1, .flat 2 (.int .i64) x8)]⟩
def p140_0 : List Bool := [true, true, false, true, false]
theorem r140_0 (k : Nat) (rec : St → Option ((List Int) × Bool)) (v : Int × (List Int) × (List Int) × Int × Int) : roundF (E140 k) (S140 k) Try.f140 p140_0 [] rec (n140_0 v.1 v.2.1 v.2.2.1 v.2.2.2.1 v.2.2.2.2) = impl_Tasks_step.s0 k (fun a0 a1 a2 a3 a4 => rec (n140_0 a0 a1 a2 a3 a4)) v.1 v.2.1 v.2.2.1 v.2.2.2.1 v.2.2.2.2 := by
  kernel_rfl
theorem q140_0 (k : Nat) (n : Nat) : ∀ v : Int × (List Int) × (List Int) × Int × Int, loopF (E140 k) (S140 k) Try.f140 p140_0 [] n (n140_0 v.1 v.2.1 v.2.2.1 v.2.2.2.1 v.2.2.2.2) = impl_Tasks_step.l0 k n v.1 v.2.1 v.2.2.1 v.2.2.2.1 v.2.2.2.2 :=
  loopF_eq (E140 k) (S140 k) Try.f140 p140_0 [] (fun v : Int × (List Int) × (List Int) × Int × Int => n140_0 v.1 v.2.1 v.2.2.1 v.2.2.2.1 v.2.2.2.2) (fun rec v => impl_Tasks_step.s0 k (fun a0 a1 a2 a3 a4 => rec (a0, a1, a2, a3, a4)) v.1 v.2.1 v.2.2.1 v.2.2.2.1 v.2.2.2.2) (fun n v => impl_Tasks_step.l0 k n v.1 v.2.1 v.2.2.1 v.2.2.2.1 v.2.2.2.2) (fun _ => rfl) (fun _ _ => rfl) (fun rec v => r140_0 k rec v) n
theorem e140 (k : Nat) (x : dens (flatC (S140 k).ps)) : funK (E140 k) (S140 k) Try.f140 x = (S140 k).fn x := by
  have h : funK (E140 k) (S140 k) Try.f140 x = impl_Tasks_step.g k (fun a0 a1 a2 a3 a4 => loopF (E140 k) (S140 k) Try.f140 p140_0 [] k (n140_0 a0 a1 a2 a3 a4)) x.1 x.2.1 x.2.2 := by kernel_rfl
  rw [h]
  rw [show (fun a0 a1 a2 a3 a4 => loopF (E140 k) (S140 k) Try.f140 p140_0 [] k (n140_0 a0 a1 a2 a3 a4)) = impl_Tasks_step.l0 k k from funext fun a0 => funext fun a1 => funext fun a2 => funext fun a3 => funext fun a4 => q140_0 k k (a0, a1, a2, a3, a4)]
  rfl
theorem M140 (k : Nat) : Meets Try.prog 140 (S140 k) := meets_of Try.func140 (by kernel_rfl) tbOk (orc_cons (M125 k) orc_nil) mixOk (fun x y h => (e140 k x).trans h) rfl

/-! impl_graph_keeping: function 131 -/
noncomputable def impl_graph_keeping.s0 (k : Nat) (r0 : ((List Int) × (List (List (Int × Int))) × (List Bool)) → Int → (List Int) → Int → Option ((List Int))) (x0 : (List Int) × (List (List (Int × Int))) × (List Bool)) (x1 : Int) (x5 : List Int) (x6 : Int) : Option ((List Int)) := (impl_Tasks_many.f x0.1).bind fun t1 => if x6 < t1 then (if 0 ≤ x1 then (if x1 < (x0.2.1.length : Int) then (if (mgI (rdOf ([] : List (Int × Int)) x0.2.1 x1) x6).isSome = true then (if 0 ≤ ((mgI (rdOf ([] : List (Int × Int)) x0.2.1 x1) x6).getD 0) then (if ((mgI (rdOf ([] : List (Int × Int)) x0.2.1 x1) x6).getD 0) < (x0.2.2.length : Int) then (if (rdOf false x0.2.2 ((mgI (rdOf ([] : List (Int × Int)) x0.2.1 x1) x6).getD 0)) = true then (if x5.length + 1 ≤ 1099511627776 then (r0 x0 x1 (x5 ++ [x6]) (wrap64 (x6 + 1))) else (none)) else (r0 x0 x1 x5 (wrap64 (x6 + 1)))) else (none)) else (none)) else (r0 x0 x1 x5 (wrap64 (x6 + 1)))) else (none)) else (none)) else (some x5)
noncomputable def impl_graph_keeping.l0 (k : Nat) : Nat → ((List Int) × (List (List (Int × Int))) × (List Bool)) → Int → (List Int) → Int → Option ((List Int))
  | 0, _, _, _, _ => none
  | n + 1, x0, x1, x2, x3 => impl_graph_keeping.s0 k (impl_graph_keeping.l0 k n) x0 x1 x2 x3
noncomputable def impl_graph_keeping.g (k : Nat) (r0 : ((List Int) × (List (List (Int × Int))) × (List Bool)) → Int → (List Int) → Int → Option ((List Int))) (a0 : (List Int) × (List (List (Int × Int))) × (List Bool)) (a1 : Int) : Option ((List Int)) := r0 a0 a1 [] (-1)
noncomputable def impl_graph_keeping.f (k : Nat) (a0 : (List Int) × (List (List (Int × Int))) × (List Bool)) (a1 : Int) : Option ((List Int)) := impl_graph_keeping.g k (impl_graph_keeping.l0 k k) a0 a1
noncomputable def S131 (k : Nat) : Does := ⟨[(false, [.dat (.ptr (.struct (.pair (.struct (.list (.int .i64))) (.pair (.list (.map (.int .i64) (.int .i64))) (.list .bool)))))]), (false, [.dat (.int .i64)])], [(false, [.own 2 (.int .i64)])], fun x => impl_graph_keeping.f k x.1 x.2⟩
noncomputable def E131 (k : Nat) : En := ⟨tb, orcOf [(197, S197 k)], lvOf [(0, [(0, []), (1, []), (5, [.nil 2 (.int .i64)]), (6, [])])], k, 0, lvOf [], []⟩
noncomputable def n131_0 (x0 : (List Int) × (List (List (Int × Int))) × (List Bool)) (x1 : Int) (x5 : List Int) (x6 : Int) : St := ⟨45, lookA [(0, .dp (.struct (.pair (.struct (.list (.int .i64))) (.pair (.list (.map (.int .i64) (.int .i64))) (.list .bool)))) x0), (1, .dat (.int .i64) x1), (5, .own 0), (6, .dat (.int .i64) x6)], Go.V.look [(0, .flat 2 (.int .i64) x5)]⟩
def p131_0 : List Bool := [true, true, false, true, false]
theorem r131_0 (k : Nat) (rec : St → Option ((List Int))) (v : ((List Int) × (List (List (Int × Int))) × (List Bool)) × Int × (List Int) × Int) : roundF (E131 k) (S131 k) Try.f131 p131_0 [] rec (n131_0 v.1 v.2.1 v.2.2.1 v.2.2.2) = impl_graph_keeping.s0 k (fun a0 a1 a2 a3 => rec (n131_0 a0 a1 a2 a3)) v.1 v.2.1 v.2.2.1 v.2.2.2 := by
  kernel_rfl
theorem q131_0 (k : Nat) (n : Nat) : ∀ v : ((List Int) × (List (List (Int × Int))) × (List Bool)) × Int × (List Int) × Int, loopF (E131 k) (S131 k) Try.f131 p131_0 [] n (n131_0 v.1 v.2.1 v.2.2.1 v.2.2.2) = impl_graph_keeping.l0 k n v.1 v.2.1 v.2.2.1 v.2.2.2 :=
  loopF_eq (E131 k) (S131 k) Try.f131 p131_0 [] (fun v : ((List Int) × (List (List (Int × Int))) × (List Bool)) × Int × (List Int) × Int => n131_0 v.1 v.2.1 v.2.2.1 v.2.2.2) (fun rec v => impl_graph_keeping.s0 k (fun a0 a1 a2 a3 => rec (a0, a1, a2, a3)) v.1 v.2.1 v.2.2.1 v.2.2.2) (fun n v => impl_graph_keeping.l0 k n v.1 v.2.1 v.2.2.1 v.2.2.2) (fun _ => rfl) (fun _ _ => rfl) (fun rec v => r131_0 k rec v) n
theorem e131 (k : Nat) (x : dens (flatC (S131 k).ps)) : funK (E131 k) (S131 k) Try.f131 x = (S131 k).fn x := by
  have h : funK (E131 k) (S131 k) Try.f131 x = impl_graph_keeping.g k (fun a0 a1 a2 a3 => loopF (E131 k) (S131 k) Try.f131 p131_0 [] k (n131_0 a0 a1 a2 a3)) x.1 x.2 := by kernel_rfl
  rw [h]
  rw [show (fun a0 a1 a2 a3 => loopF (E131 k) (S131 k) Try.f131 p131_0 [] k (n131_0 a0 a1 a2 a3)) = impl_graph_keeping.l0 k k from funext fun a0 => funext fun a1 => funext fun a2 => funext fun a3 => q131_0 k k (a0, a1, a2, a3)]
  rfl
theorem M131 (k : Nat) : Meets Try.prog 131 (S131 k) := meets_of Try.func131 (by kernel_rfl) tbOk (orc_cons (M197 k) orc_nil) mixOk (fun x y h => (e131 k x).trans h) rfl

/-! impl_graphOf: function 129 -/
noncomputable def impl_graphOf.s3 (k : Nat) (r2 : (List Int) → (List (List (Int × Int))) → (List Bool) → Bool → Option (((List Int) × (List (List (Int × Int))) × (List Bool)))) (r3 : (List Int) → (List (List (Int × Int))) → (List Bool) → Bool → Int → Int → Option (((List Int) × (List (List (Int × Int))) × (List Bool)))) (x3_0 : List Int) (x3_1 : List (List (Int × Int))) (x3_2 : List Bool) (x9 : Bool) (x67 : Int) (x68 : Int) : Option (((List Int) × (List (List (Int × Int))) × (List Bool))) := if x68 < x67 then (if 0 ≤ x68 then (if x68 < (x3_2.length : Int) then (if (rdOf false x3_2 x68) = true then ((impl_graph_keeping.f k (x3_0, x3_1, x3_2) x68).bind fun t6 => if (t6.length : Int) = 0 then (if 0 ≤ x68 then (if x68 < (x3_2.length : Int) then (r3 x3_0 x3_1 (x3_2.set x68.toNat false) true x67 (wrap64 (x68 + 1))) else (none)) else (none)) else (r3 x3_0 x3_1 x3_2 x9 x67 (wrap64 (x68 + 1)))) else (r3 x3_0 x3_1 x3_2 x9 x67 (wrap64 (x68 + 1)))) else (none)) else (none)) else (r2 x3_0 x3_1 x3_2 x9)
noncomputable def impl_graphOf.l3 (k : Nat) (r2 : (List Int) → (List (List (Int × Int))) → (List Bool) → Bool → Option (((List Int) × (List (List (Int × Int))) × (List Bool)))) : Nat → (List Int) → (List (List (Int × Int))) → (List Bool) → Bool → Int → Int → Option (((List Int) × (List (List (Int × Int))) × (List Bool)))
  | 0, _, _, _, _, _, _ => none
  | n + 1, x0, x1, x2, x3, x4, x5 => impl_graphOf.s3 k r2 (impl_graphOf.l3 k r2 n) x0 x1 x2 x3 x4 x5
noncomputable def impl_graphOf.s2 (k : Nat) (r2 : (List Int) → (List (List (Int × Int))) → (List Bool) → Bool → Option (((List Int) × (List (List (Int × Int))) × (List Bool)))) (r3 : (List Int) → (List (List (Int × Int))) → (List Bool) → Bool → Int → Int → Option (((List Int) × (List (List (Int × Int))) × (List Bool)))) (x3_0 : List Int) (x3_1 : List (List (Int × Int))) (x3_2 : List Bool) (x9 : Bool) : Option (((List Int) × (List (List (Int × Int))) × (List Bool))) := if x9 = true then (r3 x3_0 x3_1 x3_2 false (x3_2.length : Int) 0) else (some (x3_0, x3_1, x3_2))
noncomputable def impl_graphOf.l2 (k : Nat) : Nat → (List Int) → (List (List (Int × Int))) → (List Bool) → Bool → Option (((List Int) × (List (List (Int × Int))) × (List Bool)))
  | 0, _, _, _, _ => none
  | n + 1, x0, x1, x2, x3 => impl_graphOf.s2 k (impl_graphOf.l2 k n) (impl_graphOf.l3 k (impl_graphOf.l2 k n) k) x0 x1 x2 x3
noncomputable def impl_graphOf.s1 (k : Nat) (r0 : (List Int) → (List Int) → (List (List (Int × Int))) → (List Bool) → Int → Int → Option (((List Int) × (List (List (Int × Int))) × (List Bool)))) (r1 : (List Int) → (List Int) → (List (List (Int × Int))) → (List Bool) → Int → (List (Int × Int)) → Int → Int → Int → Option (((List Int) × (List (List (Int × Int))) × (List Bool)))) (x1_0 : List Int) (x3_0 : List Int) (x3_1 : List (List (Int × Int))) (x3_2 : List Bool) (x4 : Int) (x5 : List (Int × Int)) (x6 : Int) (x16 : Int) (x17 : Int) : Option (((List Int) × (List (List (Int × Int))) × (List Bool))) := (impl_Tasks_many.f x1_0).bind fun t2 => if x6 < t2 then ((impl_Tasks_numbered.f k x1_0 x4).bind fun t3 => (impl_Tasks_step.f k x1_0 t3 x6).bind fun t4 => if t4.2 = true then ((impl_Tasks_number.f k x1_0 t4.1).bind fun t5 => r1 x1_0 x3_0 x3_1 x3_2 x4 (mpI x5 x6 t5) (wrap64 (x6 + 1)) x16 x17) else (r1 x1_0 x3_0 x3_1 x3_2 x4 x5 (wrap64 (x6 + 1)) x16 x17)) else (if x3_1.length + 1 ≤ 1099511627776 then (if x3_2.length + 1 ≤ 1099511627776 then (r0 x1_0 x3_0 (x3_1 ++ [x5]) (x3_2 ++ [true]) x16 (wrap64 (x17 + 1))) else (none)) else (none))
noncomputable def impl_graphOf.l1 (k : Nat) (r0 : (List Int) → (List Int) → (List (List (Int × Int))) → (List Bool) → Int → Int → Option (((List Int) × (List (List (Int × Int))) × (List Bool)))) : Nat → (List Int) → (List Int) → (List (List (Int × Int))) → (List Bool) → Int → (List (Int × Int)) → Int → Int → Int → Option (((List Int) × (List (List (Int × Int))) × (List Bool)))
  | 0, _, _, _, _, _, _, _, _, _ => none
  | n + 1, x0, x1, x2, x3, x4, x5, x6, x7, x8 => impl_graphOf.s1 k r0 (impl_graphOf.l1 k r0 n) x0 x1 x2 x3 x4 x5 x6 x7 x8
noncomputable def impl_graphOf.s0 (k : Nat) (r0 : (List Int) → (List Int) → (List (List (Int × Int))) → (List Bool) → Int → Int → Option (((List Int) × (List (List (Int × Int))) × (List Bool)))) (r1 : (List Int) → (List Int) → (List (List (Int × Int))) → (List Bool) → Int → (List (Int × Int)) → Int → Int → Int → Option (((List Int) × (List (List (Int × Int))) × (List Bool)))) (r2 : (List Int) → (List (List (Int × Int))) → (List Bool) → Bool → Option (((List Int) × (List (List (Int × Int))) × (List Bool)))) (x1_0 : List Int) (x3_0 : List Int) (x3_1 : List (List (Int × Int))) (x3_2 : List Bool) (x16 : Int) (x17 : Int) : Option (((List Int) × (List (List (Int × Int))) × (List Bool))) := if x17 < x16 then (r1 x1_0 x3_0 x3_1 x3_2 x17 [] (-1) x16 x17) else (r2 x3_0 x3_1 x3_2 true)
noncomputable def impl_graphOf.l0 (k : Nat) : Nat → (List Int) → (List Int) → (List (List (Int × Int))) → (List Bool) → Int → Int → Option (((List Int) × (List (List (Int × Int))) × (List Bool)))
  | 0, _, _, _, _, _, _ => none
  | n + 1, x0, x1, x2, x3, x4, x5 => impl_graphOf.s0 k (impl_graphOf.l0 k n) (impl_graphOf.l1 k (impl_graphOf.l0 k n) k) (impl_graphOf.l2 k k) x0 x1 x2 x3 x4 x5
noncomputable def impl_graphOf.g (k : Nat) (r0 : (List Int) → (List Int) → (List (List (Int × Int))) → (List Bool) → Int → Int → Option (((List Int) × (List (List (Int × Int))) × (List Bool)))) (l0_0 : List Int) : Option (((List Int) × (List (List (Int × Int))) × (List Bool))) := (impl_Tasks_states.f k l0_0).bind fun t1 => r0 l0_0 l0_0 [] [] t1 0
noncomputable def impl_graphOf.f (k : Nat) (l0_0 : List Int) : Option (((List Int) × (List (List (Int × Int))) × (List Bool))) := impl_graphOf.g k (impl_graphOf.l0 k k) l0_0
noncomputable def S129 (k : Nat) : Does := ⟨[(true, [.dat (.list (.int .i64))])], [(false, [.dat (.ptr (.struct (.pair (.struct (.list (.int .i64))) (.pair (.list (.map (.int .i64) (.int .i64))) (.list .bool)))))])], fun x => impl_graphOf.f k x⟩
noncomputable def E129 (k : Nat) : En := ⟨tb, orcOf [(124, S124 k), (197, S197 k), (155, S155 k), (140, S140 k), (130, S130 k), (131, S131 k)], lvOf [(0, [(1, []), (3, [.cell 1 145 (.map (.int .i64) (.int .i64)), .cell 2 4 .bool]), (16, []), (17, [])]), (2, [(1, []), (3, []), (4, []), (5, []), (6, []), (16, []), (17, [])]), (4, [(3, []), (9, [])]), (6, [(3, []), (9, []), (66, []), (67, []), (68, [])])], k, 0, lvOf [], []⟩
noncomputable def n129_0 (x1_0 : List Int) (x3_0 : List Int) (x3_1 : List (List (Int × Int))) (x3_2 : List Bool) (x16 : Int) (x17 : Int) : St := ⟨89, lookA [(1, .box 0 0), (3, .box 1 0), (16, .dat (.int .i64) x16), (17, .dat (.int .i64) x17)], Go.V.look [(0, .cells [.dat (.list (.int .i64)) x1_0]), (1, .cells [.dat (.list (.int .i64)) x3_0, .own 2, .own 3]), (2, .flat 145 (.map (.int .i64) (.int .i64)) x3_1), (3, .flat 4 .bool x3_2)]⟩
def p129_0 : List Bool := [true, true, false, true, false]
noncomputable def n129_1 (x1_0 : List Int) (x3_0 : List Int) (x3_1 : List (List (Int × Int))) (x3_2 : List Bool) (x4 : Int) (x5 : List (Int × Int)) (x6 : Int) (x16 : Int) (x17 : Int) : St := ⟨89, lookA [(1, .box 0 0), (3, .box 1 0), (4, .dat (.int .i64) x4), (5, .om 2), (6, .dat (.int .i64) x6), (16, .dat (.int .i64) x16), (17, .dat (.int .i64) x17)], Go.V.look [(0, .cells [.dat (.list (.int .i64)) x1_0]), (1, .cells [.dat (.list (.int .i64)) x3_0, .own 3, .own 4]), (2, .mp (.int .i64) (.int .i64) x5), (3, .flat 145 (.map (.int .i64) (.int .i64)) x3_1), (4, .flat 4 .bool x3_2)]⟩
def p129_1 : List Bool := [true, true, false, true, false, false, true, true, false, false, true, true, false, true, false]
noncomputable def n129_2 (x3_0 : List Int) (x3_1 : List (List (Int × Int))) (x3_2 : List Bool) (x9 : Bool) : St := ⟨89, lookA [(3, .box 0 0), (9, .dat .bool x9)], Go.V.look [(0, .cells [.dat (.list (.int .i64)) x3_0, .own 1, .own 2]), (1, .flat 145 (.map (.int .i64) (.int .i64)) x3_1), (2, .flat 4 .bool x3_2)]⟩
def p129_2 : List Bool := [true, true, true, false, true, false]
noncomputable def n129_3 (x3_0 : List Int) (x3_1 : List (List (Int × Int))) (x3_2 : List Bool) (x9 : Bool) (x67 : Int) (x68 : Int) : St := ⟨89, lookA [(3, .box 0 0), (9, .dat .bool x9), (66, .own 1), (67, .dat (.int .i64) x67), (68, .dat (.int .i64) x68)], Go.V.look [(0, .cells [.dat (.list (.int .i64)) x3_0, .own 2, .own 1]), (1, .flat 4 .bool x3_2), (2, .flat 145 (.map (.int .i64) (.int .i64)) x3_1)]⟩
def p129_3 : List Bool := [true, true, true, false, true, false, false, true, false, true, true, false]
theorem r129_3 (k : Nat) (R2 : St → Option (((List Int) × (List (List (Int × Int))) × (List Bool)))) (rec : St → Option (((List Int) × (List (List (Int × Int))) × (List Bool)))) (v : (List Int) × (List (List (Int × Int))) × (List Bool) × Bool × Int × Int) : roundF (E129 k) (S129 k) Try.f129 p129_3 [R2] rec (n129_3 v.1 v.2.1 v.2.2.1 v.2.2.2.1 v.2.2.2.2.1 v.2.2.2.2.2) = impl_graphOf.s3 k (fun a0 a1 a2 a3 => R2 (n129_2 a0 a1 a2 a3)) (fun a0 a1 a2 a3 a4 a5 => rec (n129_3 a0 a1 a2 a3 a4 a5)) v.1 v.2.1 v.2.2.1 v.2.2.2.1 v.2.2.2.2.1 v.2.2.2.2.2 := by
  kernel_rfl
theorem q129_3 (k : Nat) (R2 : St → Option (((List Int) × (List (List (Int × Int))) × (List Bool)))) (n : Nat) : ∀ v : (List Int) × (List (List (Int × Int))) × (List Bool) × Bool × Int × Int, loopF (E129 k) (S129 k) Try.f129 p129_3 [R2] n (n129_3 v.1 v.2.1 v.2.2.1 v.2.2.2.1 v.2.2.2.2.1 v.2.2.2.2.2) = impl_graphOf.l3 k (fun a0 a1 a2 a3 => R2 (n129_2 a0 a1 a2 a3)) n v.1 v.2.1 v.2.2.1 v.2.2.2.1 v.2.2.2.2.1 v.2.2.2.2.2 :=
  loopF_eq (E129 k) (S129 k) Try.f129 p129_3 [R2] (fun v : (List Int) × (List (List (Int × Int))) × (List Bool) × Bool × Int × Int => n129_3 v.1 v.2.1 v.2.2.1 v.2.2.2.1 v.2.2.2.2.1 v.2.2.2.2.2) (fun rec v => impl_graphOf.s3 k (fun a0 a1 a2 a3 => R2 (n129_2 a0 a1 a2 a3)) (fun a0 a1 a2 a3 a4 a5 => rec (a0, a1, a2, a3, a4, a5)) v.1 v.2.1 v.2.2.1 v.2.2.2.1 v.2.2.2.2.1 v.2.2.2.2.2) (fun n v => impl_graphOf.l3 k (fun a0 a1 a2 a3 => R2 (n129_2 a0 a1 a2 a3)) n v.1 v.2.1 v.2.2.1 v.2.2.2.1 v.2.2.2.2.1 v.2.2.2.2.2) (fun _ => rfl) (fun _ _ => rfl) (fun rec v => r129_3 k R2 rec v) n
theorem r129_2 (k : Nat) (rec : St → Option (((List Int) × (List (List (Int × Int))) × (List Bool)))) (G3 : (List Int) → (List (List (Int × Int))) → (List Bool) → Bool → Int → Int → Option (((List Int) × (List (List (Int × Int))) × (List Bool)))) (h3 : ∀ a0 a1 a2 a3 a4 a5, loopF (E129 k) (S129 k) Try.f129 p129_3 [rec] k (n129_3 a0 a1 a2 a3 a4 a5) = G3 a0 a1 a2 a3 a4 a5) (v : (List Int) × (List (List (Int × Int))) × (List Bool) × Bool) : roundF (E129 k) (S129 k) Try.f129 p129_2 [] rec (n129_2 v.1 v.2.1 v.2.2.1 v.2.2.2) = impl_graphOf.s2 k (fun a0 a1 a2 a3 => rec (n129_2 a0 a1 a2 a3)) G3 v.1 v.2.1 v.2.2.1 v.2.2.2 := by
  obtain rfl : (fun a0 a1 a2 a3 a4 a5 => loopF (E129 k) (S129 k) Try.f129 p129_3 [rec] k (n129_3 a0 a1 a2 a3 a4 a5)) = G3 := funext fun a0 => funext fun a1 => funext fun a2 => funext fun a3 => funext fun a4 => funext fun a5 => h3 a0 a1 a2 a3 a4 a5
  kernel_rfl
theorem q129_2 (k : Nat) (n : Nat) : ∀ v : (List Int) × (List (List (Int × Int))) × (List Bool) × Bool, loopF (E129 k) (S129 k) Try.f129 p129_2 [] n (n129_2 v.1 v.2.1 v.2.2.1 v.2.2.2) = impl_graphOf.l2 k n v.1 v.2.1 v.2.2.1 v.2.2.2 :=
  loopF_eq (E129 k) (S129 k) Try.f129 p129_2 [] (fun v : (List Int) × (List (List (Int × Int))) × (List Bool) × Bool => n129_2 v.1 v.2.1 v.2.2.1 v.2.2.2) (fun rec v => impl_graphOf.s2 k (fun a0 a1 a2 a3 => rec (a0, a1, a2, a3)) (impl_graphOf.l3 k (fun a0 a1 a2 a3 => rec (a0, a1, a2, a3)) k) v.1 v.2.1 v.2.2.1 v.2.2.2) (fun n v => impl_graphOf.l2 k n v.1 v.2.1 v.2.2.1 v.2.2.2) (fun _ => rfl) (fun _ _ => rfl) (fun rec v => r129_2 k rec _ (fun a0 a1 a2 a3 a4 a5 => q129_3 k rec k (a0, a1, a2, a3, a4, a5)) v) n
theorem r129_1 (k : Nat) (R0 : St → Option (((List Int) × (List (List (Int × Int))) × (List Bool)))) (rec : St → Option (((List Int) × (List (List (Int × Int))) × (List Bool)))) (v : (List Int) × (List Int) × (List (List (Int × Int))) × (List Bool) × Int × (List (Int × Int)) × Int × Int × Int) : roundF (E129 k) (S129 k) Try.f129 p129_1 [R0] rec (n129_1 v.1 v.2.1 v.2.2.1 v.2.2.2.1 v.2.2.2.2.1 v.2.2.2.2.2.1 v.2.2.2.2.2.2.1 v.2.2.2.2.2.2.2.1 v.2.2.2.2.2.2.2.2) = impl_graphOf.s1 k (fun a0 a1 a2 a3 a4 a5 => R0 (n129_0 a0 a1 a2 a3 a4 a5)) (fun a0 a1 a2 a3 a4 a5 a6 a7 a8 => rec (n129_1 a0 a1 a2 a3 a4 a5 a6 a7 a8)) v.1 v.2.1 v.2.2.1 v.2.2.2.1 v.2.2.2.2.1 v.2.2.2.2.2.1 v.2.2.2.2.2.2.1 v.2.2.2.2.2.2.2.1 v.2.2.2.2.2.2.2.2 := by
  kernel_rfl
theorem q129_1 (k : Nat) (R0 : St → Option (((List Int) × (List (List (Int × Int))) × (List Bool)))) (n : Nat) : ∀ v : (List Int) × (List Int) × (List (List (Int × Int))) × (List Bool) × Int × (List (Int × Int)) × Int × Int × Int, loopF (E129 k) (S129 k) Try.f129 p129_1 [R0] n (n129_1 v.1 v.2.1 v.2.2.1 v.2.2.2.1 v.2.2.2.2.1 v.2.2.2.2.2.1 v.2.2.2.2.2.2.1 v.2.2.2.2.2.2.2.1 v.2.2.2.2.2.2.2.2) = impl_graphOf.l1 k (fun a0 a1 a2 a3 a4 a5 => R0 (n129_0 a0 a1 a2 a3 a4 a5)) n v.1 v.2.1 v.2.2.1 v.2.2.2.1 v.2.2.2.2.1 v.2.2.2.2.2.1 v.2.2.2.2.2.2.1 v.2.2.2.2.2.2.2.1 v.2.2.2.2.2.2.2.2 :=
  loopF_eq (E129 k) (S129 k) Try.f129 p129_1 [R0] (fun v : (List Int) × (List Int) × (List (List (Int × Int))) × (List Bool) × Int × (List (Int × Int)) × Int × Int × Int => n129_1 v.1 v.2.1 v.2.2.1 v.2.2.2.1 v.2.2.2.2.1 v.2.2.2.2.2.1 v.2.2.2.2.2.2.1 v.2.2.2.2.2.2.2.1 v.2.2.2.2.2.2.2.2) (fun rec v => impl_graphOf.s1 k (fun a0 a1 a2 a3 a4 a5 => R0 (n129_0 a0 a1 a2 a3 a4 a5)) (fun a0 a1 a2 a3 a4 a5 a6 a7 a8 => rec (a0, a1, a2, a3, a4, a5, a6, a7, a8)) v.1 v.2.1 v.2.2.1 v.2.2.2.1 v.2.2.2.2.1 v.2.2.2.2.2.1 v.2.2.2.2.2.2.1 v.2.2.2.2.2.2.2.1 v.2.2.2.2.2.2.2.2) (fun n v => impl_graphOf.l1 k (fun a0 a1 a2 a3 a4 a5 => R0 (n129_0 a0 a1 a2 a3 a4 a5)) n v.1 v.2.1 v.2.2.1 v.2.2.2.1 v.2.2.2.2.1 v.2.2.2.2.2.1 v.2.2.2.2.2.2.1 v.2.2.2.2.2.2.2.1 v.2.2.2.2.2.2.2.2) (fun _ => rfl) (fun _ _ => rfl) (fun rec v => r129_1 k R0 rec v) n
theorem r129_0 (k : Nat) (rec : St → Option (((List Int) × (List (List (Int × Int))) × (List Bool)))) (G1 : (List Int) → (List Int) → (List (List (Int × Int))) → (List Bool) → Int → (List (Int × Int)) → Int → Int → Int → Option (((List Int) × (List (List (Int × Int))) × (List Bool)))) (h1 : ∀ a0 a1 a2 a3 a4 a5 a6 a7 a8, loopF (E129 k) (S129 k) Try.f129 p129_1 [rec] k (n129_1 a0 a1 a2 a3 a4 a5 a6 a7 a8) = G1 a0 a1 a2 a3 a4 a5 a6 a7 a8) (G2 : (List Int) → (List (List (Int × Int))) → (List Bool) → Bool → Option (((List Int) × (List (List (Int × Int))) × (List Bool)))) (h2 : ∀ a0 a1 a2 a3, loopF (E129 k) (S129 k) Try.f129 p129_2 [] k (n129_2 a0 a1 a2 a3) = G2 a0 a1 a2 a3) (v : (List Int) × (List Int) × (List (List (Int × Int))) × (List Bool) × Int × Int) : roundF (E129 k) (S129 k) Try.f129 p129_0 [] rec (n129_0 v.1 v.2.1 v.2.2.1 v.2.2.2.1 v.2.2.2.2.1 v.2.2.2.2.2) = impl_graphOf.s0 k (fun a0 a1 a2 a3 a4 a5 => rec (n129_0 a0 a1 a2 a3 a4 a5)) G1 G2 v.1 v.2.1 v.2.2.1 v.2.2.2.1 v.2.2.2.2.1 v.2.2.2.2.2 := by
  obtain rfl : (fun a0 a1 a2 a3 a4 a5 a6 a7 a8 => loopF (E129 k) (S129 k) Try.f129 p129_1 [rec] k (n129_1 a0 a1 a2 a3 a4 a5 a6 a7 a8)) = G1 := funext fun a0 => funext fun a1 => funext fun a2 => funext fun a3 => funext fun a4 => funext fun a5 => funext fun a6 => funext fun a7 => funext fun a8 => h1 a0 a1 a2 a3 a4 a5 a6 a7 a8
  obtain rfl : (fun a0 a1 a2 a3 => loopF (E129 k) (S129 k) Try.f129 p129_2 [] k (n129_2 a0 a1 a2 a3)) = G2 := funext fun a0 => funext fun a1 => funext fun a2 => funext fun a3 => h2 a0 a1 a2 a3
  kernel_rfl
theorem q129_0 (k : Nat) (n : Nat) : ∀ v : (List Int) × (List Int) × (List (List (Int × Int))) × (List Bool) × Int × Int, loopF (E129 k) (S129 k) Try.f129 p129_0 [] n (n129_0 v.1 v.2.1 v.2.2.1 v.2.2.2.1 v.2.2.2.2.1 v.2.2.2.2.2) = impl_graphOf.l0 k n v.1 v.2.1 v.2.2.1 v.2.2.2.1 v.2.2.2.2.1 v.2.2.2.2.2 :=
  loopF_eq (E129 k) (S129 k) Try.f129 p129_0 [] (fun v : (List Int) × (List Int) × (List (List (Int × Int))) × (List Bool) × Int × Int => n129_0 v.1 v.2.1 v.2.2.1 v.2.2.2.1 v.2.2.2.2.1 v.2.2.2.2.2) (fun rec v => impl_graphOf.s0 k (fun a0 a1 a2 a3 a4 a5 => rec (a0, a1, a2, a3, a4, a5)) (impl_graphOf.l1 k (fun a0 a1 a2 a3 a4 a5 => rec (a0, a1, a2, a3, a4, a5)) k) (impl_graphOf.l2 k k) v.1 v.2.1 v.2.2.1 v.2.2.2.1 v.2.2.2.2.1 v.2.2.2.2.2) (fun n v => impl_graphOf.l0 k n v.1 v.2.1 v.2.2.1 v.2.2.2.1 v.2.2.2.2.1 v.2.2.2.2.2) (fun _ => rfl) (fun _ _ => rfl) (fun rec v => r129_0 k rec _ (fun a0 a1 a2 a3 a4 a5 a6 a7 a8 => q129_1 k rec k (a0, a1, a2, a3, a4, a5, a6, a7, a8)) _ (fun a0 a1 a2 a3 => q129_2 k k (a0, a1, a2, a3)) v) n
theorem e129 (k : Nat) (x : dens (flatC (S129 k).ps)) : funK (E129 k) (S129 k) Try.f129 x = (S129 k).fn x := by
  have h : funK (E129 k) (S129 k) Try.f129 x = impl_graphOf.g k (fun a0 a1 a2 a3 a4 a5 => loopF (E129 k) (S129 k) Try.f129 p129_0 [] k (n129_0 a0 a1 a2 a3 a4 a5)) x := by kernel_rfl
  rw [h]
  rw [show (fun a0 a1 a2 a3 a4 a5 => loopF (E129 k) (S129 k) Try.f129 p129_0 [] k (n129_0 a0 a1 a2 a3 a4 a5)) = impl_graphOf.l0 k k from funext fun a0 => funext fun a1 => funext fun a2 => funext fun a3 => funext fun a4 => funext fun a5 => q129_0 k k (a0, a1, a2, a3, a4, a5)]
  rfl
theorem M129 (k : Nat) : Meets Try.prog 129 (S129 k) := meets_of Try.func129 (by kernel_rfl) tbOk (orc_cons (M124 k) (orc_cons (M197 k) (orc_cons (M155 k) (orc_cons (M140 k) (orc_cons (M130 k) (orc_cons (M131 k) orc_nil)))))) mixOk (fun x y h => (e129 k x).trans h) rfl

/-! spec_l02Step: function 143 -/
noncomputable def spec_l02Step.s0 (k : Nat) (r0 : (List Int) → Int → (List Int) → (List Int) → Int → Option ((List Int) × Bool)) (x1 : List Int) (x2 : Int) (x3_0 : List Int) (x8 : List Int) (x9 : Int) : Option ((List Int) × Bool) := if x9 < (x1.length : Int) then (if (decide (x9 = x2)) = true then (if 0 ≤ x9 then (if x9 < (x3_0.length : Int) then (if x8.length + 1 ≤ 1099511627776 then (r0 x1 x2 x3_0 (x8 ++ [(rd x3_0 x9)]) (wrap64 (x9 + 1))) else (none)) else (none)) else (none)) else (if 0 ≤ x9 then (if x9 < (x1.length : Int) then (if (decide ((rd x1 x9) = 1)) = true then (some ([], false)) else (if 0 ≤ x9 then (if x9 < (x1.length : Int) then (if x8.length + 1 ≤ 1099511627776 then (r0 x1 x2 x3_0 (x8 ++ [(wrap64 ((rd x1 x9) - 1))]) (wrap64 (x9 + 1))) else (none)) else (none)) else (none))) else (none)) else (none))) else (some (x8, true))
noncomputable def spec_l02Step.l0 (k : Nat) : Nat → (List Int) → Int → (List Int) → (List Int) → Int → Option ((List Int) × Bool)
  | 0, _, _, _, _, _ => none
  | n + 1, x0, x1, x2, x3, x4 => spec_l02Step.s0 k (spec_l02Step.l0 k n) x0 x1 x2 x3 x4
noncomputable def spec_l02Step.g (k : Nat) (r0 : (List Int) → Int → (List Int) → (List Int) → Int → Option ((List Int) × Bool)) (l0_0 : List Int) (l1 : List Int) (a2 : Int) : Option ((List Int) × Bool) := r0 l1 a2 l0_0 [] 0
noncomputable def spec_l02Step.f (k : Nat) (l0_0 : List Int) (l1 : List Int) (a2 : Int) : Option ((List Int) × Bool) := spec_l02Step.g k (spec_l02Step.l0 k k) l0_0 l1 a2
noncomputable def S143 (k : Nat) : Does := ⟨[(true, [.dat (.list (.int .i64))]), (false, [.dat (.list (.int .i64))]), (false, [.dat (.int .i64)])], [(false, [.own 2 (.int .i64)]), (false, [.dat .bool])], fun x => spec_l02Step.f k x.1 x.2.1 x.2.2⟩
noncomputable def E143 (k : Nat) : En := ⟨tb, orcOf [], lvOf [(0, [(1, []), (2, []), (3, []), (8, []), (9, [])])], k, 0, lvOf [], []⟩
noncomputable def n143_0 (x1 : List Int) (x2 : Int) (x3_0 : List Int) (x8 : List Int) (x9 : Int) : St := ⟨44, lookA [(1, .dat (.list (.int .i64)) x1), (2, .dat (.int .i64) x2), (3, .box 0 0), (8, .own 1), (9, .dat (.int .i64) x9)], Go.V.look [(0, .cells [.dat (.list (.int .i64)) x3_0]), (1, .flat 2 (.int .i64) x8)]⟩
def p143_0 : List Bool := [true, true, false, true, false]
theorem r143_0 (k : Nat) (rec : St → Option ((List Int) × Bool)) (v : (List Int) × Int × (List Int) × (List Int) × Int) : roundF (E143 k) (S143 k) Try.f143 p143_0 [] rec (n143_0 v.1 v.2.1 v.2.2.1 v.2.2.2.1 v.2.2.2.2) = spec_l02Step.s0 k (fun a0 a1 a2 a3 a4 => rec (n143_0 a0 a1 a2 a3 a4)) v.1 v.2.1 v.2.2.1 v.2.2.2.1 v.2.2.2.2 := by
  kernel_rfl
theorem q143_0 (k : Nat) (n : Nat) : ∀ v : (List Int) × Int × (List Int) × (List Int) × Int, loopF (E143 k) (S143 k) Try.f143 p143_0 [] n (n143_0 v.1 v.2.1 v.2.2.1 v.2.2.2.1 v.2.2.2.2) = spec_l02Step.l0 k n v.1 v.2.1 v.2.2.1 v.2.2.2.1 v.2.2.2.2 :=
  loopF_eq (E143 k) (S143 k) Try.f143 p143_0 [] (fun v : (List Int) × Int × (List Int) × (List Int) × Int => n143_0 v.1 v.2.1 v.2.2.1 v.2.2.2.1 v.2.2.2.2) (fun rec v => spec_l02Step.s0 k (fun a0 a1 a2 a3 a4 => rec (a0, a1, a2, a3, a4)) v.1 v.2.1 v.2.2.1 v.2.2.2.1 v.2.2.2.2) (fun n v => spec_l02Step.l0 k n v.1 v.2.1 v.2.2.1 v.2.2.2.1 v.2.2.2.2) (fun _ => rfl) (fun _ _ => rfl) (fun rec v => r143_0 k rec v) n
theorem e143 (k : Nat) (x : dens (flatC (S143 k).ps)) : funK (E143 k) (S143 k) Try.f143 x = (S143 k).fn x := by
  have h : funK (E143 k) (S143 k) Try.f143 x = spec_l02Step.g k (fun a0 a1 a2 a3 a4 => loopF (E143 k) (S143 k) Try.f143 p143_0 [] k (n143_0 a0 a1 a2 a3 a4)) x.1 x.2.1 x.2.2 := by kernel_rfl
  rw [h]
  rw [show (fun a0 a1 a2 a3 a4 => loopF (E143 k) (S143 k) Try.f143 p143_0 [] k (n143_0 a0 a1 a2 a3 a4)) = spec_l02Step.l0 k k from funext fun a0 => funext fun a1 => funext fun a2 => funext fun a3 => funext fun a4 => q143_0 k k (a0, a1, a2, a3, a4)]
  rfl
theorem M143 (k : Nat) : Meets Try.prog 143 (S143 k) := meets_of Try.func143 (by kernel_rfl) tbOk orc_nil mixOk (fun x y h => (e143 k x).trans h) rfl

/-! spec_l02Lasting: function 133 -/
noncomputable def spec_l02Lasting.s3 (k : Nat) (r2 : (List Int) → Int → (List Bool) → Bool → Int → Option ((List Bool))) (r3 : (List Int) → Int → (List Bool) → Bool → Int → (List Int) → Bool → Int → Option ((List Bool))) (x1_0 : List Int) (x3 : Int) (x4 : List Bool) (x6 : Bool) (x7 : Int) (x8 : List Int) (x9 : Bool) (x10 : Int) : Option ((List Bool)) := (spec_l01K.f x1_0).bind fun t3 => if x10 < t3 then (if x9 = true then (if x9 = true then (r2 x1_0 x3 x4 x6 (wrap64 (x7 + 1))) else (if 0 ≤ x7 then (if x7 < (x4.length : Int) then (r2 x1_0 x3 (x4.set x7.toNat false) true (wrap64 (x7 + 1))) else (none)) else (none))) else ((spec_l02Step.f k x1_0 x8 x10).bind fun t4 => if t4.2 = true then ((spec_l02Number.f k x1_0 t4.1).bind fun t5 => if 0 ≤ t5 then (if t5 < (x4.length : Int) then (r3 x1_0 x3 x4 x6 x7 x8 (rdOf false x4 t5) (wrap64 (x10 + 1))) else (none)) else (none)) else (r3 x1_0 x3 x4 x6 x7 x8 x9 (wrap64 (x10 + 1))))) else (if x9 = true then (r2 x1_0 x3 x4 x6 (wrap64 (x7 + 1))) else (if 0 ≤ x7 then (if x7 < (x4.length : Int) then (r2 x1_0 x3 (x4.set x7.toNat false) true (wrap64 (x7 + 1))) else (none)) else (none)))
noncomputable def spec_l02Lasting.l3 (k : Nat) (r1 : (List Int) → Int → (List Bool) → Bool → Option ((List Bool))) (r2 : (List Int) → Int → (List Bool) → Bool → Int → Option ((List Bool))) : Nat → (List Int) → Int → (List Bool) → Bool → Int → (List Int) → Bool → Int → Option ((List Bool))
  | 0, _, _, _, _, _, _, _, _ => none
  | n + 1, x0, x1, x2, x3, x4, x5, x6, x7 => spec_l02Lasting.s3 k r2 (spec_l02Lasting.l3 k r1 r2 n) x0 x1 x2 x3 x4 x5 x6 x7
noncomputable def spec_l02Lasting.s2 (k : Nat) (r1 : (List Int) → Int → (List Bool) → Bool → Option ((List Bool))) (r2 : (List Int) → Int → (List Bool) → Bool → Int → Option ((List Bool))) (r3 : (List Int) → Int → (List Bool) → Bool → Int → (List Int) → Bool → Int → Option ((List Bool))) (x1_0 : List Int) (x3 : Int) (x4 : List Bool) (x6 : Bool) (x7 : Int) : Option ((List Bool)) := if x7 < x3 then (if 0 ≤ x7 then (if x7 < (x4.length : Int) then (if (rdOf false x4 x7) = true then ((spec_l02Of.f k x1_0 x7).bind fun t2 => r3 x1_0 x3 x4 x6 x7 t2 false (-1)) else (r2 x1_0 x3 x4 x6 (wrap64 (x7 + 1)))) else (none)) else (none)) else (r1 x1_0 x3 x4 x6)
noncomputable def spec_l02Lasting.l2 (k : Nat) (r1 : (List Int) → Int → (List Bool) → Bool → Option ((List Bool))) : Nat → (List Int) → Int → (List Bool) → Bool → Int → Option ((List Bool))
  | 0, _, _, _, _, _ => none
  | n + 1, x0, x1, x2, x3, x4 => spec_l02Lasting.s2 k r1 (spec_l02Lasting.l2 k r1 n) (spec_l02Lasting.l3 k r1 (spec_l02Lasting.l2 k r1 n) k) x0 x1 x2 x3 x4
noncomputable def spec_l02Lasting.s1 (k : Nat) (r1 : (List Int) → Int → (List Bool) → Bool → Option ((List Bool))) (r2 : (List Int) → Int → (List Bool) → Bool → Int → Option ((List Bool))) (x1_0 : List Int) (x3 : Int) (x4 : List Bool) (x6 : Bool) : Option ((List Bool)) := if x6 = true then (r2 x1_0 x3 x4 false 0) else (some x4)
noncomputable def spec_l02Lasting.l1 (k : Nat) : Nat → (List Int) → Int → (List Bool) → Bool → Option ((List Bool))
  | 0, _, _, _, _ => none
  | n + 1, x0, x1, x2, x3 => spec_l02Lasting.s1 k (spec_l02Lasting.l1 k n) (spec_l02Lasting.l2 k (spec_l02Lasting.l1 k n) k) x0 x1 x2 x3
noncomputable def spec_l02Lasting.s0 (k : Nat) (r0 : (List Int) → Int → (List Bool) → Int → Int → Option ((List Bool))) (r1 : (List Int) → Int → (List Bool) → Bool → Option ((List Bool))) (x1_0 : List Int) (x3 : Int) (x4 : List Bool) (x18 : Int) (x19 : Int) : Option ((List Bool)) := if x19 < x18 then (if 0 ≤ x19 then (if x19 < (x4.length : Int) then (r0 x1_0 x3 (x4.set x19.toNat true) x18 (wrap64 (x19 + 1))) else (none)) else (none)) else (r1 x1_0 x3 x4 true)
noncomputable def spec_l02Lasting.l0 (k : Nat) : Nat → (List Int) → Int → (List Bool) → Int → Int → Option ((List Bool))
  | 0, _, _, _, _, _ => none
  | n + 1, x0, x1, x2, x3, x4 => spec_l02Lasting.s0 k (spec_l02Lasting.l0 k n) (spec_l02Lasting.l1 k k) x0 x1 x2 x3 x4
noncomputable def spec_l02Lasting.g (k : Nat) (r0 : (List Int) → Int → (List Bool) → Int → Int → Option ((List Bool))) (l0_0 : List Int) : Option ((List Bool)) := (spec_l02Count.f k l0_0).bind fun t1 => if 0 ≤ t1 then (if t1 ≤ t1 then (if t1.toNat ≤ 1099511627776 then (r0 l0_0 t1 (List.replicate t1.toNat (false : Bool)) ((List.replicate t1.toNat (false : Bool)).length : Int) 0) else (none)) else (none)) else (none)
noncomputable def spec_l02Lasting.f (k : Nat) (l0_0 : List Int) : Option ((List Bool)) := spec_l02Lasting.g k (spec_l02Lasting.l0 k k) l0_0
noncomputable def S133 (k : Nat) : Does := ⟨[(true, [.dat (.list (.int .i64))])], [(false, [.own 4 .bool])], fun x => spec_l02Lasting.f k x⟩
noncomputable def E133 (k : Nat) : En := ⟨tb, orcOf [(113, S113 k), (123, S123 k), (142, S142 k), (143, S143 k), (121, S121 k)], lvOf [(0, [(1, []), (3, []), (4, []), (18, []), (19, [])]), (2, [(1, []), (3, []), (4, []), (6, [])]), (4, [(1, []), (3, []), (4, []), (6, []), (7, [])]), (6, [(1, []), (3, []), (4, []), (6, []), (7, []), (8, []), (9, []), (10, [])])], k, 0, lvOf [], []⟩
noncomputable def n133_0 (x1_0 : List Int) (x3 : Int) (x4 : List Bool) (x18 : Int) (x19 : Int) : St := ⟨70, lookA [(1, .box 0 0), (3, .dat (.int .i64) x3), (4, .own 1), (18, .dat (.int .i64) x18), (19, .dat (.int .i64) x19)], Go.V.look [(0, .cells [.dat (.list (.int .i64)) x1_0]), (1, .flat 4 .bool x4)]⟩
def p133_0 : List Bool := [true, true, true, false, true, false]
noncomputable def n133_1 (x1_0 : List Int) (x3 : Int) (x4 : List Bool) (x6 : Bool) : St := ⟨70, lookA [(1, .box 0 0), (3, .dat (.int .i64) x3), (4, .own 1), (6, .dat .bool x6)], Go.V.look [(0, .cells [.dat (.list (.int .i64)) x1_0]), (1, .flat 4 .bool x4)]⟩
def p133_1 : List Bool := [true, true, true, true, false, true, false]
noncomputable def n133_2 (x1_0 : List Int) (x3 : Int) (x4 : List Bool) (x6 : Bool) (x7 : Int) : St := ⟨70, lookA [(1, .box 0 0), (3, .dat (.int .i64) x3), (4, .own 1), (6, .dat .bool x6), (7, .dat (.int .i64) x7)], Go.V.look [(0, .cells [.dat (.list (.int .i64)) x1_0]), (1, .flat 4 .bool x4)]⟩
def p133_2 : List Bool := [true, true, true, true, false, true, false, false, true, false, true, true, false]
noncomputable def n133_3 (x1_0 : List Int) (x3 : Int) (x4 : List Bool) (x6 : Bool) (x7 : Int) (x8 : List Int) (x9 : Bool) (x10 : Int) : St := ⟨70, lookA [(1, .box 0 0), (3, .dat (.int .i64) x3), (4, .own 1), (6, .dat .bool x6), (7, .dat (.int .i64) x7), (8, .own 2), (9, .dat .bool x9), (10, .dat (.int .i64) x10)], Go.V.look [(0, .cells [.dat (.list (.int .i64)) x1_0]), (1, .flat 4 .bool x4), (2, .flat 2 (.int .i64) x8)]⟩
def p133_3 : List Bool := [true, true, true, true, false, true, false, false, true, false, true, true, false, false, true, false, false, true, true, false, true, false]
theorem r133_3 (k : Nat) (R1 : St → Option ((List Bool))) (R2 : St → Option ((List Bool))) (rec : St → Option ((List Bool))) (v : (List Int) × Int × (List Bool) × Bool × Int × (List Int) × Bool × Int) : roundF (E133 k) (S133 k) Try.f133 p133_3 [R1, R2] rec (n133_3 v.1 v.2.1 v.2.2.1 v.2.2.2.1 v.2.2.2.2.1 v.2.2.2.2.2.1 v.2.2.2.2.2.2.1 v.2.2.2.2.2.2.2) = spec_l02Lasting.s3 k (fun a0 a1 a2 a3 a4 => R2 (n133_2 a0 a1 a2 a3 a4)) (fun a0 a1 a2 a3 a4 a5 a6 a7 => rec (n133_3 a0 a1 a2 a3 a4 a5 a6 a7)) v.1 v.2.1 v.2.2.1 v.2.2.2.1 v.2.2.2.2.1 v.2.2.2.2.2.1 v.2.2.2.2.2.2.1 v.2.2.2.2.2.2.2 := by
  kernel_rfl
theorem q133_3 (k : Nat) (R1 : St → Option ((List Bool))) (R2 : St → Option ((List Bool))) (n : Nat) : ∀ v : (List Int) × Int × (List Bool) × Bool × Int × (List Int) × Bool × Int, loopF (E133 k) (S133 k) Try.f133 p133_3 [R1, R2] n (n133_3 v.1 v.2.1 v.2.2.1 v.2.2.2.1 v.2.2.2.2.1 v.2.2.2.2.2.1 v.2.2.2.2.2.2.1 v.2.2.2.2.2.2.2) = spec_l02Lasting.l3 k (fun a0 a1 a2 a3 => R1 (n133_1 a0 a1 a2 a3)) (fun a0 a1 a2 a3 a4 => R2 (n133_2 a0 a1 a2 a3 a4)) n v.1 v.2.1 v.2.2.1 v.2.2.2.1 v.2.2.2.2.1 v.2.2.2.2.2.1 v.2.2.2.2.2.2.1 v.2.2.2.2.2.2.2 :=
  loopF_eq (E133 k) (S133 k) Try.f133 p133_3 [R1, R2] (fun v : (List Int) × Int × (List Bool) × Bool × Int × (List Int) × Bool × Int => n133_3 v.1 v.2.1 v.2.2.1 v.2.2.2.1 v.2.2.2.2.1 v.2.2.2.2.2.1 v.2.2.2.2.2.2.1 v.2.2.2.2.2.2.2) (fun rec v => spec_l02Lasting.s3 k (fun a0 a1 a2 a3 a4 => R2 (n133_2 a0 a1 a2 a3 a4)) (fun a0 a1 a2 a3 a4 a5 a6 a7 => rec (a0, a1, a2, a3, a4, a5, a6, a7)) v.1 v.2.1 v.2.2.1 v.2.2.2.1 v.2.2.2.2.1 v.2.2.2.2.2.1 v.2.2.2.2.2.2.1 v.2.2.2.2.2.2.2) (fun n v => spec_l02Lasting.l3 k (fun a0 a1 a2 a3 => R1 (n133_1 a0 a1 a2 a3)) (fun a0 a1 a2 a3 a4 => R2 (n133_2 a0 a1 a2 a3 a4)) n v.1 v.2.1 v.2.2.1 v.2.2.2.1 v.2.2.2.2.1 v.2.2.2.2.2.1 v.2.2.2.2.2.2.1 v.2.2.2.2.2.2.2) (fun _ => rfl) (fun _ _ => rfl) (fun rec v => r133_3 k R1 R2 rec v) n
theorem r133_2 (k : Nat) (R1 : St → Option ((List Bool))) (rec : St → Option ((List Bool))) (G3 : (List Int) → Int → (List Bool) → Bool → Int → (List Int) → Bool → Int → Option ((List Bool))) (h3 : ∀ a0 a1 a2 a3 a4 a5 a6 a7, loopF (E133 k) (S133 k) Try.f133 p133_3 [R1, rec] k (n133_3 a0 a1 a2 a3 a4 a5 a6 a7) = G3 a0 a1 a2 a3 a4 a5 a6 a7) (v : (List Int) × Int × (List Bool) × Bool × Int) : roundF (E133 k) (S133 k) Try.f133 p133_2 [R1] rec (n133_2 v.1 v.2.1 v.2.2.1 v.2.2.2.1 v.2.2.2.2) = spec_l02Lasting.s2 k (fun a0 a1 a2 a3 => R1 (n133_1 a0 a1 a2 a3)) (fun a0 a1 a2 a3 a4 => rec (n133_2 a0 a1 a2 a3 a4)) G3 v.1 v.2.1 v.2.2.1 v.2.2.2.1 v.2.2.2.2 := by
  obtain rfl : (fun a0 a1 a2 a3 a4 a5 a6 a7 => loopF (E133 k) (S133 k) Try.f133 p133_3 [R1, rec] k (n133_3 a0 a1 a2 a3 a4 a5 a6 a7)) = G3 := funext fun a0 => funext fun a1 => funext fun a2 => funext fun a3 => funext fun a4 => funext fun a5 => funext fun a6 => funext fun a7 => h3 a0 a1 a2 a3 a4 a5 a6 a7
  kernel_rfl
theorem q133_2 (k : Nat) (R1 : St → Option ((List Bool))) (n : Nat) : ∀ v : (List Int) × Int × (List Bool) × Bool × Int, loopF (E133 k) (S133 k) Try.f133 p133_2 [R1] n (n133_2 v.1 v.2.1 v.2.2.1 v.2.2.2.1 v.2.2.2.2) = spec_l02Lasting.l2 k (fun a0 a1 a2 a3 => R1 (n133_1 a0 a1 a2 a3)) n v.1 v.2.1 v.2.2.1 v.2.2.2.1 v.2.2.2.2 :=
  loopF_eq (E133 k) (S133 k) Try.f133 p133_2 [R1] (fun v : (List Int) × Int × (List Bool) × Bool × Int => n133_2 v.1 v.2.1 v.2.2.1 v.2.2.2.1 v.2.2.2.2) (fun rec v => spec_l02Lasting.s2 k (fun a0 a1 a2 a3 => R1 (n133_1 a0 a1 a2 a3)) (fun a0 a1 a2 a3 a4 => rec (a0, a1, a2, a3, a4)) (spec_l02Lasting.l3 k (fun a0 a1 a2 a3 => R1 (n133_1 a0 a1 a2 a3)) (fun a0 a1 a2 a3 a4 => rec (a0, a1, a2, a3, a4)) k) v.1 v.2.1 v.2.2.1 v.2.2.2.1 v.2.2.2.2) (fun n v => spec_l02Lasting.l2 k (fun a0 a1 a2 a3 => R1 (n133_1 a0 a1 a2 a3)) n v.1 v.2.1 v.2.2.1 v.2.2.2.1 v.2.2.2.2) (fun _ => rfl) (fun _ _ => rfl) (fun rec v => r133_2 k R1 rec _ (fun a0 a1 a2 a3 a4 a5 a6 a7 => q133_3 k R1 rec k (a0, a1, a2, a3, a4, a5, a6, a7)) v) n
theorem r133_1 (k : Nat) (rec : St → Option ((List Bool))) (G2 : (List Int) → Int → (List Bool) → Bool → Int → Option ((List Bool))) (h2 : ∀ a0 a1 a2 a3 a4, loopF (E133 k) (S133 k) Try.f133 p133_2 [rec] k (n133_2 a0 a1 a2 a3 a4) = G2 a0 a1 a2 a3 a4) (v : (List Int) × Int × (List Bool) × Bool) : roundF (E133 k) (S133 k) Try.f133 p133_1 [] rec (n133_1 v.1 v.2.1 v.2.2.1 v.2.2.2) = spec_l02Lasting.s1 k (fun a0 a1 a2 a3 => rec (n133_1 a0 a1 a2 a3)) G2 v.1 v.2.1 v.2.2.1 v.2.2.2 := by
  obtain rfl : (fun a0 a1 a2 a3 a4 => loopF (E133 k) (S133 k) Try.f133 p133_2 [rec] k (n133_2 a0 a1 a2 a3 a4)) = G2 := funext fun a0 => funext fun a1 => funext fun a2 => funext fun a3 => funext fun a4 => h2 a0 a1 a2 a3 a4
  kernel_rfl
theorem q133_1 (k : Nat) (n : Nat) : ∀ v : (List Int) × Int × (List Bool) × Bool, loopF (E133 k) (S133 k) Try.f133 p133_1 [] n (n133_1 v.1 v.2.1 v.2.2.1 v.2.2.2) = spec_l02Lasting.l1 k n v.1 v.2.1 v.2.2.1 v.2.2.2 :=
  loopF_eq (E133 k) (S133 k) Try.f133 p133_1 [] (fun v : (List Int) × Int × (List Bool) × Bool => n133_1 v.1 v.2.1 v.2.2.1 v.2.2.2) (fun rec v => spec_l02Lasting.s1 k (fun a0 a1 a2 a3 => rec (a0, a1, a2, a3)) (spec_l02Lasting.l2 k (fun a0 a1 a2 a3 => rec (a0, a1, a2, a3)) k) v.1 v.2.1 v.2.2.1 v.2.2.2) (fun n v => spec_l02Lasting.l1 k n v.1 v.2.1 v.2.2.1 v.2.2.2) (fun _ => rfl) (fun _ _ => rfl) (fun rec v => r133_1 k rec _ (fun a0 a1 a2 a3 a4 => q133_2 k rec k (a0, a1, a2, a3, a4)) v) n
theorem r133_0 (k : Nat) (rec : St → Option ((List Bool))) (G1 : (List Int) → Int → (List Bool) → Bool → Option ((List Bool))) (h1 : ∀ a0 a1 a2 a3, loopF (E133 k) (S133 k) Try.f133 p133_1 [] k (n133_1 a0 a1 a2 a3) = G1 a0 a1 a2 a3) (v : (List Int) × Int × (List Bool) × Int × Int) : roundF (E133 k) (S133 k) Try.f133 p133_0 [] rec (n133_0 v.1 v.2.1 v.2.2.1 v.2.2.2.1 v.2.2.2.2) = spec_l02Lasting.s0 k (fun a0 a1 a2 a3 a4 => rec (n133_0 a0 a1 a2 a3 a4)) G1 v.1 v.2.1 v.2.2.1 v.2.2.2.1 v.2.2.2.2 := by
  obtain rfl : (fun a0 a1 a2 a3 => loopF (E133 k) (S133 k) Try.f133 p133_1 [] k (n133_1 a0 a1 a2 a3)) = G1 := funext fun a0 => funext fun a1 => funext fun a2 => funext fun a3 => h1 a0 a1 a2 a3
  kernel_rfl
theorem q133_0 (k : Nat) (n : Nat) : ∀ v : (List Int) × Int × (List Bool) × Int × Int, loopF (E133 k) (S133 k) Try.f133 p133_0 [] n (n133_0 v.1 v.2.1 v.2.2.1 v.2.2.2.1 v.2.2.2.2) = spec_l02Lasting.l0 k n v.1 v.2.1 v.2.2.1 v.2.2.2.1 v.2.2.2.2 :=
  loopF_eq (E133 k) (S133 k) Try.f133 p133_0 [] (fun v : (List Int) × Int × (List Bool) × Int × Int => n133_0 v.1 v.2.1 v.2.2.1 v.2.2.2.1 v.2.2.2.2) (fun rec v => spec_l02Lasting.s0 k (fun a0 a1 a2 a3 a4 => rec (a0, a1, a2, a3, a4)) (spec_l02Lasting.l1 k k) v.1 v.2.1 v.2.2.1 v.2.2.2.1 v.2.2.2.2) (fun n v => spec_l02Lasting.l0 k n v.1 v.2.1 v.2.2.1 v.2.2.2.1 v.2.2.2.2) (fun _ => rfl) (fun _ _ => rfl) (fun rec v => r133_0 k rec _ (fun a0 a1 a2 a3 => q133_1 k k (a0, a1, a2, a3)) v) n
theorem e133 (k : Nat) (x : dens (flatC (S133 k).ps)) : funK (E133 k) (S133 k) Try.f133 x = (S133 k).fn x := by
  have h : funK (E133 k) (S133 k) Try.f133 x = spec_l02Lasting.g k (fun a0 a1 a2 a3 a4 => loopF (E133 k) (S133 k) Try.f133 p133_0 [] k (n133_0 a0 a1 a2 a3 a4)) x := by kernel_rfl
  rw [h]
  rw [show (fun a0 a1 a2 a3 a4 => loopF (E133 k) (S133 k) Try.f133 p133_0 [] k (n133_0 a0 a1 a2 a3 a4)) = spec_l02Lasting.l0 k k from funext fun a0 => funext fun a1 => funext fun a2 => funext fun a3 => funext fun a4 => q133_0 k k (a0, a1, a2, a3, a4)]
  rfl
theorem M133 (k : Nat) : Meets Try.prog 133 (S133 k) := meets_of Try.func133 (by kernel_rfl) tbOk (orc_cons (M113 k) (orc_cons (M123 k) (orc_cons (M142 k) (orc_cons (M143 k) (orc_cons (M121 k) orc_nil))))) mixOk (fun x y h => (e133 k x).trans h) rfl

/-! impl_Tasks_isState: function 128 -/
noncomputable def impl_Tasks_isState.s0 (k : Nat) (r0 : (List Int) → (List Int) → Int → Int → Option (Bool)) (x2_0 : List Int) (x12 : List Int) (x13 : Int) (x14 : Int) : Option (Bool) := if x14 < x13 then (if 0 ≤ x14 then (if x14 < (x12.length : Int) then (if 0 ≤ x14 then (if x14 < (x2_0.length : Int) then ((impl_within.f (rd x12 x14) 1 (rd x2_0 x14)).bind fun t3 => if t3 = true then (r0 x2_0 x12 x13 (wrap64 (x14 + 1))) else (some false)) else (none)) else (none)) else (none)) else (none)) else (some true)
noncomputable def impl_Tasks_isState.l0 (k : Nat) : Nat → (List Int) → (List Int) → Int → Int → Option (Bool)
  | 0, _, _, _, _ => none
  | n + 1, x0, x1, x2, x3 => impl_Tasks_isState.s0 k (impl_Tasks_isState.l0 k n) x0 x1 x2 x3
noncomputable def impl_Tasks_isState.g (k : Nat) (r0 : (List Int) → (List Int) → Int → Int → Option (Bool)) (l0_0 : List Int) (l1 : List Int) : Option (Bool) := (impl_length_int64.f l1).bind fun t1 => (impl_Tasks_many.f l0_0).bind fun t2 => if t1 = t2 then (r0 l0_0 l1 (l1.length : Int) 0) else (some false)
noncomputable def impl_Tasks_isState.f (k : Nat) (l0_0 : List Int) (l1 : List Int) : Option (Bool) := impl_Tasks_isState.g k (impl_Tasks_isState.l0 k k) l0_0 l1
noncomputable def S128 (k : Nat) : Does := ⟨[(true, [.dat (.list (.int .i64))]), (false, [.dat (.list (.int .i64))])], [(false, [.dat .bool])], fun x => impl_Tasks_isState.f k x.1 x.2⟩
noncomputable def E128 (k : Nat) : En := ⟨tb, orcOf [(149, S149 k), (197, S197 k), (108, S108 k)], lvOf [(0, [(2, []), (12, []), (13, []), (14, [])])], k, 0, lvOf [], []⟩
noncomputable def n128_0 (x2_0 : List Int) (x12 : List Int) (x13 : Int) (x14 : Int) : St := ⟨28, lookA [(2, .box 0 0), (12, .dat (.list (.int .i64)) x12), (13, .dat (.int .i64) x13), (14, .dat (.int .i64) x14)], Go.V.look [(0, .cells [.dat (.list (.int .i64)) x2_0])]⟩
def p128_0 : List Bool := [true, true, false, true, false]
theorem r128_0 (k : Nat) (rec : St → Option (Bool)) (v : (List Int) × (List Int) × Int × Int) : roundF (E128 k) (S128 k) Try.f128 p128_0 [] rec (n128_0 v.1 v.2.1 v.2.2.1 v.2.2.2) = impl_Tasks_isState.s0 k (fun a0 a1 a2 a3 => rec (n128_0 a0 a1 a2 a3)) v.1 v.2.1 v.2.2.1 v.2.2.2 := by
  kernel_rfl
theorem q128_0 (k : Nat) (n : Nat) : ∀ v : (List Int) × (List Int) × Int × Int, loopF (E128 k) (S128 k) Try.f128 p128_0 [] n (n128_0 v.1 v.2.1 v.2.2.1 v.2.2.2) = impl_Tasks_isState.l0 k n v.1 v.2.1 v.2.2.1 v.2.2.2 :=
  loopF_eq (E128 k) (S128 k) Try.f128 p128_0 [] (fun v : (List Int) × (List Int) × Int × Int => n128_0 v.1 v.2.1 v.2.2.1 v.2.2.2) (fun rec v => impl_Tasks_isState.s0 k (fun a0 a1 a2 a3 => rec (a0, a1, a2, a3)) v.1 v.2.1 v.2.2.1 v.2.2.2) (fun n v => impl_Tasks_isState.l0 k n v.1 v.2.1 v.2.2.1 v.2.2.2) (fun _ => rfl) (fun _ _ => rfl) (fun rec v => r128_0 k rec v) n
theorem e128 (k : Nat) (x : dens (flatC (S128 k).ps)) : funK (E128 k) (S128 k) Try.f128 x = (S128 k).fn x := by
  have h : funK (E128 k) (S128 k) Try.f128 x = impl_Tasks_isState.g k (fun a0 a1 a2 a3 => loopF (E128 k) (S128 k) Try.f128 p128_0 [] k (n128_0 a0 a1 a2 a3)) x.1 x.2 := by kernel_rfl
  rw [h]
  rw [show (fun a0 a1 a2 a3 => loopF (E128 k) (S128 k) Try.f128 p128_0 [] k (n128_0 a0 a1 a2 a3)) = impl_Tasks_isState.l0 k k from funext fun a0 => funext fun a1 => funext fun a2 => funext fun a3 => q128_0 k k (a0, a1, a2, a3)]
  rfl
theorem M128 (k : Nat) : Meets Try.prog 128 (S128 k) := meets_of Try.func128 (by kernel_rfl) tbOk (orc_cons (M149 k) (orc_cons (M197 k) (orc_cons (M108 k) orc_nil))) mixOk (fun x y h => (e128 k x).trans h) rfl



end Go.Proofs.Ytcbhhbkghbnljaa.Vf
