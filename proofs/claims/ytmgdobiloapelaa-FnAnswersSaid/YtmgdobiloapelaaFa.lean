/- What the functions of program, reference and laws give, as plain functions, and that they meet them (part 1). Conditions: none. Written by a program of my own (vp.py). -/
import Derived.Test.YtmgdobiloapelaaVc
import Derived.Test.YtmgdobiloapelaaProg
set_option linter.unusedVariables false
set_option maxRecDepth 100000
namespace Go.Proofs.Ytmgdobiloapelaa.Vf
open Go Go.V Go.RowKit Go.Proofs
def tbl : List (Nat × TI) := [(1, ⟨.fn, 1, 8, [.nilFunc]⟩), (2, ⟨.int .i64, 1, 8, [.int .i64 0]⟩), (3, ⟨.int .i64, 1, 8, [.int .i64 0]⟩), (4, ⟨.bool, 1, 1, [.bool false]⟩), (5, ⟨.int .u8, 1, 1, [.int .u8 0]⟩), (6, ⟨.int .u8, 1, 1, [.int .u8 0]⟩), (7, ⟨.struct [(0, 2), (1, 3), (2, 4), (3, 6)], 4, 24, [.int .i64 0, .int .i64 0, .bool false, .int .u8 0]⟩), (8, ⟨.struct [(0, 2), (1, 3), (2, 4), (3, 6)], 4, 24, [.int .i64 0, .int .i64 0, .bool false, .int .u8 0]⟩), (9, ⟨.str, 1, 16, [.string ByteArray.empty]⟩), (10, ⟨.str, 1, 16, [.string ByteArray.empty]⟩), (11, ⟨.str, 1, 16, [.string ByteArray.empty]⟩), (12, ⟨.int .u64, 1, 8, [.int .u64 0]⟩), (13, ⟨.struct [(0, 9), (1, 12)], 2, 24, [.string ByteArray.empty, .int .u64 0]⟩), (14, ⟨.struct [(0, 9), (1, 12)], 2, 24, [.string ByteArray.empty, .int .u64 0]⟩), (15, ⟨.ptr 147, 1, 8, [.pointer none]⟩), (16, ⟨.ptr 150, 1, 8, [.pointer none]⟩), (17, ⟨.ptr 159, 1, 8, [.pointer none]⟩), (18, ⟨.struct [(0, 17)], 1, 8, [.pointer none]⟩), (19, ⟨.struct [(0, 17)], 1, 8, [.pointer none]⟩), (21, ⟨.int .i32, 1, 4, [.int .i32 0]⟩), (22, ⟨.slice 2, 1, 24, [.slice none 0 0]⟩), (23, ⟨.struct [(0, 22), (1, 22), (2, 22)], 3, 72, [.slice none 0 0, .slice none 0 0, .slice none 0 0]⟩), (24, ⟨.struct [(0, 22), (1, 22), (2, 22)], 3, 72, [.slice none 0 0, .slice none 0 0, .slice none 0 0]⟩), (25, ⟨.fn, 1, 8, [.nilFunc]⟩), (27, ⟨.fn, 1, 8, [.nilFunc]⟩), (28, ⟨.struct [(0, 22), (1, 22), (2, 22)], 3, 72, [.slice none 0 0, .slice none 0 0, .slice none 0 0]⟩), (29, ⟨.fn, 1, 8, [.nilFunc]⟩), (30, ⟨.fn, 1, 8, [.nilFunc]⟩), (31, ⟨.fn, 1, 8, [.nilFunc]⟩), (32, ⟨.fn, 1, 8, [.nilFunc]⟩), (33, ⟨.fn, 1, 8, [.nilFunc]⟩), (34, ⟨.fn, 1, 8, [.nilFunc]⟩), (35, ⟨.fn, 1, 8, [.nilFunc]⟩), (36, ⟨.fn, 1, 8, [.nilFunc]⟩), (37, ⟨.fn, 1, 8, [.nilFunc]⟩), (38, ⟨.fn, 1, 8, [.nilFunc]⟩), (39, ⟨.fn, 1, 8, [.nilFunc]⟩), (40, ⟨.struct [(0, 22)], 1, 24, [.slice none 0 0]⟩), (41, ⟨.struct [(0, 22)], 1, 24, [.slice none 0 0]⟩), (43, ⟨.fn, 1, 8, [.nilFunc]⟩), (44, ⟨.fn, 1, 8, [.nilFunc]⟩), (45, ⟨.fn, 1, 8, [.nilFunc]⟩), (46, ⟨.slice 5, 1, 24, [.slice none 0 0]⟩), (47, ⟨.fn, 1, 8, [.nilFunc]⟩), (48, ⟨.fn, 1, 8, [.nilFunc]⟩), (50, ⟨.fn, 1, 8, [.nilFunc]⟩), (52, ⟨.fn, 1, 8, [.nilFunc]⟩), (54, ⟨.fn, 1, 8, [.nilFunc]⟩), (55, ⟨.fn, 1, 8, [.nilFunc]⟩), (57, ⟨.fn, 1, 8, [.nilFunc]⟩), (58, ⟨.fn, 1, 8, [.nilFunc]⟩), (59, ⟨.fn, 1, 8, [.nilFunc]⟩), (60, ⟨.fn, 1, 8, [.nilFunc]⟩), (62, ⟨.fn, 1, 8, [.nilFunc]⟩), (63, ⟨.fn, 1, 8, [.nilFunc]⟩), (64, ⟨.fn, 1, 8, [.nilFunc]⟩), (66, ⟨.fn, 1, 8, [.nilFunc]⟩), (67, ⟨.fn, 1, 8, [.nilFunc]⟩), (69, ⟨.fn, 1, 8, [.nilFunc]⟩), (70, ⟨.fn, 1, 8, [.nilFunc]⟩), (71, ⟨.fn, 1, 8, [.nilFunc]⟩), (72, ⟨.fn, 1, 8, [.nilFunc]⟩), (73, ⟨.fn, 1, 8, [.nilFunc]⟩), (74, ⟨.fn, 1, 8, [.nilFunc]⟩), (76, ⟨.fn, 1, 8, [.nilFunc]⟩), (77, ⟨.fn, 1, 8, [.nilFunc]⟩), (78, ⟨.fn, 1, 8, [.nilFunc]⟩), (79, ⟨.fn, 1, 8, [.nilFunc]⟩), (80, ⟨.fn, 1, 8, [.nilFunc]⟩), (81, ⟨.fn, 1, 8, [.nilFunc]⟩), (82, ⟨.fn, 1, 8, [.nilFunc]⟩), (83, ⟨.fn, 1, 8, [.nilFunc]⟩), (84, ⟨.fn, 1, 8, [.nilFunc]⟩), (85, ⟨.fn, 1, 8, [.nilFunc]⟩), (86, ⟨.fn, 1, 8, [.nilFunc]⟩), (87, ⟨.fn, 1, 8, [.nilFunc]⟩), (88, ⟨.fn, 1, 8, [.nilFunc]⟩), (89, ⟨.fn, 1, 8, [.nilFunc]⟩), (90, ⟨.fn, 1, 8, [.nilFunc]⟩), (91, ⟨.fn, 1, 8, [.nilFunc]⟩), (92, ⟨.fn, 1, 8, [.nilFunc]⟩), (93, ⟨.fn, 1, 8, [.nilFunc]⟩), (94, ⟨.fn, 1, 8, [.nilFunc]⟩), (95, ⟨.fn, 1, 8, [.nilFunc]⟩), (96, ⟨.fn, 1, 8, [.nilFunc]⟩), (97, ⟨.fn, 1, 8, [.nilFunc]⟩), (98, ⟨.ptr 125, 1, 8, [.pointer none]⟩), (99, ⟨.fn, 1, 8, [.nilFunc]⟩), (100, ⟨.fn, 1, 8, [.nilFunc]⟩), (101, ⟨.fn, 1, 8, [.nilFunc]⟩), (102, ⟨.fn, 1, 8, [.nilFunc]⟩), (103, ⟨.fn, 1, 8, [.nilFunc]⟩), (104, ⟨.fn, 1, 8, [.nilFunc]⟩), (105, ⟨.fn, 1, 8, [.nilFunc]⟩), (106, ⟨.fn, 1, 8, [.nilFunc]⟩), (107, ⟨.fn, 1, 8, [.nilFunc]⟩), (108, ⟨.fn, 1, 8, [.nilFunc]⟩), (109, ⟨.fn, 1, 8, [.nilFunc]⟩), (110, ⟨.fn, 1, 8, [.nilFunc]⟩), (111, ⟨.fn, 1, 8, [.nilFunc]⟩), (112, ⟨.fn, 1, 8, [.nilFunc]⟩), (113, ⟨.slice 4, 1, 24, [.slice none 0 0]⟩), (114, ⟨.map 2 4, 1, 8, [.map none]⟩), (115, ⟨.fn, 1, 8, [.nilFunc]⟩), (116, ⟨.fn, 1, 8, [.nilFunc]⟩), (117, ⟨.fn, 1, 8, [.nilFunc]⟩), (118, ⟨.fn, 1, 8, [.nilFunc]⟩), (119, ⟨.fn, 1, 8, [.nilFunc]⟩), (120, ⟨.fn, 1, 8, [.nilFunc]⟩), (121, ⟨.fn, 1, 8, [.nilFunc]⟩), (122, ⟨.fn, 1, 8, [.nilFunc]⟩), (123, ⟨.int .u64, 1, 8, [.int .u64 0]⟩), (124, ⟨.struct [(0, 46), (1, 3), (2, 123)], 3, 40, [.slice none 0 0, .int .i64 0, .int .u64 0]⟩), (125, ⟨.struct [(0, 46), (1, 3), (2, 123)], 3, 40, [.slice none 0 0, .int .i64 0, .int .u64 0]⟩), (126, ⟨.fn, 1, 8, [.nilFunc]⟩), (127, ⟨.int .u64, 1, 8, [.int .u64 0]⟩), (129, ⟨.fn, 1, 8, [.nilFunc]⟩), (130, ⟨.fn, 1, 8, [.nilFunc]⟩), (131, ⟨.fn, 1, 8, [.nilFunc]⟩), (132, ⟨.fn, 1, 8, [.nilFunc]⟩), (133, ⟨.fn, 1, 8, [.nilFunc]⟩), (134, ⟨.int .u32, 1, 4, [.int .u32 0]⟩), (136, ⟨.fn, 1, 8, [.nilFunc]⟩), (138, ⟨.fn, 1, 8, [.nilFunc]⟩), (140, ⟨.fn, 1, 8, [.nilFunc]⟩), (141, ⟨.fn, 1, 8, [.nilFunc]⟩), (142, ⟨.fn, 1, 8, [.nilFunc]⟩), (143, ⟨.fn, 1, 8, [.nilFunc]⟩), (144, ⟨.fn, 1, 8, [.nilFunc]⟩), (145, ⟨.fn, 1, 8, [.nilFunc]⟩), (146, ⟨.struct [(0, 17), (1, 17), (2, 17), (3, 9)], 4, 40, [.pointer none, .pointer none, .pointer none, .string ByteArray.empty]⟩), (147, ⟨.struct [(0, 17), (1, 17), (2, 17), (3, 9)], 4, 40, [.pointer none, .pointer none, .pointer none, .string ByteArray.empty]⟩), (149, ⟨.struct [(0, 148)], 0, 0, []⟩), (150, ⟨.struct [(0, 148)], 0, 0, []⟩), (151, ⟨.fn, 1, 8, [.nilFunc]⟩), (152, ⟨.int .u8, 1, 1, [.int .u8 0]⟩), (153, ⟨.int .u8, 1, 1, [.int .u8 0]⟩), (154, ⟨.fn, 1, 8, [.nilFunc]⟩), (155, ⟨.ptr 5, 1, 8, [.pointer none]⟩), (156, ⟨.int .i32, 1, 4, [.int .i32 0]⟩), (157, ⟨.int .i32, 1, 4, [.int .i32 0]⟩), (158, ⟨.struct [(0, 12), (1, 12), (2, 134), (3, 152), (4, 5), (5, 5), (6, 153), (7, 154), (8, 155), (9, 156), (10, 157)], 11, 48, [.int .u64 0, .int .u64 0, .int .u32 0, .int .u8 0, .int .u8 0, .int .u8 0, .int .u8 0, .nilFunc, .pointer none, .int .i32 0, .int .i32 0]⟩), (159, ⟨.struct [(0, 12), (1, 12), (2, 134), (3, 152), (4, 5), (5, 5), (6, 153), (7, 154), (8, 155), (9, 156), (10, 157)], 11, 48, [.int .u64 0, .int .u64 0, .int .u32 0, .int .u8 0, .int .u8 0, .int .u8 0, .int .u8 0, .nilFunc, .pointer none, .int .i32 0, .int .i32 0]⟩), (160, ⟨.fn, 1, 8, [.nilFunc]⟩)]
def tb : TypeId → Option TI := Go.V.look tbl
theorem tbEq : tbl.map (fun p => entryOf Try.prog p.1) = tbl.map (fun p => some p.2) := by kernel_rfl
theorem tbOk : TbOK Try.prog tb := tb_of tbEq
theorem mixOk : Try.prog.follows .mixedOrders = true := by kernel_rfl

/-! laws_big: function 36 -/
noncomputable def laws_big.f (l0 : List Int) : Option (Bool) := some (decide (4096 < (l0.length : Int)))
noncomputable def S36 (k : Nat) : Does := ⟨[(false, [.dat (.list (.int .u8))])], [(false, [.dat .bool])], fun x => laws_big.f x⟩
noncomputable def E36 (k : Nat) : En := ⟨tb, orcOf [], lvOf [], k, 0, lvOf [], []⟩
theorem e36 (k : Nat) (x : dens (flatC (S36 k).ps)) : funK (E36 k) (S36 k) Try.f36 x = (S36 k).fn x := by
  kernel_rfl
theorem M36 (k : Nat) : Meets Try.prog 36 (S36 k) := meets_of Try.func36 (by kernel_rfl) tbOk orc_nil mixOk (fun x y h => (e36 k x).trans h) rfl

/-! spec_l01From: function 126 -/
noncomputable def spec_l01From.s0 (k : Nat) (r0 : (List Int) → (List Int) → Int → Int → Int → Option (((List Int) × Int × Int))) (x0 : List Int) (x3_0 : List Int) (x3_1 : Int) (x3_2 : Int) (x4 : Int) : Option (((List Int) × Int × Int)) := if x4 < (x0.length : Int) then (if x4 < 4096 then (if 0 ≤ x4 then (if x4 < (x0.length : Int) then (r0 x0 x3_0 x3_1 (IntKind.wrap .u64 ((IntKind.wrap .u64 ((IntKind.wrap .u64 (x3_2 * 1099511628211)) + (IntKind.wrap .u64 ((rd x0 x4))))) + 241)) (wrap64 (x4 + 1))) else (none)) else (none)) else (some (x3_0, x3_1, x3_2))) else (some (x3_0, x3_1, x3_2))
noncomputable def spec_l01From.l0 (k : Nat) : Nat → (List Int) → (List Int) → Int → Int → Int → Option (((List Int) × Int × Int))
  | 0, _, _, _, _, _ => none
  | n + 1, x0, x1, x2, x3, x4 => spec_l01From.s0 k (spec_l01From.l0 k n) x0 x1 x2 x3 x4
noncomputable def spec_l01From.g (k : Nat) (r0 : (List Int) → (List Int) → Int → Int → Int → Option (((List Int) × Int × Int))) (l0 : List Int) : Option (((List Int) × Int × Int)) := r0 l0 l0 0 (IntKind.wrap .u64 (14041 + (IntKind.wrap .u64 ((l0.length : Int))))) 0
noncomputable def spec_l01From.f (k : Nat) (l0 : List Int) : Option (((List Int) × Int × Int)) := spec_l01From.g k (spec_l01From.l0 k k) l0
noncomputable def S126 (k : Nat) : Does := ⟨[(false, [.dat (.list (.int .u8))])], [(false, [.cel (.struct (.pair (.list (.int .u8)) (.pair (.int .i64) (.int .u64))))])], fun x => spec_l01From.f k x⟩
noncomputable def E126 (k : Nat) : En := ⟨tb, orcOf [], lvOf [(0, [(0, []), (3, []), (4, [])])], k, 0, lvOf [], []⟩
noncomputable def n126_0 (x0 : List Int) (x3_0 : List Int) (x3_1 : Int) (x3_2 : Int) (x4 : Int) : St := ⟨38, lookA [(0, .dat (.list (.int .u8)) x0), (3, .box 0 0), (4, .dat (.int .i64) x4)], Go.V.look [(0, .cells [.dat (.list (.int .u8)) x3_0, .dat (.int .i64) x3_1, .dat (.int .u64) x3_2])]⟩
def p126_0 : List Bool := [true, true, false, true, false]
theorem r126_0 (k : Nat) (rec : St → Option (((List Int) × Int × Int))) (v : (List Int) × (List Int) × Int × Int × Int) : roundF (E126 k) (S126 k) Try.f126 p126_0 [] rec (n126_0 v.1 v.2.1 v.2.2.1 v.2.2.2.1 v.2.2.2.2) = spec_l01From.s0 k (fun a0 a1 a2 a3 a4 => rec (n126_0 a0 a1 a2 a3 a4)) v.1 v.2.1 v.2.2.1 v.2.2.2.1 v.2.2.2.2 := by
  kernel_rfl
theorem q126_0 (k : Nat) (n : Nat) : ∀ v : (List Int) × (List Int) × Int × Int × Int, loopF (E126 k) (S126 k) Try.f126 p126_0 [] n (n126_0 v.1 v.2.1 v.2.2.1 v.2.2.2.1 v.2.2.2.2) = spec_l01From.l0 k n v.1 v.2.1 v.2.2.1 v.2.2.2.1 v.2.2.2.2 :=
  loopF_eq (E126 k) (S126 k) Try.f126 p126_0 [] (fun v : (List Int) × (List Int) × Int × Int × Int => n126_0 v.1 v.2.1 v.2.2.1 v.2.2.2.1 v.2.2.2.2) (fun rec v => spec_l01From.s0 k (fun a0 a1 a2 a3 a4 => rec (a0, a1, a2, a3, a4)) v.1 v.2.1 v.2.2.1 v.2.2.2.1 v.2.2.2.2) (fun n v => spec_l01From.l0 k n v.1 v.2.1 v.2.2.1 v.2.2.2.1 v.2.2.2.2) (fun _ => rfl) (fun _ _ => rfl) (fun rec v => r126_0 k rec v) n
theorem e126 (k : Nat) (x : dens (flatC (S126 k).ps)) : funK (E126 k) (S126 k) Try.f126 x = (S126 k).fn x := by
  have h : funK (E126 k) (S126 k) Try.f126 x = spec_l01From.g k (fun a0 a1 a2 a3 a4 => loopF (E126 k) (S126 k) Try.f126 p126_0 [] k (n126_0 a0 a1 a2 a3 a4)) x := by kernel_rfl
  rw [h]
  rw [show (fun a0 a1 a2 a3 a4 => loopF (E126 k) (S126 k) Try.f126 p126_0 [] k (n126_0 a0 a1 a2 a3 a4)) = spec_l01From.l0 k k from funext fun a0 => funext fun a1 => funext fun a2 => funext fun a3 => funext fun a4 => q126_0 k k (a0, a1, a2, a3, a4)]
  rfl
theorem M126 (k : Nat) : Meets Try.prog 126 (S126 k) := meets_of Try.func126 (by kernel_rfl) tbOk orc_nil mixOk (fun x y h => (e126 k x).trans h) rfl

/-! spec_l01Next: function 139 -/
noncomputable def spec_l01Next.f (a0 : (List Int) × Int × Int) (a1 : Int) : Option (Int × ((List Int) × Int × Int)) := if a1 < 1 then (some (0, a0.1, a0.2.1, a0.2.2)) else (if a0.2.1 < (a0.1.length : Int) then (if 0 ≤ a0.2.1 then (if a0.2.1 < (a0.1.length : Int) then (if a1 = 0 then (none) else (some ((Int.tmod (wrap64 ((wrap64 ((andV .u64 (shrV .u64 (IntKind.wrap .u64 ((IntKind.wrap .u64 (a0.2.2 * 6364136223846793005)) + 1442695040888963407)) 33) 16777215))) + (wrap64 ((rd a0.1 a0.2.1))))) a1), a0.1, (wrap64 (a0.2.1 + 1)), (IntKind.wrap .u64 ((IntKind.wrap .u64 (a0.2.2 * 6364136223846793005)) + 1442695040888963407))))) else (none)) else (none)) else (if a1 = 0 then (none) else (some ((Int.tmod (wrap64 ((andV .u64 (shrV .u64 (IntKind.wrap .u64 ((IntKind.wrap .u64 (a0.2.2 * 6364136223846793005)) + 1442695040888963407)) 33) 16777215))) a1), a0.1, a0.2.1, (IntKind.wrap .u64 ((IntKind.wrap .u64 (a0.2.2 * 6364136223846793005)) + 1442695040888963407))))))
noncomputable def S139 (k : Nat) : Does := ⟨[(false, [.cel (.struct (.pair (.list (.int .u8)) (.pair (.int .i64) (.int .u64))))]), (false, [.dat (.int .i64)])], [(false, [.dat (.int .i64)])], fun x => spec_l01Next.f x.1 x.2⟩
noncomputable def E139 (k : Nat) : En := ⟨tb, orcOf [], lvOf [], k, 1, lvOf [], []⟩
theorem e139 (k : Nat) (x : dens (flatC (S139 k).ps)) : funK (E139 k) (S139 k) Try.f139 x = (S139 k).fn x := by
  kernel_rfl
theorem M139 (k : Nat) : Meets Try.prog 139 (S139 k) := meets_of Try.func139 (by kernel_rfl) tbOk orc_nil mixOk (fun x y h => (e139 k x).trans h) rfl

/-! spec_l01Pick: function 128 -/
noncomputable def spec_l01Pick.f (a0 : (List Int) × Int × Int) (l1 : List Int) : Option (Int × ((List Int) × Int × Int)) := (spec_l01Next.f (a0.1, a0.2.1, a0.2.2) (l1.length : Int)).bind fun t1 => if 0 ≤ t1.1 then (if t1.1 < (l1.length : Int) then (some ((rd l1 t1.1), t1.2.1, t1.2.2.1, t1.2.2.2)) else (none)) else (none)
noncomputable def S128 (k : Nat) : Does := ⟨[(false, [.cel (.struct (.pair (.list (.int .u8)) (.pair (.int .i64) (.int .u64))))]), (false, [.dat (.list (.int .i64))])], [(false, [.dat (.int .i64)])], fun x => spec_l01Pick.f x.1 x.2⟩
noncomputable def E128 (k : Nat) : En := ⟨tb, orcOf [(139, S139 k)], lvOf [], k, 1, lvOf [], []⟩
theorem e128 (k : Nat) (x : dens (flatC (S128 k).ps)) : funK (E128 k) (S128 k) Try.f128 x = (S128 k).fn x := by
  kernel_rfl
theorem M128 (k : Nat) : Meets Try.prog 128 (S128 k) := meets_of Try.func128 (by kernel_rfl) tbOk (orc_cons (M139 k) orc_nil) mixOk (fun x y h => (e128 k x).trans h) rfl

/-! spec_l04DrawOf: function 168 -/
noncomputable def spec_l04DrawOf.s0 (k : Nat) (r0 : (List Int) → Int → Int → (List Int) → (List Int) → (List Int) → Int → Int → Option ((List Int) × (List Int) × (List Int) × ((List Int) × Int × Int))) (x0_0 : List Int) (x0_1 : Int) (x0_2 : Int) (x3_0 : List Int) (x3_1 : List Int) (x3_2 : List Int) (x4 : Int) (x5 : Int) : Option ((List Int) × (List Int) × (List Int) × ((List Int) × Int × Int)) := if 0 < x5 then ((spec_l01Next.f (x0_0, x0_1, x0_2) x4).bind fun t3 => if 0 ≤ t3.1 then (if t3.1 < 9 then ((spec_l01Next.f (t3.2.1, t3.2.2.1, t3.2.2.2) (maxV (wrap64 (Int.tdiv (rd [2, 3, 4, 6, 8, 12, 5, 10, 15] t3.1) 3)) 1)).bind fun t4 => (spec_l01Next.f (t4.2.1, t4.2.2.1, t4.2.2.2) 3).bind fun t5 => if t5.1 = 0 then ((spec_l01Next.f (t5.2.1, t5.2.2.1, t5.2.2.2) (rd [2, 3, 4, 6, 8, 12, 5, 10, 15] t3.1)).bind fun t6 => if x3_0.length + 1 ≤ 1099511627776 then (if x3_1.length + 1 ≤ 1099511627776 then (if x3_2.length + 1 ≤ 1099511627776 then (r0 t6.2.1 t6.2.2.1 t6.2.2.2 (x3_0 ++ [(wrap64 (1 + t4.1))]) (x3_1 ++ [(rd [2, 3, 4, 6, 8, 12, 5, 10, 15] t3.1)]) (x3_2 ++ [(minV (wrap64 ((wrap64 (1 + t4.1)) + t6.1)) (rd [2, 3, 4, 6, 8, 12, 5, 10, 15] t3.1))]) x4 (wrap64 (x5 - 1))) else (none)) else (none)) else (none)) else (if x3_0.length + 1 ≤ 1099511627776 then (if x3_1.length + 1 ≤ 1099511627776 then (if x3_2.length + 1 ≤ 1099511627776 then (r0 t5.2.1 t5.2.2.1 t5.2.2.2 (x3_0 ++ [(wrap64 (1 + t4.1))]) (x3_1 ++ [(rd [2, 3, 4, 6, 8, 12, 5, 10, 15] t3.1)]) (x3_2 ++ [(rd [2, 3, 4, 6, 8, 12, 5, 10, 15] t3.1)]) x4 (wrap64 (x5 - 1))) else (none)) else (none)) else (none))) else (none)) else (none)) else ((spec_l01Next.f (x0_0, x0_1, x0_2) 20).bind fun t7 => if t7.1 = 0 then ((spec_l01Pick.f (t7.2.1, t7.2.2.1, t7.2.2.2) [59, 60, 37]).bind fun t8 => if 0 < (x3_1.length : Int) then (if 0 < (x3_2.length : Int) then (if 0 < ((x3_1.set (0 : Int).toNat t8.1).length : Int) then (if 0 < (x3_2.length : Int) then (some (x3_0, (x3_1.set (0 : Int).toNat t8.1), (x3_2.set (0 : Int).toNat (minV (rd x3_2 0) (rd (x3_1.set (0 : Int).toNat t8.1) 0))), t8.2.1, t8.2.2.1, t8.2.2.2)) else (none)) else (none)) else (none)) else (none)) else (some (x3_0, x3_1, x3_2, t7.2.1, t7.2.2.1, t7.2.2.2)))
noncomputable def spec_l04DrawOf.l0 (k : Nat) : Nat → (List Int) → Int → Int → (List Int) → (List Int) → (List Int) → Int → Int → Option ((List Int) × (List Int) × (List Int) × ((List Int) × Int × Int))
  | 0, _, _, _, _, _, _, _, _ => none
  | n + 1, x0, x1, x2, x3, x4, x5, x6, x7 => spec_l04DrawOf.s0 k (spec_l04DrawOf.l0 k n) x0 x1 x2 x3 x4 x5 x6 x7
noncomputable def spec_l04DrawOf.g (k : Nat) (r0 : (List Int) → Int → Int → (List Int) → (List Int) → (List Int) → Int → Int → Option ((List Int) × (List Int) × (List Int) × ((List Int) × Int × Int))) (a0 : (List Int) × Int × Int) : Option ((List Int) × (List Int) × (List Int) × ((List Int) × Int × Int)) := (spec_l01Pick.f (a0.1, a0.2.1, a0.2.2) [3, 6, 6, 9]).bind fun t1 => (spec_l01Next.f (t1.2.1, t1.2.2.1, t1.2.2.2) 4).bind fun t2 => r0 t2.2.1 t2.2.2.1 t2.2.2.2 [] [] [] t1.1 (wrap64 (1 + t2.1))
noncomputable def spec_l04DrawOf.f (k : Nat) (a0 : (List Int) × Int × Int) : Option ((List Int) × (List Int) × (List Int) × ((List Int) × Int × Int)) := spec_l04DrawOf.g k (spec_l04DrawOf.l0 k k) a0
noncomputable def S168 (k : Nat) : Does := ⟨[(false, [.cel (.struct (.pair (.list (.int .u8)) (.pair (.int .i64) (.int .u64))))])], [(true, [.own 2 (.int .i64), .own 2 (.int .i64), .own 2 (.int .i64)])], fun x => spec_l04DrawOf.f k x⟩
noncomputable def E168 (k : Nat) : En := ⟨tb, orcOf [(128, S128 k), (139, S139 k)], lvOf [(0, [(0, []), (2, []), (3, []), (4, []), (5, [])])], k, 1, lvOf [], []⟩
noncomputable def n168_0 (x0_0 : List Int) (x0_1 : Int) (x0_2 : Int) (x3_0 : List Int) (x3_1 : List Int) (x3_2 : List Int) (x4 : Int) (x5 : Int) : St := ⟨88, lookA [(0, .box 0 0), (2, .box 1 0), (3, .box 2 0), (4, .dat (.int .i64) x4), (5, .dat (.int .i64) x5)], Go.V.look [(0, .cells [.dat (.list (.int .u8)) x0_0, .dat (.int .i64) x0_1, .dat (.int .u64) x0_2]), (1, .cells [.nil, .nil, .nil]), (2, .cells [.own 3, .own 4, .own 5]), (3, .flat 2 (.int .i64) x3_0), (4, .flat 2 (.int .i64) x3_1), (5, .flat 2 (.int .i64) x3_2)]⟩
def p168_0 : List Bool := [true, true, true, false, true, false]
theorem r168_0 (k : Nat) (rec : St → Option ((List Int) × (List Int) × (List Int) × ((List Int) × Int × Int))) (v : (List Int) × Int × Int × (List Int) × (List Int) × (List Int) × Int × Int) : roundF (E168 k) (S168 k) Try.f168 p168_0 [] rec (n168_0 v.1 v.2.1 v.2.2.1 v.2.2.2.1 v.2.2.2.2.1 v.2.2.2.2.2.1 v.2.2.2.2.2.2.1 v.2.2.2.2.2.2.2) = spec_l04DrawOf.s0 k (fun a0 a1 a2 a3 a4 a5 a6 a7 => rec (n168_0 a0 a1 a2 a3 a4 a5 a6 a7)) v.1 v.2.1 v.2.2.1 v.2.2.2.1 v.2.2.2.2.1 v.2.2.2.2.2.1 v.2.2.2.2.2.2.1 v.2.2.2.2.2.2.2 := by
  kernel_rfl
theorem q168_0 (k : Nat) (n : Nat) : ∀ v : (List Int) × Int × Int × (List Int) × (List Int) × (List Int) × Int × Int, loopF (E168 k) (S168 k) Try.f168 p168_0 [] n (n168_0 v.1 v.2.1 v.2.2.1 v.2.2.2.1 v.2.2.2.2.1 v.2.2.2.2.2.1 v.2.2.2.2.2.2.1 v.2.2.2.2.2.2.2) = spec_l04DrawOf.l0 k n v.1 v.2.1 v.2.2.1 v.2.2.2.1 v.2.2.2.2.1 v.2.2.2.2.2.1 v.2.2.2.2.2.2.1 v.2.2.2.2.2.2.2 :=
  loopF_eq (E168 k) (S168 k) Try.f168 p168_0 [] (fun v : (List Int) × Int × Int × (List Int) × (List Int) × (List Int) × Int × Int => n168_0 v.1 v.2.1 v.2.2.1 v.2.2.2.1 v.2.2.2.2.1 v.2.2.2.2.2.1 v.2.2.2.2.2.2.1 v.2.2.2.2.2.2.2) (fun rec v => spec_l04DrawOf.s0 k (fun a0 a1 a2 a3 a4 a5 a6 a7 => rec (a0, a1, a2, a3, a4, a5, a6, a7)) v.1 v.2.1 v.2.2.1 v.2.2.2.1 v.2.2.2.2.1 v.2.2.2.2.2.1 v.2.2.2.2.2.2.1 v.2.2.2.2.2.2.2) (fun n v => spec_l04DrawOf.l0 k n v.1 v.2.1 v.2.2.1 v.2.2.2.1 v.2.2.2.2.1 v.2.2.2.2.2.1 v.2.2.2.2.2.2.1 v.2.2.2.2.2.2.2) (fun _ => rfl) (fun _ _ => rfl) (fun rec v => r168_0 k rec v) n
theorem e168 (k : Nat) (x : dens (flatC (S168 k).ps)) : funK (E168 k) (S168 k) Try.f168 x = (S168 k).fn x := by
  have h : funK (E168 k) (S168 k) Try.f168 x = spec_l04DrawOf.g k (fun a0 a1 a2 a3 a4 a5 a6 a7 => loopF (E168 k) (S168 k) Try.f168 p168_0 [] k (n168_0 a0 a1 a2 a3 a4 a5 a6 a7)) x := by kernel_rfl
  rw [h]
  rw [show (fun a0 a1 a2 a3 a4 a5 a6 a7 => loopF (E168 k) (S168 k) Try.f168 p168_0 [] k (n168_0 a0 a1 a2 a3 a4 a5 a6 a7)) = spec_l04DrawOf.l0 k k from funext fun a0 => funext fun a1 => funext fun a2 => funext fun a3 => funext fun a4 => funext fun a5 => funext fun a6 => funext fun a7 => q168_0 k k (a0, a1, a2, a3, a4, a5, a6, a7)]
  rfl
theorem M168 (k : Nat) : Meets Try.prog 168 (S168 k) := meets_of Try.func168 (by kernel_rfl) tbOk (orc_cons (M128 k) (orc_cons (M139 k) orc_nil)) mixOk (fun x y h => (e168 k x).trans h) rfl

/-! spec_l01Own: function 155 -/
noncomputable def spec_l01Own.f (l0 : List Int) : Option ((List Int)) := if 0 + l0.length ≤ 1099511627776 then (some ([] ++ l0)) else (none)
noncomputable def S155 (k : Nat) : Does := ⟨[(false, [.dat (.list (.int .i64))])], [(false, [.own 2 (.int .i64)])], fun x => spec_l01Own.f x⟩
noncomputable def E155 (k : Nat) : En := ⟨tb, orcOf [], lvOf [], k, 0, lvOf [], []⟩
theorem e155 (k : Nat) (x : dens (flatC (S155 k).ps)) : funK (E155 k) (S155 k) Try.f155 x = (S155 k).fn x := by
  kernel_rfl
theorem M155 (k : Nat) : Meets Try.prog 155 (S155 k) := meets_of Try.func155 (by kernel_rfl) tbOk orc_nil mixOk (fun x y h => (e155 k x).trans h) rfl

/-! spec_l04Bad: function 167 -/
noncomputable def spec_l04Bad.f (a0 : (List Int) × Int × Int) (l1_0 : List Int) (l1_1 : List Int) (l1_2 : List Int) : Option ((List Int) × (List Int) × (List Int) × ((List Int) × Int × Int)) := (spec_l01Next.f (a0.1, a0.2.1, a0.2.2) 40).bind fun t1 => if (decide (t1.1 = 0)) = true then ((spec_l01Own.f l1_0).bind fun t2 => if t2.length + 1 ≤ 1099511627776 then (some ((t2 ++ [1]), l1_1, l1_2, t1.2.1, t1.2.2.1, t1.2.2.2)) else (none)) else (if (decide (t1.1 = 1)) = true then ((spec_l01Own.f l1_1).bind fun t3 => (spec_l01Pick.f (t1.2.1, t1.2.2.1, t1.2.2.2) [0, 61, (-1)]).bind fun t4 => if 0 < (t3.length : Int) then (some (l1_0, (t3.set (0 : Int).toNat t4.1), l1_2, t4.2.1, t4.2.2.1, t4.2.2.2)) else (none)) else (if (decide (t1.1 = 2)) = true then ((spec_l01Own.f l1_2).bind fun t5 => (spec_l01Pick.f (t1.2.1, t1.2.2.1, t1.2.2.2) [0, 61]).bind fun t6 => if 0 < (t5.length : Int) then (some (l1_0, l1_1, (t5.set (0 : Int).toNat t6.1), t6.2.1, t6.2.2.1, t6.2.2.2)) else (none)) else (some (l1_0, l1_1, l1_2, t1.2.1, t1.2.2.1, t1.2.2.2))))
noncomputable def S167 (k : Nat) : Does := ⟨[(false, [.cel (.struct (.pair (.list (.int .u8)) (.pair (.int .i64) (.int .u64))))]), (true, [.dat (.list (.int .i64)), .dat (.list (.int .i64)), .dat (.list (.int .i64))])], [(true, [.dat (.list (.int .i64)), .dat (.list (.int .i64)), .dat (.list (.int .i64))])], fun x => spec_l04Bad.f x.1 x.2.1 x.2.2.1 x.2.2.2⟩
noncomputable def E167 (k : Nat) : En := ⟨tb, orcOf [(139, S139 k), (155, S155 k), (128, S128 k)], lvOf [], k, 1, lvOf [], [1074135040, 1074136640, 1074331648, 1074334016]⟩
theorem e167 (k : Nat) (x : dens (flatC (S167 k).ps)) : funK (E167 k) (S167 k) Try.f167 x = (S167 k).fn x := by
  kernel_rfl
theorem M167 (k : Nat) : Meets Try.prog 167 (S167 k) := meets_of Try.func167 (by kernel_rfl) tbOk (orc_cons (M139 k) (orc_cons (M155 k) (orc_cons (M128 k) orc_nil))) mixOk (fun x y h => (e167 k x).trans h) rfl

/-! spec_l04Draw: function 120 -/
noncomputable def spec_l04Draw.f (k : Nat) (l0 : List Int) : Option ((List Int) × (List Int) × (List Int)) := (spec_l01From.f k l0).bind fun t1 => (spec_l04DrawOf.f k (t1.1, t1.2.1, t1.2.2)).bind fun t2 => (spec_l04Bad.f (t2.2.2.2.1, t2.2.2.2.2.1, t2.2.2.2.2.2) t2.1 t2.2.1 t2.2.2.1).bind fun t3 => some (t3.1, t3.2.1, t3.2.2.1)
noncomputable def S120 (k : Nat) : Does := ⟨[(false, [.dat (.list (.int .u8))])], [(true, [.dat (.list (.int .i64)), .dat (.list (.int .i64)), .dat (.list (.int .i64))])], fun x => spec_l04Draw.f k x⟩
noncomputable def E120 (k : Nat) : En := ⟨tb, orcOf [(126, S126 k), (168, S168 k), (167, S167 k)], lvOf [], k, 0, lvOf [], []⟩
theorem e120 (k : Nat) (x : dens (flatC (S120 k).ps)) : funK (E120 k) (S120 k) Try.f120 x = (S120 k).fn x := by
  kernel_rfl
theorem M120 (k : Nat) : Meets Try.prog 120 (S120 k) := meets_of Try.func120 (by kernel_rfl) tbOk (orc_cons (M126 k) (orc_cons (M168 k) (orc_cons (M167 k) orc_nil))) mixOk (fun x y h => (e120 k x).trans h) rfl

/-! spec_l01DrawOrder: function 150 -/
noncomputable def spec_l01DrawOrder.s0 (k : Nat) (r0 : (List Int) → Int → Int → Int → (List Int) → Int → Option ((List Int) × ((List Int) × Int × Int))) (x0_0 : List Int) (x0_1 : Int) (x0_2 : Int) (x1 : Int) (x5 : List Int) (x6 : Int) : Option ((List Int) × ((List Int) × Int × Int)) := if x6 < x1 then ((spec_l01Next.f (x0_0, x0_1, x0_2) (wrap64 (x6 + 1))).bind fun t1 => if 0 ≤ t1.1 then (if t1.1 ≤ (x5.length : Int) then ((spec_l01Own.f (x5.take t1.1.toNat)).bind fun t2 => if t2.length + 1 ≤ 1099511627776 then (if 0 ≤ t1.1 then (if t1.1 ≤ (x5.length : Int) then (if (x5.length : Int) ≤ (x5.length : Int) then (if (t2 ++ [x6]).length + ((x5.take (x5.length : Int).toNat).drop t1.1.toNat).length ≤ 1099511627776 then (r0 t1.2.1 t1.2.2.1 t1.2.2.2 x1 ((t2 ++ [x6]) ++ ((x5.take (x5.length : Int).toNat).drop t1.1.toNat)) (wrap64 (x6 + 1))) else (none)) else (none)) else (none)) else (none)) else (none)) else (none)) else (none)) else (some (x5, x0_0, x0_1, x0_2))
noncomputable def spec_l01DrawOrder.l0 (k : Nat) : Nat → (List Int) → Int → Int → Int → (List Int) → Int → Option ((List Int) × ((List Int) × Int × Int))
  | 0, _, _, _, _, _, _ => none
  | n + 1, x0, x1, x2, x3, x4, x5 => spec_l01DrawOrder.s0 k (spec_l01DrawOrder.l0 k n) x0 x1 x2 x3 x4 x5
noncomputable def spec_l01DrawOrder.g (k : Nat) (r0 : (List Int) → Int → Int → Int → (List Int) → Int → Option ((List Int) × ((List Int) × Int × Int))) (a0 : (List Int) × Int × Int) (a1 : Int) : Option ((List Int) × ((List Int) × Int × Int)) := r0 a0.1 a0.2.1 a0.2.2 a1 [] 0
noncomputable def spec_l01DrawOrder.f (k : Nat) (a0 : (List Int) × Int × Int) (a1 : Int) : Option ((List Int) × ((List Int) × Int × Int)) := spec_l01DrawOrder.g k (spec_l01DrawOrder.l0 k k) a0 a1
noncomputable def S150 (k : Nat) : Does := ⟨[(false, [.cel (.struct (.pair (.list (.int .u8)) (.pair (.int .i64) (.int .u64))))]), (false, [.dat (.int .i64)])], [(false, [.own 2 (.int .i64)])], fun x => spec_l01DrawOrder.f k x.1 x.2⟩
noncomputable def E150 (k : Nat) : En := ⟨tb, orcOf [(139, S139 k), (155, S155 k)], lvOf [(0, [(0, []), (1, []), (5, []), (6, [])])], k, 1, lvOf [(6, [(5, [.data (.int .i64)])])], [1610612763]⟩
noncomputable def n150_0 (x0_0 : List Int) (x0_1 : Int) (x0_2 : Int) (x1 : Int) (x5 : List Int) (x6 : Int) : St := ⟨30, lookA [(0, .box 0 0), (1, .dat (.int .i64) x1), (5, .own 1), (6, .dat (.int .i64) x6)], Go.V.look [(0, .cells [.dat (.list (.int .u8)) x0_0, .dat (.int .i64) x0_1, .dat (.int .u64) x0_2]), (1, .flat 2 (.int .i64) x5)]⟩
def p150_0 : List Bool := [true, true, false, true, false]
theorem r150_0 (k : Nat) (rec : St → Option ((List Int) × ((List Int) × Int × Int))) (v : (List Int) × Int × Int × Int × (List Int) × Int) : roundF (E150 k) (S150 k) Try.f150 p150_0 [] rec (n150_0 v.1 v.2.1 v.2.2.1 v.2.2.2.1 v.2.2.2.2.1 v.2.2.2.2.2) = spec_l01DrawOrder.s0 k (fun a0 a1 a2 a3 a4 a5 => rec (n150_0 a0 a1 a2 a3 a4 a5)) v.1 v.2.1 v.2.2.1 v.2.2.2.1 v.2.2.2.2.1 v.2.2.2.2.2 := by
  kernel_rfl
theorem q150_0 (k : Nat) (n : Nat) : ∀ v : (List Int) × Int × Int × Int × (List Int) × Int, loopF (E150 k) (S150 k) Try.f150 p150_0 [] n (n150_0 v.1 v.2.1 v.2.2.1 v.2.2.2.1 v.2.2.2.2.1 v.2.2.2.2.2) = spec_l01DrawOrder.l0 k n v.1 v.2.1 v.2.2.1 v.2.2.2.1 v.2.2.2.2.1 v.2.2.2.2.2 :=
  loopF_eq (E150 k) (S150 k) Try.f150 p150_0 [] (fun v : (List Int) × Int × Int × Int × (List Int) × Int => n150_0 v.1 v.2.1 v.2.2.1 v.2.2.2.1 v.2.2.2.2.1 v.2.2.2.2.2) (fun rec v => spec_l01DrawOrder.s0 k (fun a0 a1 a2 a3 a4 a5 => rec (a0, a1, a2, a3, a4, a5)) v.1 v.2.1 v.2.2.1 v.2.2.2.1 v.2.2.2.2.1 v.2.2.2.2.2) (fun n v => spec_l01DrawOrder.l0 k n v.1 v.2.1 v.2.2.1 v.2.2.2.1 v.2.2.2.2.1 v.2.2.2.2.2) (fun _ => rfl) (fun _ _ => rfl) (fun rec v => r150_0 k rec v) n
theorem e150 (k : Nat) (x : dens (flatC (S150 k).ps)) : funK (E150 k) (S150 k) Try.f150 x = (S150 k).fn x := by
  have h : funK (E150 k) (S150 k) Try.f150 x = spec_l01DrawOrder.g k (fun a0 a1 a2 a3 a4 a5 => loopF (E150 k) (S150 k) Try.f150 p150_0 [] k (n150_0 a0 a1 a2 a3 a4 a5)) x.1 x.2 := by kernel_rfl
  rw [h]
  rw [show (fun a0 a1 a2 a3 a4 a5 => loopF (E150 k) (S150 k) Try.f150 p150_0 [] k (n150_0 a0 a1 a2 a3 a4 a5)) = spec_l01DrawOrder.l0 k k from funext fun a0 => funext fun a1 => funext fun a2 => funext fun a3 => funext fun a4 => funext fun a5 => q150_0 k k (a0, a1, a2, a3, a4, a5)]
  rfl
theorem M150 (k : Nat) : Meets Try.prog 150 (S150 k) := meets_of Try.func150 (by kernel_rfl) tbOk (orc_cons (M139 k) (orc_cons (M155 k) orc_nil)) mixOk (fun x y h => (e150 k x).trans h) rfl

/-! spec_l01In: function 99 -/
noncomputable def spec_l01In.f (a0 : Int) (a1 : Int) (a2 : Int) : Option (Bool) := if a1 ≤ a0 then (some (decide (a0 ≤ a2))) else (some false)
noncomputable def S99 (k : Nat) : Does := ⟨[(false, [.dat (.int .i64)]), (false, [.dat (.int .i64)]), (false, [.dat (.int .i64)])], [(false, [.dat .bool])], fun x => spec_l01In.f x.1 x.2.1 x.2.2⟩
noncomputable def E99 (k : Nat) : En := ⟨tb, orcOf [], lvOf [], k, 0, lvOf [], []⟩
theorem e99 (k : Nat) (x : dens (flatC (S99 k).ps)) : funK (E99 k) (S99 k) Try.f99 x = (S99 k).fn x := by
  kernel_rfl
theorem M99 (k : Nat) : Meets Try.prog 99 (S99 k) := meets_of Try.func99 (by kernel_rfl) tbOk orc_nil mixOk (fun x y h => (e99 k x).trans h) rfl

/-! spec_l04Is: function 92 -/
noncomputable def spec_l04Is.s0 (k : Nat) (r0 : (List Int) → (List Int) → (List Int) → Int → Int → Option (Bool)) (x1_0 : List Int) (x1_1 : List Int) (x1_2 : List Int) (x3 : Int) (x4 : Int) : Option (Bool) := if x4 < x3 then (if 0 ≤ x4 then (if x4 < (x1_0.length : Int) then ((spec_l01In.f (rd x1_0 x4) 1 20).bind fun t1 => if t1 = true then (if 0 ≤ x4 then (if x4 < (x1_1.length : Int) then ((spec_l01In.f (rd x1_1 x4) 1 60).bind fun t2 => if t2 = true then (if 0 ≤ x4 then (if x4 < (x1_2.length : Int) then (if 0 ≤ x4 then (if x4 < (x1_1.length : Int) then ((spec_l01In.f (rd x1_2 x4) 1 (rd x1_1 x4)).bind fun t3 => if t3 = true then (r0 x1_0 x1_1 x1_2 x3 (wrap64 (x4 + 1))) else (some false)) else (none)) else (none)) else (none)) else (none)) else (some false)) else (none)) else (none)) else (some false)) else (none)) else (none)) else (some true)
noncomputable def spec_l04Is.l0 (k : Nat) : Nat → (List Int) → (List Int) → (List Int) → Int → Int → Option (Bool)
  | 0, _, _, _, _, _ => none
  | n + 1, x0, x1, x2, x3, x4 => spec_l04Is.s0 k (spec_l04Is.l0 k n) x0 x1 x2 x3 x4
noncomputable def spec_l04Is.g (k : Nat) (r0 : (List Int) → (List Int) → (List Int) → Int → Int → Option (Bool)) (l0_0 : List Int) (l0_1 : List Int) (l0_2 : List Int) : Option (Bool) := if (l0_0.length : Int) < 1 then (some false) else (if 8 < (l0_0.length : Int) then (some false) else (if (l0_1.length : Int) = (l0_0.length : Int) then (if (l0_2.length : Int) = (l0_0.length : Int) then (r0 l0_0 l0_1 l0_2 (l0_0.length : Int) 0) else (some false)) else (some false)))
noncomputable def spec_l04Is.f (k : Nat) (l0_0 : List Int) (l0_1 : List Int) (l0_2 : List Int) : Option (Bool) := spec_l04Is.g k (spec_l04Is.l0 k k) l0_0 l0_1 l0_2
noncomputable def S92 (k : Nat) : Does := ⟨[(true, [.dat (.list (.int .i64)), .dat (.list (.int .i64)), .dat (.list (.int .i64))])], [(false, [.dat .bool])], fun x => spec_l04Is.f k x.1 x.2.1 x.2.2⟩
noncomputable def E92 (k : Nat) : En := ⟨tb, orcOf [(99, S99 k)], lvOf [(0, [(1, []), (3, []), (4, [])])], k, 0, lvOf [], []⟩
noncomputable def n92_0 (x1_0 : List Int) (x1_1 : List Int) (x1_2 : List Int) (x3 : Int) (x4 : Int) : St := ⟨63, lookA [(1, .box 0 0), (3, .dat (.int .i64) x3), (4, .dat (.int .i64) x4)], Go.V.look [(0, .cells [.dat (.list (.int .i64)) x1_0, .dat (.list (.int .i64)) x1_1, .dat (.list (.int .i64)) x1_2])]⟩
def p92_0 : List Bool := [true, true, true, false, true, false]
theorem r92_0 (k : Nat) (rec : St → Option (Bool)) (v : (List Int) × (List Int) × (List Int) × Int × Int) : roundF (E92 k) (S92 k) Try.f92 p92_0 [] rec (n92_0 v.1 v.2.1 v.2.2.1 v.2.2.2.1 v.2.2.2.2) = spec_l04Is.s0 k (fun a0 a1 a2 a3 a4 => rec (n92_0 a0 a1 a2 a3 a4)) v.1 v.2.1 v.2.2.1 v.2.2.2.1 v.2.2.2.2 := by
  kernel_rfl
theorem q92_0 (k : Nat) (n : Nat) : ∀ v : (List Int) × (List Int) × (List Int) × Int × Int, loopF (E92 k) (S92 k) Try.f92 p92_0 [] n (n92_0 v.1 v.2.1 v.2.2.1 v.2.2.2.1 v.2.2.2.2) = spec_l04Is.l0 k n v.1 v.2.1 v.2.2.1 v.2.2.2.1 v.2.2.2.2 :=
  loopF_eq (E92 k) (S92 k) Try.f92 p92_0 [] (fun v : (List Int) × (List Int) × (List Int) × Int × Int => n92_0 v.1 v.2.1 v.2.2.1 v.2.2.2.1 v.2.2.2.2) (fun rec v => spec_l04Is.s0 k (fun a0 a1 a2 a3 a4 => rec (a0, a1, a2, a3, a4)) v.1 v.2.1 v.2.2.1 v.2.2.2.1 v.2.2.2.2) (fun n v => spec_l04Is.l0 k n v.1 v.2.1 v.2.2.1 v.2.2.2.1 v.2.2.2.2) (fun _ => rfl) (fun _ _ => rfl) (fun rec v => r92_0 k rec v) n
theorem e92 (k : Nat) (x : dens (flatC (S92 k).ps)) : funK (E92 k) (S92 k) Try.f92 x = (S92 k).fn x := by
  have h : funK (E92 k) (S92 k) Try.f92 x = spec_l04Is.g k (fun a0 a1 a2 a3 a4 => loopF (E92 k) (S92 k) Try.f92 p92_0 [] k (n92_0 a0 a1 a2 a3 a4)) x.1 x.2.1 x.2.2 := by kernel_rfl
  rw [h]
  rw [show (fun a0 a1 a2 a3 a4 => loopF (E92 k) (S92 k) Try.f92 p92_0 [] k (n92_0 a0 a1 a2 a3 a4)) = spec_l04Is.l0 k k from funext fun a0 => funext fun a1 => funext fun a2 => funext fun a3 => funext fun a4 => q92_0 k k (a0, a1, a2, a3, a4)]
  rfl
theorem M92 (k : Nat) : Meets Try.prog 92 (S92 k) := meets_of Try.func92 (by kernel_rfl) tbOk (orc_cons (M99 k) orc_nil) mixOk (fun x y h => (e92 k x).trans h) rfl

/-! spec_OrderByDeadlines: function 29 -/
noncomputable def spec_OrderByDeadlines.s1 (k : Nat) (r0 : (List Int) → (List Int) → (List Int) → (List Int) → Int → Option ((List Int) × Int)) (r1 : (List Int) → (List Int) → (List Int) → (List Int) → Int → Int → Option ((List Int) × Int)) (x1_0 : List Int) (x1_1 : List Int) (x1_2 : List Int) (x4 : List Int) (x5 : Int) (x6 : Int) : Option ((List Int) × Int) := if 0 < x6 then (if 0 ≤ (wrap64 (x6 - 1)) then (if (wrap64 (x6 - 1)) < (x4.length : Int) then (if 0 ≤ (rd x4 (wrap64 (x6 - 1))) then (if (rd x4 (wrap64 (x6 - 1))) < (x1_2.length : Int) then (if 0 ≤ x5 then (if x5 < (x1_2.length : Int) then (if (rd x1_2 x5) < (rd x1_2 (rd x4 (wrap64 (x6 - 1)))) then (if 0 ≤ (wrap64 (x6 - 1)) then (if (wrap64 (x6 - 1)) < (x4.length : Int) then (if 0 ≤ x6 then (if x6 < (x4.length : Int) then (r1 x1_0 x1_1 x1_2 (x4.set x6.toNat (rd x4 (wrap64 (x6 - 1)))) x5 (wrap64 (x6 - 1))) else (none)) else (none)) else (none)) else (none)) else (if 0 ≤ x6 then (if x6 < (x4.length : Int) then (r0 x1_0 x1_1 x1_2 (x4.set x6.toNat x5) (wrap64 (x5 + 1))) else (none)) else (none))) else (none)) else (none)) else (none)) else (none)) else (none)) else (none)) else (if 0 ≤ x6 then (if x6 < (x4.length : Int) then (r0 x1_0 x1_1 x1_2 (x4.set x6.toNat x5) (wrap64 (x5 + 1))) else (none)) else (none))
noncomputable def spec_OrderByDeadlines.l1 (k : Nat) (r0 : (List Int) → (List Int) → (List Int) → (List Int) → Int → Option ((List Int) × Int)) : Nat → (List Int) → (List Int) → (List Int) → (List Int) → Int → Int → Option ((List Int) × Int)
  | 0, _, _, _, _, _, _ => none
  | n + 1, x0, x1, x2, x3, x4, x5 => spec_OrderByDeadlines.s1 k r0 (spec_OrderByDeadlines.l1 k r0 n) x0 x1 x2 x3 x4 x5
noncomputable def spec_OrderByDeadlines.s0 (k : Nat) (r0 : (List Int) → (List Int) → (List Int) → (List Int) → Int → Option ((List Int) × Int)) (r1 : (List Int) → (List Int) → (List Int) → (List Int) → Int → Int → Option ((List Int) × Int)) (x1_0 : List Int) (x1_1 : List Int) (x1_2 : List Int) (x4 : List Int) (x5 : Int) : Option ((List Int) × Int) := if x5 < (x1_0.length : Int) then (if x4.length + 1 ≤ 1099511627776 then (r1 x1_0 x1_1 x1_2 (x4 ++ [x5]) x5 (x4.length : Int)) else (none)) else (some (x4, 0))
noncomputable def spec_OrderByDeadlines.l0 (k : Nat) : Nat → (List Int) → (List Int) → (List Int) → (List Int) → Int → Option ((List Int) × Int)
  | 0, _, _, _, _, _ => none
  | n + 1, x0, x1, x2, x3, x4 => spec_OrderByDeadlines.s0 k (spec_OrderByDeadlines.l0 k n) (spec_OrderByDeadlines.l1 k (spec_OrderByDeadlines.l0 k n) k) x0 x1 x2 x3 x4
noncomputable def spec_OrderByDeadlines.g (k : Nat) (r0 : (List Int) → (List Int) → (List Int) → (List Int) → Int → Option ((List Int) × Int)) (l0_0 : List Int) (l0_1 : List Int) (l0_2 : List Int) : Option ((List Int) × Int) := (spec_l04Is.f k l0_0 l0_1 l0_2).bind fun t1 => if t1 = true then (r0 l0_0 l0_1 l0_2 [] 0) else (some ([], 1))
noncomputable def spec_OrderByDeadlines.f (k : Nat) (l0_0 : List Int) (l0_1 : List Int) (l0_2 : List Int) : Option ((List Int) × Int) := spec_OrderByDeadlines.g k (spec_OrderByDeadlines.l0 k k) l0_0 l0_1 l0_2
noncomputable def S29 (k : Nat) : Does := ⟨[(true, [.dat (.list (.int .i64)), .dat (.list (.int .i64)), .dat (.list (.int .i64))])], [(false, [.own 2 (.int .i64)]), (false, [.dat (.int .i64)])], fun x => spec_OrderByDeadlines.f k x.1 x.2.1 x.2.2⟩
noncomputable def E29 (k : Nat) : En := ⟨tb, orcOf [(92, S92 k)], lvOf [(0, [(1, []), (4, []), (5, [])]), (2, [(1, []), (4, []), (5, []), (6, [])])], k, 0, lvOf [], []⟩
noncomputable def n29_0 (x1_0 : List Int) (x1_1 : List Int) (x1_2 : List Int) (x4 : List Int) (x5 : Int) : St := ⟨58, lookA [(1, .box 0 0), (4, .own 1), (5, .dat (.int .i64) x5)], Go.V.look [(0, .cells [.dat (.list (.int .i64)) x1_0, .dat (.list (.int .i64)) x1_1, .dat (.list (.int .i64)) x1_2]), (1, .flat 2 (.int .i64) x4)]⟩
def p29_0 : List Bool := [true, true, true, false, true, false]
noncomputable def n29_1 (x1_0 : List Int) (x1_1 : List Int) (x1_2 : List Int) (x4 : List Int) (x5 : Int) (x6 : Int) : St := ⟨58, lookA [(1, .box 0 0), (4, .own 1), (5, .dat (.int .i64) x5), (6, .dat (.int .i64) x6)], Go.V.look [(0, .cells [.dat (.list (.int .i64)) x1_0, .dat (.list (.int .i64)) x1_1, .dat (.list (.int .i64)) x1_2]), (1, .flat 2 (.int .i64) x4)]⟩
def p29_1 : List Bool := [true, true, true, false, true, false, false, true, false, false, true, true, false, false]
theorem r29_1 (k : Nat) (R0 : St → Option ((List Int) × Int)) (rec : St → Option ((List Int) × Int)) (v : (List Int) × (List Int) × (List Int) × (List Int) × Int × Int) : roundF (E29 k) (S29 k) Try.f29 p29_1 [R0] rec (n29_1 v.1 v.2.1 v.2.2.1 v.2.2.2.1 v.2.2.2.2.1 v.2.2.2.2.2) = spec_OrderByDeadlines.s1 k (fun a0 a1 a2 a3 a4 => R0 (n29_0 a0 a1 a2 a3 a4)) (fun a0 a1 a2 a3 a4 a5 => rec (n29_1 a0 a1 a2 a3 a4 a5)) v.1 v.2.1 v.2.2.1 v.2.2.2.1 v.2.2.2.2.1 v.2.2.2.2.2 := by
  kernel_rfl
theorem q29_1 (k : Nat) (R0 : St → Option ((List Int) × Int)) (n : Nat) : ∀ v : (List Int) × (List Int) × (List Int) × (List Int) × Int × Int, loopF (E29 k) (S29 k) Try.f29 p29_1 [R0] n (n29_1 v.1 v.2.1 v.2.2.1 v.2.2.2.1 v.2.2.2.2.1 v.2.2.2.2.2) = spec_OrderByDeadlines.l1 k (fun a0 a1 a2 a3 a4 => R0 (n29_0 a0 a1 a2 a3 a4)) n v.1 v.2.1 v.2.2.1 v.2.2.2.1 v.2.2.2.2.1 v.2.2.2.2.2 :=
  loopF_eq (E29 k) (S29 k) Try.f29 p29_1 [R0] (fun v : (List Int) × (List Int) × (List Int) × (List Int) × Int × Int => n29_1 v.1 v.2.1 v.2.2.1 v.2.2.2.1 v.2.2.2.2.1 v.2.2.2.2.2) (fun rec v => spec_OrderByDeadlines.s1 k (fun a0 a1 a2 a3 a4 => R0 (n29_0 a0 a1 a2 a3 a4)) (fun a0 a1 a2 a3 a4 a5 => rec (a0, a1, a2, a3, a4, a5)) v.1 v.2.1 v.2.2.1 v.2.2.2.1 v.2.2.2.2.1 v.2.2.2.2.2) (fun n v => spec_OrderByDeadlines.l1 k (fun a0 a1 a2 a3 a4 => R0 (n29_0 a0 a1 a2 a3 a4)) n v.1 v.2.1 v.2.2.1 v.2.2.2.1 v.2.2.2.2.1 v.2.2.2.2.2) (fun _ => rfl) (fun _ _ => rfl) (fun rec v => r29_1 k R0 rec v) n
theorem r29_0 (k : Nat) (rec : St → Option ((List Int) × Int)) (G1 : (List Int) → (List Int) → (List Int) → (List Int) → Int → Int → Option ((List Int) × Int)) (h1 : ∀ a0 a1 a2 a3 a4 a5, loopF (E29 k) (S29 k) Try.f29 p29_1 [rec] k (n29_1 a0 a1 a2 a3 a4 a5) = G1 a0 a1 a2 a3 a4 a5) (v : (List Int) × (List Int) × (List Int) × (List Int) × Int) : roundF (E29 k) (S29 k) Try.f29 p29_0 [] rec (n29_0 v.1 v.2.1 v.2.2.1 v.2.2.2.1 v.2.2.2.2) = spec_OrderByDeadlines.s0 k (fun a0 a1 a2 a3 a4 => rec (n29_0 a0 a1 a2 a3 a4)) G1 v.1 v.2.1 v.2.2.1 v.2.2.2.1 v.2.2.2.2 := by
  obtain rfl : (fun a0 a1 a2 a3 a4 a5 => loopF (E29 k) (S29 k) Try.f29 p29_1 [rec] k (n29_1 a0 a1 a2 a3 a4 a5)) = G1 := funext fun a0 => funext fun a1 => funext fun a2 => funext fun a3 => funext fun a4 => funext fun a5 => h1 a0 a1 a2 a3 a4 a5
  kernel_rfl
theorem q29_0 (k : Nat) (n : Nat) : ∀ v : (List Int) × (List Int) × (List Int) × (List Int) × Int, loopF (E29 k) (S29 k) Try.f29 p29_0 [] n (n29_0 v.1 v.2.1 v.2.2.1 v.2.2.2.1 v.2.2.2.2) = spec_OrderByDeadlines.l0 k n v.1 v.2.1 v.2.2.1 v.2.2.2.1 v.2.2.2.2 :=
  loopF_eq (E29 k) (S29 k) Try.f29 p29_0 [] (fun v : (List Int) × (List Int) × (List Int) × (List Int) × Int => n29_0 v.1 v.2.1 v.2.2.1 v.2.2.2.1 v.2.2.2.2) (fun rec v => spec_OrderByDeadlines.s0 k (fun a0 a1 a2 a3 a4 => rec (a0, a1, a2, a3, a4)) (spec_OrderByDeadlines.l1 k (fun a0 a1 a2 a3 a4 => rec (a0, a1, a2, a3, a4)) k) v.1 v.2.1 v.2.2.1 v.2.2.2.1 v.2.2.2.2) (fun n v => spec_OrderByDeadlines.l0 k n v.1 v.2.1 v.2.2.1 v.2.2.2.1 v.2.2.2.2) (fun _ => rfl) (fun _ _ => rfl) (fun rec v => r29_0 k rec _ (fun a0 a1 a2 a3 a4 a5 => q29_1 k rec k (a0, a1, a2, a3, a4, a5)) v) n
theorem e29 (k : Nat) (x : dens (flatC (S29 k).ps)) : funK (E29 k) (S29 k) Try.f29 x = (S29 k).fn x := by
  have h : funK (E29 k) (S29 k) Try.f29 x = spec_OrderByDeadlines.g k (fun a0 a1 a2 a3 a4 => loopF (E29 k) (S29 k) Try.f29 p29_0 [] k (n29_0 a0 a1 a2 a3 a4)) x.1 x.2.1 x.2.2 := by kernel_rfl
  rw [h]
  rw [show (fun a0 a1 a2 a3 a4 => loopF (E29 k) (S29 k) Try.f29 p29_0 [] k (n29_0 a0 a1 a2 a3 a4)) = spec_OrderByDeadlines.l0 k k from funext fun a0 => funext fun a1 => funext fun a2 => funext fun a3 => funext fun a4 => q29_0 k k (a0, a1, a2, a3, a4)]
  rfl
theorem M29 (k : Nat) : Meets Try.prog 29 (S29 k) := meets_of Try.func29 (by kernel_rfl) tbOk (orc_cons (M92 k) orc_nil) mixOk (fun x y h => (e29 k x).trans h) rfl

/-! spec_DrawAnswersOf: function 84 -/
noncomputable def spec_DrawAnswersOf.f (k : Nat) (l0 : List Int) : Option ((List Int) × (List Int) × (List Int) × (List Int)) := (spec_l01From.f k l0).bind fun t1 => (spec_l04Draw.f k l0).bind fun t2 => (spec_l01DrawOrder.f k (t1.1, t1.2.1, t1.2.2) (minV (maxV (t2.1.length : Int) 1) 8)).bind fun t3 => (spec_OrderByDeadlines.f k t2.1 t2.2.1 t2.2.2).bind fun t4 => if t4.2 = 0 then ((spec_l01Next.f (t3.2.1, t3.2.2.1, t3.2.2.2) 2).bind fun t5 => if t5.1 = 0 then ((spec_l01Next.f (t5.2.1, t5.2.2.1, t5.2.2.2) 16).bind fun t6 => if t6.1 = 0 then (if t4.1.length + 1 ≤ 1099511627776 then (some (t2.1, t2.2.1, t2.2.2, (t4.1 ++ [0]))) else (none)) else (some (t2.1, t2.2.1, t2.2.2, t4.1))) else ((spec_l01Next.f (t5.2.1, t5.2.2.1, t5.2.2.2) 16).bind fun t7 => if t7.1 = 0 then (if t3.1.length + 1 ≤ 1099511627776 then (some (t2.1, t2.2.1, t2.2.2, (t3.1 ++ [0]))) else (none)) else (some (t2.1, t2.2.1, t2.2.2, t3.1)))) else ((spec_l01Next.f (t3.2.1, t3.2.2.1, t3.2.2.2) 16).bind fun t8 => if t8.1 = 0 then (if t3.1.length + 1 ≤ 1099511627776 then (some (t2.1, t2.2.1, t2.2.2, (t3.1 ++ [0]))) else (none)) else (some (t2.1, t2.2.1, t2.2.2, t3.1)))
noncomputable def S84 (k : Nat) : Does := ⟨[(false, [.dat (.list (.int .u8))])], [(true, [.dat (.list (.int .i64)), .dat (.list (.int .i64)), .dat (.list (.int .i64))]), (false, [.own 2 (.int .i64)])], fun x => spec_DrawAnswersOf.f k x⟩
noncomputable def E84 (k : Nat) : En := ⟨tb, orcOf [(126, S126 k), (120, S120 k), (150, S150 k), (29, S29 k), (139, S139 k)], lvOf [], k, 0, lvOf [], []⟩
theorem e84 (k : Nat) (x : dens (flatC (S84 k).ps)) : funK (E84 k) (S84 k) Try.f84 x = (S84 k).fn x := by
  kernel_rfl
theorem M84 (k : Nat) : Meets Try.prog 84 (S84 k) := meets_of Try.func84 (by kernel_rfl) tbOk (orc_cons (M126 k) (orc_cons (M120 k) (orc_cons (M150 k) (orc_cons (M29 k) (orc_cons (M139 k) orc_nil))))) mixOk (fun x y h => (e84 k x).trans h) rfl

/-! impl_length_int64: function 101 -/
noncomputable def impl_length_int64.f (l0 : List Int) : Option (Int) := some (l0.length : Int)
noncomputable def S101 (k : Nat) : Does := ⟨[(false, [.dat (.list (.int .i64))])], [(false, [.dat (.int .i64)])], fun x => impl_length_int64.f x⟩
noncomputable def E101 (k : Nat) : En := ⟨tb, orcOf [], lvOf [], k, 0, lvOf [], []⟩
theorem e101 (k : Nat) (x : dens (flatC (S101 k).ps)) : funK (E101 k) (S101 k) Try.f101 x = (S101 k).fn x := by
  kernel_rfl
theorem M101 (k : Nat) : Meets Try.prog 101 (S101 k) := meets_of Try.func101 (by kernel_rfl) tbOk orc_nil mixOk (fun x y h => (e101 k x).trans h) rfl

/-! impl_Jobs_many: function 96 -/
noncomputable def impl_Jobs_many.f (l0_0 : List Int) (l0_1 : List Int) (l0_2 : List Int) : Option (Int) := (impl_length_int64.f l0_0).bind fun t1 => some t1
noncomputable def S96 (k : Nat) : Does := ⟨[(true, [.dat (.list (.int .i64)), .dat (.list (.int .i64)), .dat (.list (.int .i64))])], [(false, [.dat (.int .i64)])], fun x => impl_Jobs_many.f x.1 x.2.1 x.2.2⟩
noncomputable def E96 (k : Nat) : En := ⟨tb, orcOf [(101, S101 k)], lvOf [], k, 0, lvOf [], []⟩
theorem e96 (k : Nat) (x : dens (flatC (S96 k).ps)) : funK (E96 k) (S96 k) Try.f96 x = (S96 k).fn x := by
  kernel_rfl
theorem M96 (k : Nat) : Meets Try.prog 96 (S96 k) := meets_of Try.func96 (by kernel_rfl) tbOk (orc_cons (M101 k) orc_nil) mixOk (fun x y h => (e96 k x).trans h) rfl

/-! impl_within: function 104 -/
noncomputable def impl_within.f (a0 : Int) (a1 : Int) (a2 : Int) : Option (Bool) := if a1 ≤ a0 then (some (decide (a0 ≤ a2))) else (some false)
noncomputable def S104 (k : Nat) : Does := ⟨[(false, [.dat (.int .i64)]), (false, [.dat (.int .i64)]), (false, [.dat (.int .i64)])], [(false, [.dat .bool])], fun x => impl_within.f x.1 x.2.1 x.2.2⟩
noncomputable def E104 (k : Nat) : En := ⟨tb, orcOf [], lvOf [], k, 0, lvOf [], []⟩
theorem e104 (k : Nat) (x : dens (flatC (S104 k).ps)) : funK (E104 k) (S104 k) Try.f104 x = (S104 k).fn x := by
  kernel_rfl
theorem M104 (k : Nat) : Meets Try.prog 104 (S104 k) := meets_of Try.func104 (by kernel_rfl) tbOk orc_nil mixOk (fun x y h => (e104 k x).trans h) rfl

/-! impl_isOrder: function 95 -/
noncomputable def impl_isOrder.s0 (k : Nat) (r0 : (List Int) → Int → (List (Int × Bool)) → (List Int) → Int → Int → Option (Bool)) (x0 : List Int) (x1 : Int) (x5 : List (Int × Bool)) (x9 : List Int) (x10 : Int) (x11 : Int) : Option (Bool) := if x11 < x10 then (if 0 ≤ x11 then (if x11 < (x9.length : Int) then ((impl_within.f (rd x9 x11) 0 (wrap64 (x1 - 1))).bind fun t1 => if t1 = true then (r0 x0 x1 (mpI x5 (rd x9 x11) true) x9 x10 (wrap64 (x11 + 1))) else (some false)) else (none)) else (none)) else ((impl_length_int64.f x0).bind fun t2 => if t2 = x1 then (some (decide ((x5.length : Int) = (x0.length : Int)))) else (some false))
noncomputable def impl_isOrder.l0 (k : Nat) : Nat → (List Int) → Int → (List (Int × Bool)) → (List Int) → Int → Int → Option (Bool)
  | 0, _, _, _, _, _, _ => none
  | n + 1, x0, x1, x2, x3, x4, x5 => impl_isOrder.s0 k (impl_isOrder.l0 k n) x0 x1 x2 x3 x4 x5
noncomputable def impl_isOrder.g (k : Nat) (r0 : (List Int) → Int → (List (Int × Bool)) → (List Int) → Int → Int → Option (Bool)) (l0 : List Int) (a1 : Int) : Option (Bool) := r0 l0 a1 [] l0 (l0.length : Int) 0
noncomputable def impl_isOrder.f (k : Nat) (l0 : List Int) (a1 : Int) : Option (Bool) := impl_isOrder.g k (impl_isOrder.l0 k k) l0 a1
noncomputable def S95 (k : Nat) : Does := ⟨[(false, [.dat (.list (.int .i64))]), (false, [.dat (.int .i64)])], [(false, [.dat .bool])], fun x => impl_isOrder.f k x.1 x.2⟩
noncomputable def E95 (k : Nat) : En := ⟨tb, orcOf [(104, S104 k), (101, S101 k)], lvOf [(0, [(0, []), (1, []), (5, []), (9, []), (10, []), (11, [])])], k, 0, lvOf [], []⟩
noncomputable def n95_0 (x0 : List Int) (x1 : Int) (x5 : List (Int × Bool)) (x9 : List Int) (x10 : Int) (x11 : Int) : St := ⟨34, lookA [(0, .dat (.list (.int .i64)) x0), (1, .dat (.int .i64) x1), (5, .om 0), (9, .dat (.list (.int .i64)) x9), (10, .dat (.int .i64) x10), (11, .dat (.int .i64) x11)], Go.V.look [(0, .mp (.int .i64) .bool x5)]⟩
def p95_0 : List Bool := [true, true, false, true, false]
theorem r95_0 (k : Nat) (rec : St → Option (Bool)) (v : (List Int) × Int × (List (Int × Bool)) × (List Int) × Int × Int) : roundF (E95 k) (S95 k) Try.f95 p95_0 [] rec (n95_0 v.1 v.2.1 v.2.2.1 v.2.2.2.1 v.2.2.2.2.1 v.2.2.2.2.2) = impl_isOrder.s0 k (fun a0 a1 a2 a3 a4 a5 => rec (n95_0 a0 a1 a2 a3 a4 a5)) v.1 v.2.1 v.2.2.1 v.2.2.2.1 v.2.2.2.2.1 v.2.2.2.2.2 := by
  kernel_rfl
theorem q95_0 (k : Nat) (n : Nat) : ∀ v : (List Int) × Int × (List (Int × Bool)) × (List Int) × Int × Int, loopF (E95 k) (S95 k) Try.f95 p95_0 [] n (n95_0 v.1 v.2.1 v.2.2.1 v.2.2.2.1 v.2.2.2.2.1 v.2.2.2.2.2) = impl_isOrder.l0 k n v.1 v.2.1 v.2.2.1 v.2.2.2.1 v.2.2.2.2.1 v.2.2.2.2.2 :=
  loopF_eq (E95 k) (S95 k) Try.f95 p95_0 [] (fun v : (List Int) × Int × (List (Int × Bool)) × (List Int) × Int × Int => n95_0 v.1 v.2.1 v.2.2.1 v.2.2.2.1 v.2.2.2.2.1 v.2.2.2.2.2) (fun rec v => impl_isOrder.s0 k (fun a0 a1 a2 a3 a4 a5 => rec (a0, a1, a2, a3, a4, a5)) v.1 v.2.1 v.2.2.1 v.2.2.2.1 v.2.2.2.2.1 v.2.2.2.2.2) (fun n v => impl_isOrder.l0 k n v.1 v.2.1 v.2.2.1 v.2.2.2.1 v.2.2.2.2.1 v.2.2.2.2.2) (fun _ => rfl) (fun _ _ => rfl) (fun rec v => r95_0 k rec v) n
theorem e95 (k : Nat) (x : dens (flatC (S95 k).ps)) : funK (E95 k) (S95 k) Try.f95 x = (S95 k).fn x := by
  have h : funK (E95 k) (S95 k) Try.f95 x = impl_isOrder.g k (fun a0 a1 a2 a3 a4 a5 => loopF (E95 k) (S95 k) Try.f95 p95_0 [] k (n95_0 a0 a1 a2 a3 a4 a5)) x.1 x.2 := by kernel_rfl
  rw [h]
  rw [show (fun a0 a1 a2 a3 a4 a5 => loopF (E95 k) (S95 k) Try.f95 p95_0 [] k (n95_0 a0 a1 a2 a3 a4 a5)) = impl_isOrder.l0 k k from funext fun a0 => funext fun a1 => funext fun a2 => funext fun a3 => funext fun a4 => funext fun a5 => q95_0 k k (a0, a1, a2, a3, a4, a5)]
  rfl
theorem M95 (k : Nat) : Meets Try.prog 95 (S95 k) := meets_of Try.func95 (by kernel_rfl) tbOk (orc_cons (M104 k) (orc_cons (M101 k) orc_nil)) mixOk (fun x y h => (e95 k x).trans h) rfl

/-! impl_AreJobs: function 49 -/
noncomputable def impl_AreJobs.s0 (k : Nat) (r0 : (List Int) → (List Int) → (List Int) → (List Int) → Int → Int → Option (Bool)) (x1_0 : List Int) (x1_1 : List Int) (x1_2 : List Int) (x28 : List Int) (x29 : Int) (x30 : Int) : Option (Bool) := if x30 < x29 then (if 0 ≤ x30 then (if x30 < (x28.length : Int) then ((impl_within.f (rd x28 x30) 1 60).bind fun t3 => if t3 = true then (if 0 ≤ x30 then (if x30 < (x1_0.length : Int) then ((impl_within.f (rd x1_0 x30) 1 20).bind fun t4 => if t4 = true then (if 0 ≤ x30 then (if x30 < (x1_2.length : Int) then ((impl_within.f (rd x1_2 x30) 1 (rd x28 x30)).bind fun t5 => if t5 = true then (r0 x1_0 x1_1 x1_2 x28 x29 (wrap64 (x30 + 1))) else (some false)) else (none)) else (none)) else (some false)) else (none)) else (none)) else (some false)) else (none)) else (none)) else (some true)
noncomputable def impl_AreJobs.l0 (k : Nat) : Nat → (List Int) → (List Int) → (List Int) → (List Int) → Int → Int → Option (Bool)
  | 0, _, _, _, _, _, _ => none
  | n + 1, x0, x1, x2, x3, x4, x5 => impl_AreJobs.s0 k (impl_AreJobs.l0 k n) x0 x1 x2 x3 x4 x5
noncomputable def impl_AreJobs.g (k : Nat) (r0 : (List Int) → (List Int) → (List Int) → (List Int) → Int → Int → Option (Bool)) (l0_0 : List Int) (l0_1 : List Int) (l0_2 : List Int) : Option (Bool) := (impl_Jobs_many.f l0_0 l0_1 l0_2).bind fun t1 => (impl_within.f t1 1 8).bind fun t2 => if t2 = true then (if (l0_1.length : Int) = (l0_0.length : Int) then (if (l0_2.length : Int) = (l0_0.length : Int) then (r0 l0_0 l0_1 l0_2 l0_1 (l0_1.length : Int) 0) else (some false)) else (some false)) else (some false)
noncomputable def impl_AreJobs.f (k : Nat) (l0_0 : List Int) (l0_1 : List Int) (l0_2 : List Int) : Option (Bool) := impl_AreJobs.g k (impl_AreJobs.l0 k k) l0_0 l0_1 l0_2
noncomputable def S49 (k : Nat) : Does := ⟨[(true, [.dat (.list (.int .i64)), .dat (.list (.int .i64)), .dat (.list (.int .i64))])], [(false, [.dat .bool])], fun x => impl_AreJobs.f k x.1 x.2.1 x.2.2⟩
noncomputable def E49 (k : Nat) : En := ⟨tb, orcOf [(96, S96 k), (104, S104 k)], lvOf [(0, [(1, []), (28, []), (29, []), (30, [])])], k, 0, lvOf [], []⟩
noncomputable def n49_0 (x1_0 : List Int) (x1_1 : List Int) (x1_2 : List Int) (x28 : List Int) (x29 : Int) (x30 : Int) : St := ⟨58, lookA [(1, .box 0 0), (28, .dat (.list (.int .i64)) x28), (29, .dat (.int .i64) x29), (30, .dat (.int .i64) x30)], Go.V.look [(0, .cells [.dat (.list (.int .i64)) x1_0, .dat (.list (.int .i64)) x1_1, .dat (.list (.int .i64)) x1_2])]⟩
def p49_0 : List Bool := [true, true, false, true, false]
theorem r49_0 (k : Nat) (rec : St → Option (Bool)) (v : (List Int) × (List Int) × (List Int) × (List Int) × Int × Int) : roundF (E49 k) (S49 k) Try.f49 p49_0 [] rec (n49_0 v.1 v.2.1 v.2.2.1 v.2.2.2.1 v.2.2.2.2.1 v.2.2.2.2.2) = impl_AreJobs.s0 k (fun a0 a1 a2 a3 a4 a5 => rec (n49_0 a0 a1 a2 a3 a4 a5)) v.1 v.2.1 v.2.2.1 v.2.2.2.1 v.2.2.2.2.1 v.2.2.2.2.2 := by
  kernel_rfl
theorem q49_0 (k : Nat) (n : Nat) : ∀ v : (List Int) × (List Int) × (List Int) × (List Int) × Int × Int, loopF (E49 k) (S49 k) Try.f49 p49_0 [] n (n49_0 v.1 v.2.1 v.2.2.1 v.2.2.2.1 v.2.2.2.2.1 v.2.2.2.2.2) = impl_AreJobs.l0 k n v.1 v.2.1 v.2.2.1 v.2.2.2.1 v.2.2.2.2.1 v.2.2.2.2.2 :=
  loopF_eq (E49 k) (S49 k) Try.f49 p49_0 [] (fun v : (List Int) × (List Int) × (List Int) × (List Int) × Int × Int => n49_0 v.1 v.2.1 v.2.2.1 v.2.2.2.1 v.2.2.2.2.1 v.2.2.2.2.2) (fun rec v => impl_AreJobs.s0 k (fun a0 a1 a2 a3 a4 a5 => rec (a0, a1, a2, a3, a4, a5)) v.1 v.2.1 v.2.2.1 v.2.2.2.1 v.2.2.2.2.1 v.2.2.2.2.2) (fun n v => impl_AreJobs.l0 k n v.1 v.2.1 v.2.2.1 v.2.2.2.1 v.2.2.2.2.1 v.2.2.2.2.2) (fun _ => rfl) (fun _ _ => rfl) (fun rec v => r49_0 k rec v) n
theorem e49 (k : Nat) (x : dens (flatC (S49 k).ps)) : funK (E49 k) (S49 k) Try.f49 x = (S49 k).fn x := by
  have h : funK (E49 k) (S49 k) Try.f49 x = impl_AreJobs.g k (fun a0 a1 a2 a3 a4 a5 => loopF (E49 k) (S49 k) Try.f49 p49_0 [] k (n49_0 a0 a1 a2 a3 a4 a5)) x.1 x.2.1 x.2.2 := by kernel_rfl
  rw [h]
  rw [show (fun a0 a1 a2 a3 a4 a5 => loopF (E49 k) (S49 k) Try.f49 p49_0 [] k (n49_0 a0 a1 a2 a3 a4 a5)) = impl_AreJobs.l0 k k from funext fun a0 => funext fun a1 => funext fun a2 => funext fun a3 => funext fun a4 => funext fun a5 => q49_0 k k (a0, a1, a2, a3, a4, a5)]
  rfl
theorem M49 (k : Nat) : Meets Try.prog 49 (S49 k) := meets_of Try.func49 (by kernel_rfl) tbOk (orc_cons (M96 k) (orc_cons (M104 k) orc_nil)) mixOk (fun x y h => (e49 k x).trans h) rfl

/-! impl_divisor: function 169 -/
noncomputable def impl_divisor.s0 (k : Nat) (r0 : Int → Int → Option (Int)) (x0 : Int) (x1 : Int) : Option (Int) := if x1 = 0 then (some x0) else (if x1 = 0 then (none) else (r0 x1 (Int.tmod x0 x1)))
noncomputable def impl_divisor.l0 (k : Nat) : Nat → Int → Int → Option (Int)
  | 0, _, _ => none
  | n + 1, x0, x1 => impl_divisor.s0 k (impl_divisor.l0 k n) x0 x1
noncomputable def impl_divisor.g (k : Nat) (r0 : Int → Int → Option (Int)) (a0 : Int) (a1 : Int) : Option (Int) := r0 a0 a1
noncomputable def impl_divisor.f (k : Nat) (a0 : Int) (a1 : Int) : Option (Int) := impl_divisor.g k (impl_divisor.l0 k k) a0 a1
noncomputable def S169 (k : Nat) : Does := ⟨[(false, [.dat (.int .i64)]), (false, [.dat (.int .i64)])], [(false, [.dat (.int .i64)])], fun x => impl_divisor.f k x.1 x.2⟩
noncomputable def E169 (k : Nat) : En := ⟨tb, orcOf [], lvOf [(0, [(0, []), (1, [])])], k, 0, lvOf [], []⟩
noncomputable def n169_0 (x0 : Int) (x1 : Int) : St := ⟨12, lookA [(0, .dat (.int .i64) x0), (1, .dat (.int .i64) x1)], Go.V.look []⟩
def p169_0 : List Bool := [true, false, false]
theorem r169_0 (k : Nat) (rec : St → Option (Int)) (v : Int × Int) : roundF (E169 k) (S169 k) Try.f169 p169_0 [] rec (n169_0 v.1 v.2) = impl_divisor.s0 k (fun a0 a1 => rec (n169_0 a0 a1)) v.1 v.2 := by
  kernel_rfl
theorem q169_0 (k : Nat) (n : Nat) : ∀ v : Int × Int, loopF (E169 k) (S169 k) Try.f169 p169_0 [] n (n169_0 v.1 v.2) = impl_divisor.l0 k n v.1 v.2 :=
  loopF_eq (E169 k) (S169 k) Try.f169 p169_0 [] (fun v : Int × Int => n169_0 v.1 v.2) (fun rec v => impl_divisor.s0 k (fun a0 a1 => rec (a0, a1)) v.1 v.2) (fun n v => impl_divisor.l0 k n v.1 v.2) (fun _ => rfl) (fun _ _ => rfl) (fun rec v => r169_0 k rec v) n
theorem e169 (k : Nat) (x : dens (flatC (S169 k).ps)) : funK (E169 k) (S169 k) Try.f169 x = (S169 k).fn x := by
  have h : funK (E169 k) (S169 k) Try.f169 x = impl_divisor.g k (fun a0 a1 => loopF (E169 k) (S169 k) Try.f169 p169_0 [] k (n169_0 a0 a1)) x.1 x.2 := by kernel_rfl
  rw [h]
  rw [show (fun a0 a1 => loopF (E169 k) (S169 k) Try.f169 p169_0 [] k (n169_0 a0 a1)) = impl_divisor.l0 k k from funext fun a0 => funext fun a1 => q169_0 k k (a0, a1)]
  rfl
theorem M169 (k : Nat) : Meets Try.prog 169 (S169 k) := meets_of Try.func169 (by kernel_rfl) tbOk orc_nil mixOk (fun x y h => (e169 k x).trans h) rfl

/-! impl_Tasks_multiple: function 149 -/
noncomputable def impl_Tasks_multiple.s0 (k : Nat) (r0 : Int → (List Int) → Int → Int → Option (Int)) (x3 : Int) (x7 : List Int) (x8 : Int) (x9 : Int) : Option (Int) := if x9 < x8 then (if 0 ≤ x9 then (if x9 < (x7.length : Int) then ((impl_divisor.f k x3 (rd x7 x9)).bind fun t1 => if t1 = 0 then (none) else (r0 (wrap64 ((wrap64 (Int.tdiv x3 t1)) * (rd x7 x9))) x7 x8 (wrap64 (x9 + 1)))) else (none)) else (none)) else (some x3)
noncomputable def impl_Tasks_multiple.l0 (k : Nat) : Nat → Int → (List Int) → Int → Int → Option (Int)
  | 0, _, _, _, _ => none
  | n + 1, x0, x1, x2, x3 => impl_Tasks_multiple.s0 k (impl_Tasks_multiple.l0 k n) x0 x1 x2 x3
noncomputable def impl_Tasks_multiple.g (k : Nat) (r0 : Int → (List Int) → Int → Int → Option (Int)) (l0_0 : List Int) : Option (Int) := r0 1 l0_0 (l0_0.length : Int) 0
noncomputable def impl_Tasks_multiple.f (k : Nat) (l0_0 : List Int) : Option (Int) := impl_Tasks_multiple.g k (impl_Tasks_multiple.l0 k k) l0_0
noncomputable def S149 (k : Nat) : Does := ⟨[(true, [.dat (.list (.int .i64))])], [(false, [.dat (.int .i64)])], fun x => impl_Tasks_multiple.f k x⟩
noncomputable def E149 (k : Nat) : En := ⟨tb, orcOf [(169, S169 k)], lvOf [(0, [(3, []), (7, []), (8, []), (9, [])])], k, 0, lvOf [], []⟩
noncomputable def n149_0 (x3 : Int) (x7 : List Int) (x8 : Int) (x9 : Int) : St := ⟨22, lookA [(3, .dat (.int .i64) x3), (7, .dat (.list (.int .i64)) x7), (8, .dat (.int .i64) x8), (9, .dat (.int .i64) x9)], Go.V.look []⟩
def p149_0 : List Bool := [true, true, false, true, false]
theorem r149_0 (k : Nat) (rec : St → Option (Int)) (v : Int × (List Int) × Int × Int) : roundF (E149 k) (S149 k) Try.f149 p149_0 [] rec (n149_0 v.1 v.2.1 v.2.2.1 v.2.2.2) = impl_Tasks_multiple.s0 k (fun a0 a1 a2 a3 => rec (n149_0 a0 a1 a2 a3)) v.1 v.2.1 v.2.2.1 v.2.2.2 := by
  kernel_rfl
theorem q149_0 (k : Nat) (n : Nat) : ∀ v : Int × (List Int) × Int × Int, loopF (E149 k) (S149 k) Try.f149 p149_0 [] n (n149_0 v.1 v.2.1 v.2.2.1 v.2.2.2) = impl_Tasks_multiple.l0 k n v.1 v.2.1 v.2.2.1 v.2.2.2 :=
  loopF_eq (E149 k) (S149 k) Try.f149 p149_0 [] (fun v : Int × (List Int) × Int × Int => n149_0 v.1 v.2.1 v.2.2.1 v.2.2.2) (fun rec v => impl_Tasks_multiple.s0 k (fun a0 a1 a2 a3 => rec (a0, a1, a2, a3)) v.1 v.2.1 v.2.2.1 v.2.2.2) (fun n v => impl_Tasks_multiple.l0 k n v.1 v.2.1 v.2.2.1 v.2.2.2) (fun _ => rfl) (fun _ _ => rfl) (fun rec v => r149_0 k rec v) n
theorem e149 (k : Nat) (x : dens (flatC (S149 k).ps)) : funK (E149 k) (S149 k) Try.f149 x = (S149 k).fn x := by
  have h : funK (E149 k) (S149 k) Try.f149 x = impl_Tasks_multiple.g k (fun a0 a1 a2 a3 => loopF (E149 k) (S149 k) Try.f149 p149_0 [] k (n149_0 a0 a1 a2 a3)) x := by kernel_rfl
  rw [h]
  rw [show (fun a0 a1 a2 a3 => loopF (E149 k) (S149 k) Try.f149 p149_0 [] k (n149_0 a0 a1 a2 a3)) = impl_Tasks_multiple.l0 k k from funext fun a0 => funext fun a1 => funext fun a2 => funext fun a3 => q149_0 k k (a0, a1, a2, a3)]
  rfl
theorem M149 (k : Nat) : Meets Try.prog 149 (S149 k) := meets_of Try.func149 (by kernel_rfl) tbOk (orc_cons (M169 k) orc_nil) mixOk (fun x y h => (e149 k x).trans h) rfl

/-! impl_Jobs_whole: function 114 -/
noncomputable def impl_Jobs_whole.f (k : Nat) (l0_0 : List Int) (l0_1 : List Int) (l0_2 : List Int) : Option (Int) := (impl_Tasks_multiple.f k l0_1).bind fun t1 => some t1
noncomputable def S114 (k : Nat) : Does := ⟨[(true, [.dat (.list (.int .i64)), .dat (.list (.int .i64)), .dat (.list (.int .i64))])], [(false, [.dat (.int .i64)])], fun x => impl_Jobs_whole.f k x.1 x.2.1 x.2.2⟩
noncomputable def E114 (k : Nat) : En := ⟨tb, orcOf [(149, S149 k)], lvOf [], k, 0, lvOf [], []⟩
theorem e114 (k : Nat) (x : dens (flatC (S114 k).ps)) : funK (E114 k) (S114 k) Try.f114 x = (S114 k).fn x := by
  kernel_rfl
theorem M114 (k : Nat) : Meets Try.prog 114 (S114 k) := meets_of Try.func114 (by kernel_rfl) tbOk (orc_cons (M149 k) orc_nil) mixOk (fun x y h => (e114 k x).trans h) rfl

/-! impl_jobsCode: function 94 -/
noncomputable def impl_jobsCode.f (k : Nat) (l0_0 : List Int) (l0_1 : List Int) (l0_2 : List Int) (a1 : Bool) (a2 : Bool) : Option (Int) := (impl_AreJobs.f k l0_0 l0_1 l0_2).bind fun t1 => if (!decide (t1 = true)) = true then (some 1) else (if (!decide (a1 = true)) = true then (some 2) else (if a2 = true then ((impl_Jobs_whole.f k l0_0 l0_1 l0_2).bind fun t2 => if (decide (240 < t2)) = true then (some 3) else (some 0)) else (some 0)))
noncomputable def S94 (k : Nat) : Does := ⟨[(true, [.dat (.list (.int .i64)), .dat (.list (.int .i64)), .dat (.list (.int .i64))]), (false, [.dat .bool]), (false, [.dat .bool])], [(false, [.dat (.int .i64)])], fun x => impl_jobsCode.f k x.1 x.2.1 x.2.2.1 x.2.2.2.1 x.2.2.2.2⟩
noncomputable def E94 (k : Nat) : En := ⟨tb, orcOf [(49, S49 k), (114, S114 k)], lvOf [], k, 0, lvOf [], []⟩
theorem e94 (k : Nat) (x : dens (flatC (S94 k).ps)) : funK (E94 k) (S94 k) Try.f94 x = (S94 k).fn x := by
  kernel_rfl
theorem M94 (k : Nat) : Meets Try.prog 94 (S94 k) := meets_of Try.func94 (by kernel_rfl) tbOk (orc_cons (M49 k) (orc_cons (M114 k) orc_nil)) mixOk (fun x y h => (e94 k x).trans h) rfl

/-! impl_Jobs_answer: function 97 -/
noncomputable def impl_Jobs_answer.s1 (k : Nat) (r0 : (List Int) → (List Int) → (List Int) → (List Int) → Int → Int → Option (Int)) (r1 : (List Int) → (List Int) → (List Int) → (List Int) → Int → Int → Int → (List Int) → Int → Int → Option (Int)) (x1 : List Int) (x2_0 : List Int) (x2_1 : List Int) (x2_2 : List Int) (x5 : Int) (x6 : Int) (x7 : Int) (x30 : List Int) (x31 : Int) (x32 : Int) : Option (Int) := if x32 < x31 then (if 0 ≤ x32 then (if x32 < (x30.length : Int) then (if 0 ≤ (rd x30 x32) then (if (rd x30 x32) < (x2_0.length : Int) then (if 0 ≤ (rd x30 x32) then (if (rd x30 x32) < (x2_1.length : Int) then (if 0 ≤ (rd x30 x32) then (if (rd x30 x32) < (x2_1.length : Int) then (if (rd x2_1 (rd x30 x32)) = 0 then (none) else (r1 x1 x2_0 x2_1 x2_2 x5 x6 (wrap64 (x7 + (wrap64 ((rd x2_0 (rd x30 x32)) * (wrap64 (Int.tdiv (wrap64 ((wrap64 (x6 + (rd x2_1 (rd x30 x32)))) - 1)) (rd x2_1 (rd x30 x32)))))))) x30 x31 (wrap64 (x32 + 1)))) else (none)) else (none)) else (none)) else (none)) else (none)) else (none)) else (none)) else (none)) else (if 0 ≤ x5 then (if x5 < (x2_2.length : Int) then (if (decide ((rd x2_2 x5) < x7)) = true then (some (-1)) else (if (decide (x7 = x6)) = true then (some x6) else (r0 x1 x2_0 x2_1 x2_2 x5 x7))) else (none)) else (none))
noncomputable def impl_Jobs_answer.l1 (k : Nat) (r0 : (List Int) → (List Int) → (List Int) → (List Int) → Int → Int → Option (Int)) : Nat → (List Int) → (List Int) → (List Int) → (List Int) → Int → Int → Int → (List Int) → Int → Int → Option (Int)
  | 0, _, _, _, _, _, _, _, _, _, _ => none
  | n + 1, x0, x1, x2, x3, x4, x5, x6, x7, x8, x9 => impl_Jobs_answer.s1 k r0 (impl_Jobs_answer.l1 k r0 n) x0 x1 x2 x3 x4 x5 x6 x7 x8 x9
noncomputable def impl_Jobs_answer.s0 (k : Nat) (r0 : (List Int) → (List Int) → (List Int) → (List Int) → Int → Int → Option (Int)) (r1 : (List Int) → (List Int) → (List Int) → (List Int) → Int → Int → Int → (List Int) → Int → Int → Option (Int)) (x1 : List Int) (x2_0 : List Int) (x2_1 : List Int) (x2_2 : List Int) (x5 : Int) (x6 : Int) : Option (Int) := if 0 ≤ x5 then (if x5 < (x2_0.length : Int) then (if 0 ≤ (wrap64 ((x1.length : Int) - 1)) then (if (wrap64 ((x1.length : Int) - 1)) ≤ (x1.length : Int) then (r1 x1 x2_0 x2_1 x2_2 x5 x6 (rd x2_0 x5) (x1.take (wrap64 ((x1.length : Int) - 1)).toNat) ((x1.take (wrap64 ((x1.length : Int) - 1)).toNat).length : Int) 0) else (none)) else (none)) else (none)) else (none)
noncomputable def impl_Jobs_answer.l0 (k : Nat) : Nat → (List Int) → (List Int) → (List Int) → (List Int) → Int → Int → Option (Int)
  | 0, _, _, _, _, _, _ => none
  | n + 1, x0, x1, x2, x3, x4, x5 => impl_Jobs_answer.s0 k (impl_Jobs_answer.l0 k n) (impl_Jobs_answer.l1 k (impl_Jobs_answer.l0 k n) k) x0 x1 x2 x3 x4 x5
noncomputable def impl_Jobs_answer.g (k : Nat) (r0 : (List Int) → (List Int) → (List Int) → (List Int) → Int → Int → Option (Int)) (l0_0 : List Int) (l0_1 : List Int) (l0_2 : List Int) (l1 : List Int) : Option (Int) := if 0 ≤ (wrap64 ((l1.length : Int) - 1)) then (if (wrap64 ((l1.length : Int) - 1)) < (l1.length : Int) then (if 0 ≤ (rd l1 (wrap64 ((l1.length : Int) - 1))) then (if (rd l1 (wrap64 ((l1.length : Int) - 1))) < (l0_0.length : Int) then (r0 l1 l0_0 l0_1 l0_2 (rd l1 (wrap64 ((l1.length : Int) - 1))) (rd l0_0 (rd l1 (wrap64 ((l1.length : Int) - 1))))) else (none)) else (none)) else (none)) else (none)
noncomputable def impl_Jobs_answer.f (k : Nat) (l0_0 : List Int) (l0_1 : List Int) (l0_2 : List Int) (l1 : List Int) : Option (Int) := impl_Jobs_answer.g k (impl_Jobs_answer.l0 k k) l0_0 l0_1 l0_2 l1
noncomputable def S97 (k : Nat) : Does := ⟨[(true, [.dat (.list (.int .i64)), .dat (.list (.int .i64)), .dat (.list (.int .i64))]), (false, [.dat (.list (.int .i64))])], [(false, [.dat (.int .i64)])], fun x => impl_Jobs_answer.f k x.1 x.2.1 x.2.2.1 x.2.2.2⟩
noncomputable def E97 (k : Nat) : En := ⟨tb, orcOf [], lvOf [(0, [(1, []), (2, []), (5, []), (6, [])]), (2, [(1, []), (2, []), (5, []), (6, []), (7, []), (30, []), (31, []), (32, [])])], k, 0, lvOf [], []⟩
noncomputable def n97_0 (x1 : List Int) (x2_0 : List Int) (x2_1 : List Int) (x2_2 : List Int) (x5 : Int) (x6 : Int) : St := ⟨73, lookA [(1, .dat (.list (.int .i64)) x1), (2, .box 0 0), (5, .dat (.int .i64) x5), (6, .dat (.int .i64) x6)], Go.V.look [(0, .cells [.dat (.list (.int .i64)) x2_0, .dat (.list (.int .i64)) x2_1, .dat (.list (.int .i64)) x2_2])]⟩
def p97_0 : List Bool := [true, true, true, false]
noncomputable def n97_1 (x1 : List Int) (x2_0 : List Int) (x2_1 : List Int) (x2_2 : List Int) (x5 : Int) (x6 : Int) (x7 : Int) (x30 : List Int) (x31 : Int) (x32 : Int) : St := ⟨73, lookA [(1, .dat (.list (.int .i64)) x1), (2, .box 0 0), (5, .dat (.int .i64) x5), (6, .dat (.int .i64) x6), (7, .dat (.int .i64) x7), (30, .dat (.list (.int .i64)) x30), (31, .dat (.int .i64) x31), (32, .dat (.int .i64) x32)], Go.V.look [(0, .cells [.dat (.list (.int .i64)) x2_0, .dat (.list (.int .i64)) x2_1, .dat (.list (.int .i64)) x2_2])]⟩
def p97_1 : List Bool := [true, true, true, false, false, false, true, false, true, false]
theorem r97_1 (k : Nat) (R0 : St → Option (Int)) (rec : St → Option (Int)) (v : (List Int) × (List Int) × (List Int) × (List Int) × Int × Int × Int × (List Int) × Int × Int) : roundF (E97 k) (S97 k) Try.f97 p97_1 [R0] rec (n97_1 v.1 v.2.1 v.2.2.1 v.2.2.2.1 v.2.2.2.2.1 v.2.2.2.2.2.1 v.2.2.2.2.2.2.1 v.2.2.2.2.2.2.2.1 v.2.2.2.2.2.2.2.2.1 v.2.2.2.2.2.2.2.2.2) = impl_Jobs_answer.s1 k (fun a0 a1 a2 a3 a4 a5 => R0 (n97_0 a0 a1 a2 a3 a4 a5)) (fun a0 a1 a2 a3 a4 a5 a6 a7 a8 a9 => rec (n97_1 a0 a1 a2 a3 a4 a5 a6 a7 a8 a9)) v.1 v.2.1 v.2.2.1 v.2.2.2.1 v.2.2.2.2.1 v.2.2.2.2.2.1 v.2.2.2.2.2.2.1 v.2.2.2.2.2.2.2.1 v.2.2.2.2.2.2.2.2.1 v.2.2.2.2.2.2.2.2.2 := by
  kernel_rfl
theorem q97_1 (k : Nat) (R0 : St → Option (Int)) (n : Nat) : ∀ v : (List Int) × (List Int) × (List Int) × (List Int) × Int × Int × Int × (List Int) × Int × Int, loopF (E97 k) (S97 k) Try.f97 p97_1 [R0] n (n97_1 v.1 v.2.1 v.2.2.1 v.2.2.2.1 v.2.2.2.2.1 v.2.2.2.2.2.1 v.2.2.2.2.2.2.1 v.2.2.2.2.2.2.2.1 v.2.2.2.2.2.2.2.2.1 v.2.2.2.2.2.2.2.2.2) = impl_Jobs_answer.l1 k (fun a0 a1 a2 a3 a4 a5 => R0 (n97_0 a0 a1 a2 a3 a4 a5)) n v.1 v.2.1 v.2.2.1 v.2.2.2.1 v.2.2.2.2.1 v.2.2.2.2.2.1 v.2.2.2.2.2.2.1 v.2.2.2.2.2.2.2.1 v.2.2.2.2.2.2.2.2.1 v.2.2.2.2.2.2.2.2.2 :=
  loopF_eq (E97 k) (S97 k) Try.f97 p97_1 [R0] (fun v : (List Int) × (List Int) × (List Int) × (List Int) × Int × Int × Int × (List Int) × Int × Int => n97_1 v.1 v.2.1 v.2.2.1 v.2.2.2.1 v.2.2.2.2.1 v.2.2.2.2.2.1 v.2.2.2.2.2.2.1 v.2.2.2.2.2.2.2.1 v.2.2.2.2.2.2.2.2.1 v.2.2.2.2.2.2.2.2.2) (fun rec v => impl_Jobs_answer.s1 k (fun a0 a1 a2 a3 a4 a5 => R0 (n97_0 a0 a1 a2 a3 a4 a5)) (fun a0 a1 a2 a3 a4 a5 a6 a7 a8 a9 => rec (a0, a1, a2, a3, a4, a5, a6, a7, a8, a9)) v.1 v.2.1 v.2.2.1 v.2.2.2.1 v.2.2.2.2.1 v.2.2.2.2.2.1 v.2.2.2.2.2.2.1 v.2.2.2.2.2.2.2.1 v.2.2.2.2.2.2.2.2.1 v.2.2.2.2.2.2.2.2.2) (fun n v => impl_Jobs_answer.l1 k (fun a0 a1 a2 a3 a4 a5 => R0 (n97_0 a0 a1 a2 a3 a4 a5)) n v.1 v.2.1 v.2.2.1 v.2.2.2.1 v.2.2.2.2.1 v.2.2.2.2.2.1 v.2.2.2.2.2.2.1 v.2.2.2.2.2.2.2.1 v.2.2.2.2.2.2.2.2.1 v.2.2.2.2.2.2.2.2.2) (fun _ => rfl) (fun _ _ => rfl) (fun rec v => r97_1 k R0 rec v) n
theorem r97_0 (k : Nat) (rec : St → Option (Int)) (G1 : (List Int) → (List Int) → (List Int) → (List Int) → Int → Int → Int → (List Int) → Int → Int → Option (Int)) (h1 : ∀ a0 a1 a2 a3 a4 a5 a6 a7 a8 a9, loopF (E97 k) (S97 k) Try.f97 p97_1 [rec] k (n97_1 a0 a1 a2 a3 a4 a5 a6 a7 a8 a9) = G1 a0 a1 a2 a3 a4 a5 a6 a7 a8 a9) (v : (List Int) × (List Int) × (List Int) × (List Int) × Int × Int) : roundF (E97 k) (S97 k) Try.f97 p97_0 [] rec (n97_0 v.1 v.2.1 v.2.2.1 v.2.2.2.1 v.2.2.2.2.1 v.2.2.2.2.2) = impl_Jobs_answer.s0 k (fun a0 a1 a2 a3 a4 a5 => rec (n97_0 a0 a1 a2 a3 a4 a5)) G1 v.1 v.2.1 v.2.2.1 v.2.2.2.1 v.2.2.2.2.1 v.2.2.2.2.2 := by
  obtain rfl : (fun a0 a1 a2 a3 a4 a5 a6 a7 a8 a9 => loopF (E97 k) (S97 k) Try.f97 p97_1 [rec] k (n97_1 a0 a1 a2 a3 a4 a5 a6 a7 a8 a9)) = G1 := funext fun a0 => funext fun a1 => funext fun a2 => funext fun a3 => funext fun a4 => funext fun a5 => funext fun a6 => funext fun a7 => funext fun a8 => funext fun a9 => h1 a0 a1 a2 a3 a4 a5 a6 a7 a8 a9
  kernel_rfl
theorem q97_0 (k : Nat) (n : Nat) : ∀ v : (List Int) × (List Int) × (List Int) × (List Int) × Int × Int, loopF (E97 k) (S97 k) Try.f97 p97_0 [] n (n97_0 v.1 v.2.1 v.2.2.1 v.2.2.2.1 v.2.2.2.2.1 v.2.2.2.2.2) = impl_Jobs_answer.l0 k n v.1 v.2.1 v.2.2.1 v.2.2.2.1 v.2.2.2.2.1 v.2.2.2.2.2 :=
  loopF_eq (E97 k) (S97 k) Try.f97 p97_0 [] (fun v : (List Int) × (List Int) × (List Int) × (List Int) × Int × Int => n97_0 v.1 v.2.1 v.2.2.1 v.2.2.2.1 v.2.2.2.2.1 v.2.2.2.2.2) (fun rec v => impl_Jobs_answer.s0 k (fun a0 a1 a2 a3 a4 a5 => rec (a0, a1, a2, a3, a4, a5)) (impl_Jobs_answer.l1 k (fun a0 a1 a2 a3 a4 a5 => rec (a0, a1, a2, a3, a4, a5)) k) v.1 v.2.1 v.2.2.1 v.2.2.2.1 v.2.2.2.2.1 v.2.2.2.2.2) (fun n v => impl_Jobs_answer.l0 k n v.1 v.2.1 v.2.2.1 v.2.2.2.1 v.2.2.2.2.1 v.2.2.2.2.2) (fun _ => rfl) (fun _ _ => rfl) (fun rec v => r97_0 k rec _ (fun a0 a1 a2 a3 a4 a5 a6 a7 a8 a9 => q97_1 k rec k (a0, a1, a2, a3, a4, a5, a6, a7, a8, a9)) v) n
theorem e97 (k : Nat) (x : dens (flatC (S97 k).ps)) : funK (E97 k) (S97 k) Try.f97 x = (S97 k).fn x := by
  have h : funK (E97 k) (S97 k) Try.f97 x = impl_Jobs_answer.g k (fun a0 a1 a2 a3 a4 a5 => loopF (E97 k) (S97 k) Try.f97 p97_0 [] k (n97_0 a0 a1 a2 a3 a4 a5)) x.1 x.2.1 x.2.2.1 x.2.2.2 := by kernel_rfl
  rw [h]
  rw [show (fun a0 a1 a2 a3 a4 a5 => loopF (E97 k) (S97 k) Try.f97 p97_0 [] k (n97_0 a0 a1 a2 a3 a4 a5)) = impl_Jobs_answer.l0 k k from funext fun a0 => funext fun a1 => funext fun a2 => funext fun a3 => funext fun a4 => funext fun a5 => q97_0 k k (a0, a1, a2, a3, a4, a5)]
  rfl
theorem M97 (k : Nat) : Meets Try.prog 97 (S97 k) := meets_of Try.func97 (by kernel_rfl) tbOk orc_nil mixOk (fun x y h => (e97 k x).trans h) rfl

/-! impl_AnswersOf: function 17 -/
noncomputable def impl_AnswersOf.s0 (k : Nat) (r0 : (List Int) → (List Int) → (List Int) → (List Int) → (List Int) → (List Int) → Int → Int → Option ((List Int) × Int)) (x1 : List Int) (x2_0 : List Int) (x2_1 : List Int) (x2_2 : List Int) (x7 : List Int) (x22 : List Int) (x23 : Int) (x24 : Int) : Option ((List Int) × Int) := if x24 < x23 then (if 0 ≤ x24 then (if x24 < (x22.length : Int) then (if 0 ≤ (wrap64 (x24 + 1)) then (if (wrap64 (x24 + 1)) ≤ (x1.length : Int) then ((impl_Jobs_answer.f k x2_0 x2_1 x2_2 (x1.take (wrap64 (x24 + 1)).toNat)).bind fun t5 => if 0 ≤ (rd x22 x24) then (if (rd x22 x24) < (x7.length : Int) then (r0 x1 x2_0 x2_1 x2_2 (x7.set (rd x22 x24).toNat t5) x22 x23 (wrap64 (x24 + 1))) else (none)) else (none)) else (none)) else (none)) else (none)) else (none)) else (some (x7, 0))
noncomputable def impl_AnswersOf.l0 (k : Nat) : Nat → (List Int) → (List Int) → (List Int) → (List Int) → (List Int) → (List Int) → Int → Int → Option ((List Int) × Int)
  | 0, _, _, _, _, _, _, _, _ => none
  | n + 1, x0, x1, x2, x3, x4, x5, x6, x7 => impl_AnswersOf.s0 k (impl_AnswersOf.l0 k n) x0 x1 x2 x3 x4 x5 x6 x7
noncomputable def impl_AnswersOf.g (k : Nat) (r0 : (List Int) → (List Int) → (List Int) → (List Int) → (List Int) → (List Int) → Int → Int → Option ((List Int) × Int)) (l0_0 : List Int) (l0_1 : List Int) (l0_2 : List Int) (l1 : List Int) : Option ((List Int) × Int) := (impl_Jobs_many.f l0_0 l0_1 l0_2).bind fun t1 => (impl_isOrder.f k l1 t1).bind fun t2 => (impl_jobsCode.f k l0_0 l0_1 l0_2 t2 false).bind fun t3 => if t3 = 0 then ((impl_Jobs_many.f l0_0 l0_1 l0_2).bind fun t4 => if 0 ≤ t4 then (if t4 ≤ t4 then (if t4.toNat ≤ 1099511627776 then (r0 l1 l0_0 l0_1 l0_2 (List.replicate t4.toNat (0 : Int)) l1 (l1.length : Int) 0) else (none)) else (none)) else (none)) else (some ([], t3))
noncomputable def impl_AnswersOf.f (k : Nat) (l0_0 : List Int) (l0_1 : List Int) (l0_2 : List Int) (l1 : List Int) : Option ((List Int) × Int) := impl_AnswersOf.g k (impl_AnswersOf.l0 k k) l0_0 l0_1 l0_2 l1
noncomputable def S17 (k : Nat) : Does := ⟨[(true, [.dat (.list (.int .i64)), .dat (.list (.int .i64)), .dat (.list (.int .i64))]), (false, [.dat (.list (.int .i64))])], [(false, [.own 2 (.int .i64)]), (false, [.dat (.int .i64)])], fun x => impl_AnswersOf.f k x.1 x.2.1 x.2.2.1 x.2.2.2⟩
noncomputable def E17 (k : Nat) : En := ⟨tb, orcOf [(96, S96 k), (95, S95 k), (94, S94 k), (97, S97 k)], lvOf [(0, [(1, []), (2, []), (7, []), (22, []), (23, []), (24, [])])], k, 0, lvOf [], []⟩
noncomputable def n17_0 (x1 : List Int) (x2_0 : List Int) (x2_1 : List Int) (x2_2 : List Int) (x7 : List Int) (x22 : List Int) (x23 : Int) (x24 : Int) : St := ⟨40, lookA [(1, .dat (.list (.int .i64)) x1), (2, .box 0 0), (7, .own 1), (22, .dat (.list (.int .i64)) x22), (23, .dat (.int .i64) x23), (24, .dat (.int .i64) x24)], Go.V.look [(0, .cells [.dat (.list (.int .i64)) x2_0, .dat (.list (.int .i64)) x2_1, .dat (.list (.int .i64)) x2_2]), (1, .flat 2 (.int .i64) x7)]⟩
def p17_0 : List Bool := [true, true, true, false, true, false]
theorem r17_0 (k : Nat) (rec : St → Option ((List Int) × Int)) (v : (List Int) × (List Int) × (List Int) × (List Int) × (List Int) × (List Int) × Int × Int) : roundF (E17 k) (S17 k) Try.f17 p17_0 [] rec (n17_0 v.1 v.2.1 v.2.2.1 v.2.2.2.1 v.2.2.2.2.1 v.2.2.2.2.2.1 v.2.2.2.2.2.2.1 v.2.2.2.2.2.2.2) = impl_AnswersOf.s0 k (fun a0 a1 a2 a3 a4 a5 a6 a7 => rec (n17_0 a0 a1 a2 a3 a4 a5 a6 a7)) v.1 v.2.1 v.2.2.1 v.2.2.2.1 v.2.2.2.2.1 v.2.2.2.2.2.1 v.2.2.2.2.2.2.1 v.2.2.2.2.2.2.2 := by
  kernel_rfl
theorem q17_0 (k : Nat) (n : Nat) : ∀ v : (List Int) × (List Int) × (List Int) × (List Int) × (List Int) × (List Int) × Int × Int, loopF (E17 k) (S17 k) Try.f17 p17_0 [] n (n17_0 v.1 v.2.1 v.2.2.1 v.2.2.2.1 v.2.2.2.2.1 v.2.2.2.2.2.1 v.2.2.2.2.2.2.1 v.2.2.2.2.2.2.2) = impl_AnswersOf.l0 k n v.1 v.2.1 v.2.2.1 v.2.2.2.1 v.2.2.2.2.1 v.2.2.2.2.2.1 v.2.2.2.2.2.2.1 v.2.2.2.2.2.2.2 :=
  loopF_eq (E17 k) (S17 k) Try.f17 p17_0 [] (fun v : (List Int) × (List Int) × (List Int) × (List Int) × (List Int) × (List Int) × Int × Int => n17_0 v.1 v.2.1 v.2.2.1 v.2.2.2.1 v.2.2.2.2.1 v.2.2.2.2.2.1 v.2.2.2.2.2.2.1 v.2.2.2.2.2.2.2) (fun rec v => impl_AnswersOf.s0 k (fun a0 a1 a2 a3 a4 a5 a6 a7 => rec (a0, a1, a2, a3, a4, a5, a6, a7)) v.1 v.2.1 v.2.2.1 v.2.2.2.1 v.2.2.2.2.1 v.2.2.2.2.2.1 v.2.2.2.2.2.2.1 v.2.2.2.2.2.2.2) (fun n v => impl_AnswersOf.l0 k n v.1 v.2.1 v.2.2.1 v.2.2.2.1 v.2.2.2.2.1 v.2.2.2.2.2.1 v.2.2.2.2.2.2.1 v.2.2.2.2.2.2.2) (fun _ => rfl) (fun _ _ => rfl) (fun rec v => r17_0 k rec v) n
theorem e17 (k : Nat) (x : dens (flatC (S17 k).ps)) : funK (E17 k) (S17 k) Try.f17 x = (S17 k).fn x := by
  have h : funK (E17 k) (S17 k) Try.f17 x = impl_AnswersOf.g k (fun a0 a1 a2 a3 a4 a5 a6 a7 => loopF (E17 k) (S17 k) Try.f17 p17_0 [] k (n17_0 a0 a1 a2 a3 a4 a5 a6 a7)) x.1 x.2.1 x.2.2.1 x.2.2.2 := by kernel_rfl
  rw [h]
  rw [show (fun a0 a1 a2 a3 a4 a5 a6 a7 => loopF (E17 k) (S17 k) Try.f17 p17_0 [] k (n17_0 a0 a1 a2 a3 a4 a5 a6 a7)) = impl_AnswersOf.l0 k k from funext fun a0 => funext fun a1 => funext fun a2 => funext fun a3 => funext fun a4 => funext fun a5 => funext fun a6 => funext fun a7 => q17_0 k k (a0, a1, a2, a3, a4, a5, a6, a7)]
  rfl
theorem M17 (k : Nat) : Meets Try.prog 17 (S17 k) := meets_of Try.func17 (by kernel_rfl) tbOk (orc_cons (M96 k) (orc_cons (M95 k) (orc_cons (M94 k) (orc_cons (M97 k) orc_nil)))) mixOk (fun x y h => (e17 k x).trans h) rfl

/-! spec_l01Order: function 93 -/
noncomputable def spec_l01Order.s0 (k : Nat) (r0 : (List Int) → Int → (List Bool) → Int → Option (Bool)) (x0 : List Int) (x1 : Int) (x5 : List Bool) (x6 : Int) : Option (Bool) := if x6 < (x0.length : Int) then (if 0 ≤ x6 then (if x6 < (x0.length : Int) then ((spec_l01In.f (rd x0 x6) 0 (wrap64 (x1 - 1))).bind fun t1 => if t1 = true then (if 0 ≤ x6 then (if x6 < (x0.length : Int) then (if 0 ≤ (rd x0 x6) then (if (rd x0 x6) < (x5.length : Int) then (if (rdOf false x5 (rd x0 x6)) = true then (some false) else (if 0 ≤ x6 then (if x6 < (x0.length : Int) then (if 0 ≤ (rd x0 x6) then (if (rd x0 x6) < (x5.length : Int) then (r0 x0 x1 (x5.set (rd x0 x6).toNat true) (wrap64 (x6 + 1))) else (none)) else (none)) else (none)) else (none))) else (none)) else (none)) else (none)) else (none)) else (some false)) else (none)) else (none)) else (some (decide ((x0.length : Int) = x1)))
noncomputable def spec_l01Order.l0 (k : Nat) : Nat → (List Int) → Int → (List Bool) → Int → Option (Bool)
  | 0, _, _, _, _ => none
  | n + 1, x0, x1, x2, x3 => spec_l01Order.s0 k (spec_l01Order.l0 k n) x0 x1 x2 x3
noncomputable def spec_l01Order.g (k : Nat) (r0 : (List Int) → Int → (List Bool) → Int → Option (Bool)) (l0 : List Int) (a1 : Int) : Option (Bool) := if 0 ≤ a1 then (if a1 ≤ a1 then (if a1.toNat ≤ 1099511627776 then (r0 l0 a1 (List.replicate a1.toNat (false : Bool)) 0) else (none)) else (none)) else (none)
noncomputable def spec_l01Order.f (k : Nat) (l0 : List Int) (a1 : Int) : Option (Bool) := spec_l01Order.g k (spec_l01Order.l0 k k) l0 a1
noncomputable def S93 (k : Nat) : Does := ⟨[(false, [.dat (.list (.int .i64))]), (false, [.dat (.int .i64)])], [(false, [.dat .bool])], fun x => spec_l01Order.f k x.1 x.2⟩
noncomputable def E93 (k : Nat) : En := ⟨tb, orcOf [(99, S99 k)], lvOf [(0, [(0, []), (1, []), (5, []), (6, [])])], k, 0, lvOf [], []⟩
noncomputable def n93_0 (x0 : List Int) (x1 : Int) (x5 : List Bool) (x6 : Int) : St := ⟨42, lookA [(0, .dat (.list (.int .i64)) x0), (1, .dat (.int .i64) x1), (5, .own 0), (6, .dat (.int .i64) x6)], Go.V.look [(0, .flat 4 .bool x5)]⟩
def p93_0 : List Bool := [true, true, false, true, false]
theorem r93_0 (k : Nat) (rec : St → Option (Bool)) (v : (List Int) × Int × (List Bool) × Int) : roundF (E93 k) (S93 k) Try.f93 p93_0 [] rec (n93_0 v.1 v.2.1 v.2.2.1 v.2.2.2) = spec_l01Order.s0 k (fun a0 a1 a2 a3 => rec (n93_0 a0 a1 a2 a3)) v.1 v.2.1 v.2.2.1 v.2.2.2 := by
  kernel_rfl
theorem q93_0 (k : Nat) (n : Nat) : ∀ v : (List Int) × Int × (List Bool) × Int, loopF (E93 k) (S93 k) Try.f93 p93_0 [] n (n93_0 v.1 v.2.1 v.2.2.1 v.2.2.2) = spec_l01Order.l0 k n v.1 v.2.1 v.2.2.1 v.2.2.2 :=
  loopF_eq (E93 k) (S93 k) Try.f93 p93_0 [] (fun v : (List Int) × Int × (List Bool) × Int => n93_0 v.1 v.2.1 v.2.2.1 v.2.2.2) (fun rec v => spec_l01Order.s0 k (fun a0 a1 a2 a3 => rec (a0, a1, a2, a3)) v.1 v.2.1 v.2.2.1 v.2.2.2) (fun n v => spec_l01Order.l0 k n v.1 v.2.1 v.2.2.1 v.2.2.2) (fun _ => rfl) (fun _ _ => rfl) (fun rec v => r93_0 k rec v) n
theorem e93 (k : Nat) (x : dens (flatC (S93 k).ps)) : funK (E93 k) (S93 k) Try.f93 x = (S93 k).fn x := by
  have h : funK (E93 k) (S93 k) Try.f93 x = spec_l01Order.g k (fun a0 a1 a2 a3 => loopF (E93 k) (S93 k) Try.f93 p93_0 [] k (n93_0 a0 a1 a2 a3)) x.1 x.2 := by kernel_rfl
  rw [h]
  rw [show (fun a0 a1 a2 a3 => loopF (E93 k) (S93 k) Try.f93 p93_0 [] k (n93_0 a0 a1 a2 a3)) = spec_l01Order.l0 k k from funext fun a0 => funext fun a1 => funext fun a2 => funext fun a3 => q93_0 k k (a0, a1, a2, a3)]
  rfl
theorem M93 (k : Nat) : Meets Try.prog 93 (S93 k) := meets_of Try.func93 (by kernel_rfl) tbOk (orc_cons (M99 k) orc_nil) mixOk (fun x y h => (e93 k x).trans h) rfl

/-! spec_AnswersOf: function 14 -/
noncomputable def spec_AnswersOf.s2 (k : Nat) (r0 : (List Int) → (List Int) → (List Int) → (List Int) → (List Int) → Int → Option ((List Int) × Int)) (r1 : (List Int) → (List Int) → (List Int) → (List Int) → (List Int) → Int → Int → Int → Option ((List Int) × Int)) (r2 : (List Int) → (List Int) → (List Int) → (List Int) → (List Int) → Int → Int → Int → Int → Int → Option ((List Int) × Int)) (x1 : List Int) (x2_0 : List Int) (x2_1 : List Int) (x2_2 : List Int) (x6 : List Int) (x7 : Int) (x8 : Int) (x9 : Int) (x10 : Int) (x11 : Int) : Option ((List Int) × Int) := if x11 < x7 then (if 0 ≤ x11 then (if x11 < (x1.length : Int) then (if 0 ≤ (rd x1 x11) then (if (rd x1 x11) < (x2_1.length : Int) then (if 0 ≤ (rd x1 x11) then (if (rd x1 x11) < (x2_1.length : Int) then (if (rd x2_1 (rd x1 x11)) = 0 then (none) else (if 0 ≤ (rd x1 x11) then (if (rd x1 x11) < (x2_0.length : Int) then (r2 x1 x2_0 x2_1 x2_2 x6 x7 x8 x9 (wrap64 (x10 + (wrap64 ((wrap64 (Int.tdiv (wrap64 ((wrap64 (x9 + (rd x2_1 (rd x1 x11)))) - 1)) (rd x2_1 (rd x1 x11)))) * (rd x2_0 (rd x1 x11)))))) (wrap64 (x11 + 1))) else (none)) else (none))) else (none)) else (none)) else (none)) else (none)) else (none)) else (none)) else (if x10 = x9 then (if 0 ≤ x8 then (if x8 < (x6.length : Int) then (r0 x1 x2_0 x2_1 x2_2 (x6.set x8.toNat x9) (wrap64 (x7 + 1))) else (none)) else (none)) else (r1 x1 x2_0 x2_1 x2_2 x6 x7 x8 (wrap64 (x9 + 1))))
noncomputable def spec_AnswersOf.l2 (k : Nat) (r0 : (List Int) → (List Int) → (List Int) → (List Int) → (List Int) → Int → Option ((List Int) × Int)) (r1 : (List Int) → (List Int) → (List Int) → (List Int) → (List Int) → Int → Int → Int → Option ((List Int) × Int)) : Nat → (List Int) → (List Int) → (List Int) → (List Int) → (List Int) → Int → Int → Int → Int → Int → Option ((List Int) × Int)
  | 0, _, _, _, _, _, _, _, _, _, _ => none
  | n + 1, x0, x1, x2, x3, x4, x5, x6, x7, x8, x9 => spec_AnswersOf.s2 k r0 r1 (spec_AnswersOf.l2 k r0 r1 n) x0 x1 x2 x3 x4 x5 x6 x7 x8 x9
noncomputable def spec_AnswersOf.s1 (k : Nat) (r0 : (List Int) → (List Int) → (List Int) → (List Int) → (List Int) → Int → Option ((List Int) × Int)) (r1 : (List Int) → (List Int) → (List Int) → (List Int) → (List Int) → Int → Int → Int → Option ((List Int) × Int)) (r2 : (List Int) → (List Int) → (List Int) → (List Int) → (List Int) → Int → Int → Int → Int → Int → Option ((List Int) × Int)) (x1 : List Int) (x2_0 : List Int) (x2_1 : List Int) (x2_2 : List Int) (x6 : List Int) (x7 : Int) (x8 : Int) (x9 : Int) : Option ((List Int) × Int) := if 0 ≤ x8 then (if x8 < (x2_2.length : Int) then (if x9 ≤ (rd x2_2 x8) then (if 0 ≤ x8 then (if x8 < (x2_0.length : Int) then (r2 x1 x2_0 x2_1 x2_2 x6 x7 x8 x9 (rd x2_0 x8) 0) else (none)) else (none)) else (r0 x1 x2_0 x2_1 x2_2 x6 (wrap64 (x7 + 1)))) else (none)) else (none)
noncomputable def spec_AnswersOf.l1 (k : Nat) (r0 : (List Int) → (List Int) → (List Int) → (List Int) → (List Int) → Int → Option ((List Int) × Int)) : Nat → (List Int) → (List Int) → (List Int) → (List Int) → (List Int) → Int → Int → Int → Option ((List Int) × Int)
  | 0, _, _, _, _, _, _, _, _ => none
  | n + 1, x0, x1, x2, x3, x4, x5, x6, x7 => spec_AnswersOf.s1 k r0 (spec_AnswersOf.l1 k r0 n) (spec_AnswersOf.l2 k r0 (spec_AnswersOf.l1 k r0 n) k) x0 x1 x2 x3 x4 x5 x6 x7
noncomputable def spec_AnswersOf.s0 (k : Nat) (r0 : (List Int) → (List Int) → (List Int) → (List Int) → (List Int) → Int → Option ((List Int) × Int)) (r1 : (List Int) → (List Int) → (List Int) → (List Int) → (List Int) → Int → Int → Int → Option ((List Int) × Int)) (x1 : List Int) (x2_0 : List Int) (x2_1 : List Int) (x2_2 : List Int) (x6 : List Int) (x7 : Int) : Option ((List Int) × Int) := if x7 < (x1.length : Int) then (if 0 ≤ x7 then (if x7 < (x1.length : Int) then (if 0 ≤ (rd x1 x7) then (if (rd x1 x7) < (x6.length : Int) then (r1 x1 x2_0 x2_1 x2_2 (x6.set (rd x1 x7).toNat (-1)) x7 (rd x1 x7) 1) else (none)) else (none)) else (none)) else (none)) else (some (x6, 0))
noncomputable def spec_AnswersOf.l0 (k : Nat) : Nat → (List Int) → (List Int) → (List Int) → (List Int) → (List Int) → Int → Option ((List Int) × Int)
  | 0, _, _, _, _, _, _ => none
  | n + 1, x0, x1, x2, x3, x4, x5 => spec_AnswersOf.s0 k (spec_AnswersOf.l0 k n) (spec_AnswersOf.l1 k (spec_AnswersOf.l0 k n) k) x0 x1 x2 x3 x4 x5
noncomputable def spec_AnswersOf.g (k : Nat) (r0 : (List Int) → (List Int) → (List Int) → (List Int) → (List Int) → Int → Option ((List Int) × Int)) (l0_0 : List Int) (l0_1 : List Int) (l0_2 : List Int) (l1 : List Int) : Option ((List Int) × Int) := (spec_l04Is.f k l0_0 l0_1 l0_2).bind fun t1 => if (!decide (t1 = true)) = true then (some ([], 1)) else ((spec_l01Order.f k l1 (l0_0.length : Int)).bind fun t2 => if (!decide (t2 = true)) = true then (some ([], 2)) else (if 0 ≤ (l1.length : Int) then (if (l1.length : Int) ≤ (l1.length : Int) then (if (l1.length : Int).toNat ≤ 1099511627776 then (r0 l1 l0_0 l0_1 l0_2 (List.replicate (l1.length : Int).toNat (0 : Int)) 0) else (none)) else (none)) else (none)))
noncomputable def spec_AnswersOf.f (k : Nat) (l0_0 : List Int) (l0_1 : List Int) (l0_2 : List Int) (l1 : List Int) : Option ((List Int) × Int) := spec_AnswersOf.g k (spec_AnswersOf.l0 k k) l0_0 l0_1 l0_2 l1
noncomputable def S14 (k : Nat) : Does := ⟨[(true, [.dat (.list (.int .i64)), .dat (.list (.int .i64)), .dat (.list (.int .i64))]), (false, [.dat (.list (.int .i64))])], [(false, [.own 2 (.int .i64)]), (false, [.dat (.int .i64)])], fun x => spec_AnswersOf.f k x.1 x.2.1 x.2.2.1 x.2.2.2⟩
noncomputable def E14 (k : Nat) : En := ⟨tb, orcOf [(92, S92 k), (93, S93 k)], lvOf [(1, [(1, []), (2, []), (6, []), (7, [])]), (3, [(1, []), (2, []), (6, []), (7, []), (8, []), (9, [])]), (5, [(1, []), (2, []), (6, []), (7, []), (8, []), (9, []), (10, []), (11, [])])], k, 0, lvOf [], []⟩
noncomputable def n14_0 (x1 : List Int) (x2_0 : List Int) (x2_1 : List Int) (x2_2 : List Int) (x6 : List Int) (x7 : Int) : St := ⟨93, lookA [(1, .dat (.list (.int .i64)) x1), (2, .box 0 0), (6, .own 1), (7, .dat (.int .i64) x7)], Go.V.look [(0, .cells [.dat (.list (.int .i64)) x2_0, .dat (.list (.int .i64)) x2_1, .dat (.list (.int .i64)) x2_2]), (1, .flat 2 (.int .i64) x6)]⟩
def p14_0 : List Bool := [true, true, true, false, true, false]
noncomputable def n14_1 (x1 : List Int) (x2_0 : List Int) (x2_1 : List Int) (x2_2 : List Int) (x6 : List Int) (x7 : Int) (x8 : Int) (x9 : Int) : St := ⟨93, lookA [(1, .dat (.list (.int .i64)) x1), (2, .box 0 0), (6, .own 1), (7, .dat (.int .i64) x7), (8, .dat (.int .i64) x8), (9, .dat (.int .i64) x9)], Go.V.look [(0, .cells [.dat (.list (.int .i64)) x2_0, .dat (.list (.int .i64)) x2_1, .dat (.list (.int .i64)) x2_2]), (1, .flat 2 (.int .i64) x6)]⟩
def p14_1 : List Bool := [true, true, true, false, true, false, false, true, false, false, true, true, true, false]
noncomputable def n14_2 (x1 : List Int) (x2_0 : List Int) (x2_1 : List Int) (x2_2 : List Int) (x6 : List Int) (x7 : Int) (x8 : Int) (x9 : Int) (x10 : Int) (x11 : Int) : St := ⟨93, lookA [(1, .dat (.list (.int .i64)) x1), (2, .box 0 0), (6, .own 1), (7, .dat (.int .i64) x7), (8, .dat (.int .i64) x8), (9, .dat (.int .i64) x9), (10, .dat (.int .i64) x10), (11, .dat (.int .i64) x11)], Go.V.look [(0, .cells [.dat (.list (.int .i64)) x2_0, .dat (.list (.int .i64)) x2_1, .dat (.list (.int .i64)) x2_2]), (1, .flat 2 (.int .i64) x6)]⟩
def p14_2 : List Bool := [true, true, true, false, true, false, false, true, false, false, true, true, true, false, false, true, false, false, true, false, true, false]
theorem r14_2 (k : Nat) (R0 : St → Option ((List Int) × Int)) (R1 : St → Option ((List Int) × Int)) (rec : St → Option ((List Int) × Int)) (v : (List Int) × (List Int) × (List Int) × (List Int) × (List Int) × Int × Int × Int × Int × Int) : roundF (E14 k) (S14 k) Try.f14 p14_2 [R0, R1] rec (n14_2 v.1 v.2.1 v.2.2.1 v.2.2.2.1 v.2.2.2.2.1 v.2.2.2.2.2.1 v.2.2.2.2.2.2.1 v.2.2.2.2.2.2.2.1 v.2.2.2.2.2.2.2.2.1 v.2.2.2.2.2.2.2.2.2) = spec_AnswersOf.s2 k (fun a0 a1 a2 a3 a4 a5 => R0 (n14_0 a0 a1 a2 a3 a4 a5)) (fun a0 a1 a2 a3 a4 a5 a6 a7 => R1 (n14_1 a0 a1 a2 a3 a4 a5 a6 a7)) (fun a0 a1 a2 a3 a4 a5 a6 a7 a8 a9 => rec (n14_2 a0 a1 a2 a3 a4 a5 a6 a7 a8 a9)) v.1 v.2.1 v.2.2.1 v.2.2.2.1 v.2.2.2.2.1 v.2.2.2.2.2.1 v.2.2.2.2.2.2.1 v.2.2.2.2.2.2.2.1 v.2.2.2.2.2.2.2.2.1 v.2.2.2.2.2.2.2.2.2 := by
  kernel_rfl
theorem q14_2 (k : Nat) (R0 : St → Option ((List Int) × Int)) (R1 : St → Option ((List Int) × Int)) (n : Nat) : ∀ v : (List Int) × (List Int) × (List Int) × (List Int) × (List Int) × Int × Int × Int × Int × Int, loopF (E14 k) (S14 k) Try.f14 p14_2 [R0, R1] n (n14_2 v.1 v.2.1 v.2.2.1 v.2.2.2.1 v.2.2.2.2.1 v.2.2.2.2.2.1 v.2.2.2.2.2.2.1 v.2.2.2.2.2.2.2.1 v.2.2.2.2.2.2.2.2.1 v.2.2.2.2.2.2.2.2.2) = spec_AnswersOf.l2 k (fun a0 a1 a2 a3 a4 a5 => R0 (n14_0 a0 a1 a2 a3 a4 a5)) (fun a0 a1 a2 a3 a4 a5 a6 a7 => R1 (n14_1 a0 a1 a2 a3 a4 a5 a6 a7)) n v.1 v.2.1 v.2.2.1 v.2.2.2.1 v.2.2.2.2.1 v.2.2.2.2.2.1 v.2.2.2.2.2.2.1 v.2.2.2.2.2.2.2.1 v.2.2.2.2.2.2.2.2.1 v.2.2.2.2.2.2.2.2.2 :=
  loopF_eq (E14 k) (S14 k) Try.f14 p14_2 [R0, R1] (fun v : (List Int) × (List Int) × (List Int) × (List Int) × (List Int) × Int × Int × Int × Int × Int => n14_2 v.1 v.2.1 v.2.2.1 v.2.2.2.1 v.2.2.2.2.1 v.2.2.2.2.2.1 v.2.2.2.2.2.2.1 v.2.2.2.2.2.2.2.1 v.2.2.2.2.2.2.2.2.1 v.2.2.2.2.2.2.2.2.2) (fun rec v => spec_AnswersOf.s2 k (fun a0 a1 a2 a3 a4 a5 => R0 (n14_0 a0 a1 a2 a3 a4 a5)) (fun a0 a1 a2 a3 a4 a5 a6 a7 => R1 (n14_1 a0 a1 a2 a3 a4 a5 a6 a7)) (fun a0 a1 a2 a3 a4 a5 a6 a7 a8 a9 => rec (a0, a1, a2, a3, a4, a5, a6, a7, a8, a9)) v.1 v.2.1 v.2.2.1 v.2.2.2.1 v.2.2.2.2.1 v.2.2.2.2.2.1 v.2.2.2.2.2.2.1 v.2.2.2.2.2.2.2.1 v.2.2.2.2.2.2.2.2.1 v.2.2.2.2.2.2.2.2.2) (fun n v => spec_AnswersOf.l2 k (fun a0 a1 a2 a3 a4 a5 => R0 (n14_0 a0 a1 a2 a3 a4 a5)) (fun a0 a1 a2 a3 a4 a5 a6 a7 => R1 (n14_1 a0 a1 a2 a3 a4 a5 a6 a7)) n v.1 v.2.1 v.2.2.1 v.2.2.2.1 v.2.2.2.2.1 v.2.2.2.2.2.1 v.2.2.2.2.2.2.1 v.2.2.2.2.2.2.2.1 v.2.2.2.2.2.2.2.2.1 v.2.2.2.2.2.2.2.2.2) (fun _ => rfl) (fun _ _ => rfl) (fun rec v => r14_2 k R0 R1 rec v) n
theorem r14_1 (k : Nat) (R0 : St → Option ((List Int) × Int)) (rec : St → Option ((List Int) × Int)) (G2 : (List Int) → (List Int) → (List Int) → (List Int) → (List Int) → Int → Int → Int → Int → Int → Option ((List Int) × Int)) (h2 : ∀ a0 a1 a2 a3 a4 a5 a6 a7 a8 a9, loopF (E14 k) (S14 k) Try.f14 p14_2 [R0, rec] k (n14_2 a0 a1 a2 a3 a4 a5 a6 a7 a8 a9) = G2 a0 a1 a2 a3 a4 a5 a6 a7 a8 a9) (v : (List Int) × (List Int) × (List Int) × (List Int) × (List Int) × Int × Int × Int) : roundF (E14 k) (S14 k) Try.f14 p14_1 [R0] rec (n14_1 v.1 v.2.1 v.2.2.1 v.2.2.2.1 v.2.2.2.2.1 v.2.2.2.2.2.1 v.2.2.2.2.2.2.1 v.2.2.2.2.2.2.2) = spec_AnswersOf.s1 k (fun a0 a1 a2 a3 a4 a5 => R0 (n14_0 a0 a1 a2 a3 a4 a5)) (fun a0 a1 a2 a3 a4 a5 a6 a7 => rec (n14_1 a0 a1 a2 a3 a4 a5 a6 a7)) G2 v.1 v.2.1 v.2.2.1 v.2.2.2.1 v.2.2.2.2.1 v.2.2.2.2.2.1 v.2.2.2.2.2.2.1 v.2.2.2.2.2.2.2 := by
  obtain rfl : (fun a0 a1 a2 a3 a4 a5 a6 a7 a8 a9 => loopF (E14 k) (S14 k) Try.f14 p14_2 [R0, rec] k (n14_2 a0 a1 a2 a3 a4 a5 a6 a7 a8 a9)) = G2 := funext fun a0 => funext fun a1 => funext fun a2 => funext fun a3 => funext fun a4 => funext fun a5 => funext fun a6 => funext fun a7 => funext fun a8 => funext fun a9 => h2 a0 a1 a2 a3 a4 a5 a6 a7 a8 a9
  kernel_rfl
theorem q14_1 (k : Nat) (R0 : St → Option ((List Int) × Int)) (n : Nat) : ∀ v : (List Int) × (List Int) × (List Int) × (List Int) × (List Int) × Int × Int × Int, loopF (E14 k) (S14 k) Try.f14 p14_1 [R0] n (n14_1 v.1 v.2.1 v.2.2.1 v.2.2.2.1 v.2.2.2.2.1 v.2.2.2.2.2.1 v.2.2.2.2.2.2.1 v.2.2.2.2.2.2.2) = spec_AnswersOf.l1 k (fun a0 a1 a2 a3 a4 a5 => R0 (n14_0 a0 a1 a2 a3 a4 a5)) n v.1 v.2.1 v.2.2.1 v.2.2.2.1 v.2.2.2.2.1 v.2.2.2.2.2.1 v.2.2.2.2.2.2.1 v.2.2.2.2.2.2.2 :=
  loopF_eq (E14 k) (S14 k) Try.f14 p14_1 [R0] (fun v : (List Int) × (List Int) × (List Int) × (List Int) × (List Int) × Int × Int × Int => n14_1 v.1 v.2.1 v.2.2.1 v.2.2.2.1 v.2.2.2.2.1 v.2.2.2.2.2.1 v.2.2.2.2.2.2.1 v.2.2.2.2.2.2.2) (fun rec v => spec_AnswersOf.s1 k (fun a0 a1 a2 a3 a4 a5 => R0 (n14_0 a0 a1 a2 a3 a4 a5)) (fun a0 a1 a2 a3 a4 a5 a6 a7 => rec (a0, a1, a2, a3, a4, a5, a6, a7)) (spec_AnswersOf.l2 k (fun a0 a1 a2 a3 a4 a5 => R0 (n14_0 a0 a1 a2 a3 a4 a5)) (fun a0 a1 a2 a3 a4 a5 a6 a7 => rec (a0, a1, a2, a3, a4, a5, a6, a7)) k) v.1 v.2.1 v.2.2.1 v.2.2.2.1 v.2.2.2.2.1 v.2.2.2.2.2.1 v.2.2.2.2.2.2.1 v.2.2.2.2.2.2.2) (fun n v => spec_AnswersOf.l1 k (fun a0 a1 a2 a3 a4 a5 => R0 (n14_0 a0 a1 a2 a3 a4 a5)) n v.1 v.2.1 v.2.2.1 v.2.2.2.1 v.2.2.2.2.1 v.2.2.2.2.2.1 v.2.2.2.2.2.2.1 v.2.2.2.2.2.2.2) (fun _ => rfl) (fun _ _ => rfl) (fun rec v => r14_1 k R0 rec _ (fun a0 a1 a2 a3 a4 a5 a6 a7 a8 a9 => q14_2 k R0 rec k (a0, a1, a2, a3, a4, a5, a6, a7, a8, a9)) v) n
theorem r14_0 (k : Nat) (rec : St → Option ((List Int) × Int)) (G1 : (List Int) → (List Int) → (List Int) → (List Int) → (List Int) → Int → Int → Int → Option ((List Int) × Int)) (h1 : ∀ a0 a1 a2 a3 a4 a5 a6 a7, loopF (E14 k) (S14 k) Try.f14 p14_1 [rec] k (n14_1 a0 a1 a2 a3 a4 a5 a6 a7) = G1 a0 a1 a2 a3 a4 a5 a6 a7) (v : (List Int) × (List Int) × (List Int) × (List Int) × (List Int) × Int) : roundF (E14 k) (S14 k) Try.f14 p14_0 [] rec (n14_0 v.1 v.2.1 v.2.2.1 v.2.2.2.1 v.2.2.2.2.1 v.2.2.2.2.2) = spec_AnswersOf.s0 k (fun a0 a1 a2 a3 a4 a5 => rec (n14_0 a0 a1 a2 a3 a4 a5)) G1 v.1 v.2.1 v.2.2.1 v.2.2.2.1 v.2.2.2.2.1 v.2.2.2.2.2 := by
  obtain rfl : (fun a0 a1 a2 a3 a4 a5 a6 a7 => loopF (E14 k) (S14 k) Try.f14 p14_1 [rec] k (n14_1 a0 a1 a2 a3 a4 a5 a6 a7)) = G1 := funext fun a0 => funext fun a1 => funext fun a2 => funext fun a3 => funext fun a4 => funext fun a5 => funext fun a6 => funext fun a7 => h1 a0 a1 a2 a3 a4 a5 a6 a7
  kernel_rfl
theorem q14_0 (k : Nat) (n : Nat) : ∀ v : (List Int) × (List Int) × (List Int) × (List Int) × (List Int) × Int, loopF (E14 k) (S14 k) Try.f14 p14_0 [] n (n14_0 v.1 v.2.1 v.2.2.1 v.2.2.2.1 v.2.2.2.2.1 v.2.2.2.2.2) = spec_AnswersOf.l0 k n v.1 v.2.1 v.2.2.1 v.2.2.2.1 v.2.2.2.2.1 v.2.2.2.2.2 :=
  loopF_eq (E14 k) (S14 k) Try.f14 p14_0 [] (fun v : (List Int) × (List Int) × (List Int) × (List Int) × (List Int) × Int => n14_0 v.1 v.2.1 v.2.2.1 v.2.2.2.1 v.2.2.2.2.1 v.2.2.2.2.2) (fun rec v => spec_AnswersOf.s0 k (fun a0 a1 a2 a3 a4 a5 => rec (a0, a1, a2, a3, a4, a5)) (spec_AnswersOf.l1 k (fun a0 a1 a2 a3 a4 a5 => rec (a0, a1, a2, a3, a4, a5)) k) v.1 v.2.1 v.2.2.1 v.2.2.2.1 v.2.2.2.2.1 v.2.2.2.2.2) (fun n v => spec_AnswersOf.l0 k n v.1 v.2.1 v.2.2.1 v.2.2.2.1 v.2.2.2.2.1 v.2.2.2.2.2) (fun _ => rfl) (fun _ _ => rfl) (fun rec v => r14_0 k rec _ (fun a0 a1 a2 a3 a4 a5 a6 a7 => q14_1 k rec k (a0, a1, a2, a3, a4, a5, a6, a7)) v) n
theorem e14 (k : Nat) (x : dens (flatC (S14 k).ps)) : funK (E14 k) (S14 k) Try.f14 x = (S14 k).fn x := by
  have h : funK (E14 k) (S14 k) Try.f14 x = spec_AnswersOf.g k (fun a0 a1 a2 a3 a4 a5 => loopF (E14 k) (S14 k) Try.f14 p14_0 [] k (n14_0 a0 a1 a2 a3 a4 a5)) x.1 x.2.1 x.2.2.1 x.2.2.2 := by kernel_rfl
  rw [h]
  rw [show (fun a0 a1 a2 a3 a4 a5 => loopF (E14 k) (S14 k) Try.f14 p14_0 [] k (n14_0 a0 a1 a2 a3 a4 a5)) = spec_AnswersOf.l0 k k from funext fun a0 => funext fun a1 => funext fun a2 => funext fun a3 => funext fun a4 => funext fun a5 => q14_0 k k (a0, a1, a2, a3, a4, a5)]
  rfl
theorem M14 (k : Nat) : Meets Try.prog 14 (S14 k) := meets_of Try.func14 (by kernel_rfl) tbOk (orc_cons (M92 k) (orc_cons (M93 k) orc_nil)) mixOk (fun x y h => (e14 k x).trans h) rfl

/-! laws_likeInts: function 38 -/
noncomputable def laws_likeInts.s0 (k : Nat) (r0 : (List Int) → (List Int) → Int → Option (Bool)) (x0 : List Int) (x1 : List Int) (x5 : Int) : Option (Bool) := if x5 < (x0.length : Int) then (if 0 ≤ x5 then (if x5 < (x0.length : Int) then (if 0 ≤ x5 then (if x5 < (x1.length : Int) then (if (rd x0 x5) = (rd x1 x5) then (r0 x0 x1 (wrap64 (x5 + 1))) else (some false)) else (none)) else (none)) else (none)) else (none)) else (some true)
noncomputable def laws_likeInts.l0 (k : Nat) : Nat → (List Int) → (List Int) → Int → Option (Bool)
  | 0, _, _, _ => none
  | n + 1, x0, x1, x2 => laws_likeInts.s0 k (laws_likeInts.l0 k n) x0 x1 x2
noncomputable def laws_likeInts.g (k : Nat) (r0 : (List Int) → (List Int) → Int → Option (Bool)) (l0 : List Int) (l1 : List Int) : Option (Bool) := if (l0.length : Int) = (l1.length : Int) then (r0 l0 l1 0) else (some false)
noncomputable def laws_likeInts.f (k : Nat) (l0 : List Int) (l1 : List Int) : Option (Bool) := laws_likeInts.g k (laws_likeInts.l0 k k) l0 l1
noncomputable def S38 (k : Nat) : Does := ⟨[(false, [.dat (.list (.int .i64))]), (false, [.dat (.list (.int .i64))])], [(false, [.dat .bool])], fun x => laws_likeInts.f k x.1 x.2⟩
noncomputable def E38 (k : Nat) : En := ⟨tb, orcOf [], lvOf [(0, [(0, []), (1, []), (5, [])])], k, 0, lvOf [], []⟩
noncomputable def n38_0 (x0 : List Int) (x1 : List Int) (x5 : Int) : St := ⟨26, lookA [(0, .dat (.list (.int .i64)) x0), (1, .dat (.list (.int .i64)) x1), (5, .dat (.int .i64) x5)], Go.V.look []⟩
def p38_0 : List Bool := [true, true, false, true, false]
theorem r38_0 (k : Nat) (rec : St → Option (Bool)) (v : (List Int) × (List Int) × Int) : roundF (E38 k) (S38 k) Try.f38 p38_0 [] rec (n38_0 v.1 v.2.1 v.2.2) = laws_likeInts.s0 k (fun a0 a1 a2 => rec (n38_0 a0 a1 a2)) v.1 v.2.1 v.2.2 := by
  kernel_rfl
theorem q38_0 (k : Nat) (n : Nat) : ∀ v : (List Int) × (List Int) × Int, loopF (E38 k) (S38 k) Try.f38 p38_0 [] n (n38_0 v.1 v.2.1 v.2.2) = laws_likeInts.l0 k n v.1 v.2.1 v.2.2 :=
  loopF_eq (E38 k) (S38 k) Try.f38 p38_0 [] (fun v : (List Int) × (List Int) × Int => n38_0 v.1 v.2.1 v.2.2) (fun rec v => laws_likeInts.s0 k (fun a0 a1 a2 => rec (a0, a1, a2)) v.1 v.2.1 v.2.2) (fun n v => laws_likeInts.l0 k n v.1 v.2.1 v.2.2) (fun _ => rfl) (fun _ _ => rfl) (fun rec v => r38_0 k rec v) n
theorem e38 (k : Nat) (x : dens (flatC (S38 k).ps)) : funK (E38 k) (S38 k) Try.f38 x = (S38 k).fn x := by
  have h : funK (E38 k) (S38 k) Try.f38 x = laws_likeInts.g k (fun a0 a1 a2 => loopF (E38 k) (S38 k) Try.f38 p38_0 [] k (n38_0 a0 a1 a2)) x.1 x.2 := by kernel_rfl
  rw [h]
  rw [show (fun a0 a1 a2 => loopF (E38 k) (S38 k) Try.f38 p38_0 [] k (n38_0 a0 a1 a2)) = laws_likeInts.l0 k k from funext fun a0 => funext fun a1 => funext fun a2 => q38_0 k k (a0, a1, a2)]
  rfl
theorem M38 (k : Nat) : Meets Try.prog 38 (S38 k) := meets_of Try.func38 (by kernel_rfl) tbOk orc_nil mixOk (fun x y h => (e38 k x).trans h) rfl

/-! impl_Tasks_many: function 162 -/
noncomputable def impl_Tasks_many.f (l0_0 : List Int) : Option (Int) := (impl_length_int64.f l0_0).bind fun t1 => some t1
noncomputable def S162 (k : Nat) : Does := ⟨[(true, [.dat (.list (.int .i64))])], [(false, [.dat (.int .i64)])], fun x => impl_Tasks_many.f x⟩
noncomputable def E162 (k : Nat) : En := ⟨tb, orcOf [(101, S101 k)], lvOf [], k, 0, lvOf [], []⟩
theorem e162 (k : Nat) (x : dens (flatC (S162 k).ps)) : funK (E162 k) (S162 k) Try.f162 x = (S162 k).fn x := by
  kernel_rfl
theorem M162 (k : Nat) : Meets Try.prog 162 (S162 k) := meets_of Try.func162 (by kernel_rfl) tbOk (orc_cons (M101 k) orc_nil) mixOk (fun x y h => (e162 k x).trans h) rfl

/-! impl_Tasks_byGap_1: function 164 -/
noncomputable def impl_Tasks_byGap_1.f (a0 : Int) (a1 : Int) (a2 : List Int) : Option (Int) := if 0 ≤ a0 then (if a0 < (a2.length : Int) then (if 0 ≤ a1 then (if a1 < (a2.length : Int) then (some (wrap64 ((rd a2 a0) - (rd a2 a1)))) else (none)) else (none)) else (none)) else (none)
noncomputable def S164 (k : Nat) : Does := ⟨[(false, [.dat (.int .i64)]), (false, [.dat (.int .i64)]), (false, [.dat (.ptr (.struct (.list (.int .i64))))])], [(false, [.dat (.int .i64)])], fun x => impl_Tasks_byGap_1.f x.1 x.2.1 x.2.2⟩
noncomputable def E164 (k : Nat) : En := ⟨tb, orcOf [], lvOf [], k, 0, lvOf [], []⟩
theorem e164 (k : Nat) (x : dens (flatC (S164 k).ps)) : funK (E164 k) (S164 k) Try.f164 x = (S164 k).fn x := by
  kernel_rfl
theorem M164 (k : Nat) : Meets Try.prog 164 (S164 k) := meets_of Try.func164 (by kernel_rfl) tbOk orc_nil mixOk (fun x y h => (e164 k x).trans h) rfl

/-! slices_insertionSortCmpFunc_int64_impl_Tasks_byGap_1: function 192 -/
noncomputable def slices_insertionSortCmpFunc_int64_impl_Tasks_byGap_1.s1 (k : Nat) (r0 : (List Int) → Int → Int → (List Int) → Int → Option ((List Int))) (r1 : (List Int) → Int → Int → (List Int) → Int → Int → Option ((List Int))) (x0 : List Int) (x1 : Int) (x2 : Int) (x3 : List Int) (x8 : Int) (x9 : Int) : Option ((List Int)) := if x1 < x9 then (if 0 ≤ x9 then (if x9 < (x0.length : Int) then (if 0 ≤ (wrap64 (x9 - 1)) then (if (wrap64 (x9 - 1)) < (x0.length : Int) then ((impl_Tasks_byGap_1.f (rd x0 x9) (rd x0 (wrap64 (x9 - 1))) x3).bind fun t1 => if t1 < 0 then (if 0 ≤ (wrap64 (x9 - 1)) then (if (wrap64 (x9 - 1)) < (x0.length : Int) then (if 0 ≤ x9 then (if x9 < (x0.length : Int) then (if 0 ≤ x9 then (if x9 < (x0.length : Int) then (if 0 ≤ (wrap64 (x9 - 1)) then (if (wrap64 (x9 - 1)) < ((x0.set x9.toNat (rd x0 (wrap64 (x9 - 1)))).length : Int) then (r1 ((x0.set x9.toNat (rd x0 (wrap64 (x9 - 1)))).set (wrap64 (x9 - 1)).toNat (rd x0 x9)) x1 x2 x3 x8 (wrap64 (x9 - 1))) else (none)) else (none)) else (none)) else (none)) else (none)) else (none)) else (none)) else (none)) else (r0 x0 x1 x2 x3 (wrap64 (x8 + 1)))) else (none)) else (none)) else (none)) else (none)) else (r0 x0 x1 x2 x3 (wrap64 (x8 + 1)))
noncomputable def slices_insertionSortCmpFunc_int64_impl_Tasks_byGap_1.l1 (k : Nat) (r0 : (List Int) → Int → Int → (List Int) → Int → Option ((List Int))) : Nat → (List Int) → Int → Int → (List Int) → Int → Int → Option ((List Int))
  | 0, _, _, _, _, _, _ => none
  | n + 1, x0, x1, x2, x3, x4, x5 => slices_insertionSortCmpFunc_int64_impl_Tasks_byGap_1.s1 k r0 (slices_insertionSortCmpFunc_int64_impl_Tasks_byGap_1.l1 k r0 n) x0 x1 x2 x3 x4 x5
noncomputable def slices_insertionSortCmpFunc_int64_impl_Tasks_byGap_1.s0 (k : Nat) (r0 : (List Int) → Int → Int → (List Int) → Int → Option ((List Int))) (r1 : (List Int) → Int → Int → (List Int) → Int → Int → Option ((List Int))) (x0 : List Int) (x1 : Int) (x2 : Int) (x3 : List Int) (x8 : Int) : Option ((List Int)) := if x8 < x2 then (r1 x0 x1 x2 x3 x8 x8) else (some x0)
noncomputable def slices_insertionSortCmpFunc_int64_impl_Tasks_byGap_1.l0 (k : Nat) : Nat → (List Int) → Int → Int → (List Int) → Int → Option ((List Int))
  | 0, _, _, _, _, _ => none
  | n + 1, x0, x1, x2, x3, x4 => slices_insertionSortCmpFunc_int64_impl_Tasks_byGap_1.s0 k (slices_insertionSortCmpFunc_int64_impl_Tasks_byGap_1.l0 k n) (slices_insertionSortCmpFunc_int64_impl_Tasks_byGap_1.l1 k (slices_insertionSortCmpFunc_int64_impl_Tasks_byGap_1.l0 k n) k) x0 x1 x2 x3 x4
noncomputable def slices_insertionSortCmpFunc_int64_impl_Tasks_byGap_1.g (k : Nat) (r0 : (List Int) → Int → Int → (List Int) → Int → Option ((List Int))) (l0 : List Int) (a1 : Int) (a2 : Int) (a3 : List Int) : Option ((List Int)) := r0 l0 a1 a2 a3 (wrap64 (a1 + 1))
noncomputable def slices_insertionSortCmpFunc_int64_impl_Tasks_byGap_1.f (k : Nat) (l0 : List Int) (a1 : Int) (a2 : Int) (a3 : List Int) : Option ((List Int)) := slices_insertionSortCmpFunc_int64_impl_Tasks_byGap_1.g k (slices_insertionSortCmpFunc_int64_impl_Tasks_byGap_1.l0 k k) l0 a1 a2 a3
noncomputable def S192_c164 (k : Nat) : Does := ⟨[(false, [.own 2 (.int .i64)]), (false, [.dat (.int .i64)]), (false, [.dat (.int .i64)]), (false, [.dat (.clo 164 (.ptr (.struct (.list (.int .i64)))))])], [], fun x => slices_insertionSortCmpFunc_int64_impl_Tasks_byGap_1.f k x.1 x.2.1 x.2.2.1 x.2.2.2⟩
noncomputable def E192_c164 (k : Nat) : En := ⟨tb, orcOf [(164, S164 k)], lvOf [(0, [(0, []), (1, []), (2, []), (3, []), (8, [])]), (2, [(0, []), (1, []), (2, []), (3, []), (8, []), (9, [])])], k, 1, lvOf [], []⟩
noncomputable def n192_c164_0 (x0 : List Int) (x1 : Int) (x2 : Int) (x3 : List Int) (x8 : Int) : St := ⟨53, lookA [(0, .own 0), (1, .dat (.int .i64) x1), (2, .dat (.int .i64) x2), (3, .dat (.clo 164 (.ptr (.struct (.list (.int .i64))))) x3), (8, .dat (.int .i64) x8)], Go.V.look [(0, .flat 2 (.int .i64) x0)]⟩
def p192_c164_0 : List Bool := [true, false]
noncomputable def n192_c164_1 (x0 : List Int) (x1 : Int) (x2 : Int) (x3 : List Int) (x8 : Int) (x9 : Int) : St := ⟨53, lookA [(0, .own 0), (1, .dat (.int .i64) x1), (2, .dat (.int .i64) x2), (3, .dat (.clo 164 (.ptr (.struct (.list (.int .i64))))) x3), (8, .dat (.int .i64) x8), (9, .dat (.int .i64) x9)], Go.V.look [(0, .flat 2 (.int .i64) x0)]⟩
def p192_c164_1 : List Bool := [true, false, false, true, false, false, true, false]
theorem r192_c164_1 (k : Nat) (R0 : St → Option ((List Int))) (rec : St → Option ((List Int))) (v : (List Int) × Int × Int × (List Int) × Int × Int) : roundF (E192_c164 k) (S192_c164 k) Try.f192 p192_c164_1 [R0] rec (n192_c164_1 v.1 v.2.1 v.2.2.1 v.2.2.2.1 v.2.2.2.2.1 v.2.2.2.2.2) = slices_insertionSortCmpFunc_int64_impl_Tasks_byGap_1.s1 k (fun a0 a1 a2 a3 a4 => R0 (n192_c164_0 a0 a1 a2 a3 a4)) (fun a0 a1 a2 a3 a4 a5 => rec (n192_c164_1 a0 a1 a2 a3 a4 a5)) v.1 v.2.1 v.2.2.1 v.2.2.2.1 v.2.2.2.2.1 v.2.2.2.2.2 := by
  kernel_rfl
theorem q192_c164_1 (k : Nat) (R0 : St → Option ((List Int))) (n : Nat) : ∀ v : (List Int) × Int × Int × (List Int) × Int × Int, loopF (E192_c164 k) (S192_c164 k) Try.f192 p192_c164_1 [R0] n (n192_c164_1 v.1 v.2.1 v.2.2.1 v.2.2.2.1 v.2.2.2.2.1 v.2.2.2.2.2) = slices_insertionSortCmpFunc_int64_impl_Tasks_byGap_1.l1 k (fun a0 a1 a2 a3 a4 => R0 (n192_c164_0 a0 a1 a2 a3 a4)) n v.1 v.2.1 v.2.2.1 v.2.2.2.1 v.2.2.2.2.1 v.2.2.2.2.2 :=
  loopF_eq (E192_c164 k) (S192_c164 k) Try.f192 p192_c164_1 [R0] (fun v : (List Int) × Int × Int × (List Int) × Int × Int => n192_c164_1 v.1 v.2.1 v.2.2.1 v.2.2.2.1 v.2.2.2.2.1 v.2.2.2.2.2) (fun rec v => slices_insertionSortCmpFunc_int64_impl_Tasks_byGap_1.s1 k (fun a0 a1 a2 a3 a4 => R0 (n192_c164_0 a0 a1 a2 a3 a4)) (fun a0 a1 a2 a3 a4 a5 => rec (a0, a1, a2, a3, a4, a5)) v.1 v.2.1 v.2.2.1 v.2.2.2.1 v.2.2.2.2.1 v.2.2.2.2.2) (fun n v => slices_insertionSortCmpFunc_int64_impl_Tasks_byGap_1.l1 k (fun a0 a1 a2 a3 a4 => R0 (n192_c164_0 a0 a1 a2 a3 a4)) n v.1 v.2.1 v.2.2.1 v.2.2.2.1 v.2.2.2.2.1 v.2.2.2.2.2) (fun _ => rfl) (fun _ _ => rfl) (fun rec v => r192_c164_1 k R0 rec v) n
theorem r192_c164_0 (k : Nat) (rec : St → Option ((List Int))) (G1 : (List Int) → Int → Int → (List Int) → Int → Int → Option ((List Int))) (h1 : ∀ a0 a1 a2 a3 a4 a5, loopF (E192_c164 k) (S192_c164 k) Try.f192 p192_c164_1 [rec] k (n192_c164_1 a0 a1 a2 a3 a4 a5) = G1 a0 a1 a2 a3 a4 a5) (v : (List Int) × Int × Int × (List Int) × Int) : roundF (E192_c164 k) (S192_c164 k) Try.f192 p192_c164_0 [] rec (n192_c164_0 v.1 v.2.1 v.2.2.1 v.2.2.2.1 v.2.2.2.2) = slices_insertionSortCmpFunc_int64_impl_Tasks_byGap_1.s0 k (fun a0 a1 a2 a3 a4 => rec (n192_c164_0 a0 a1 a2 a3 a4)) G1 v.1 v.2.1 v.2.2.1 v.2.2.2.1 v.2.2.2.2 := by
  obtain rfl : (fun a0 a1 a2 a3 a4 a5 => loopF (E192_c164 k) (S192_c164 k) Try.f192 p192_c164_1 [rec] k (n192_c164_1 a0 a1 a2 a3 a4 a5)) = G1 := funext fun a0 => funext fun a1 => funext fun a2 => funext fun a3 => funext fun a4 => funext fun a5 => h1 a0 a1 a2 a3 a4 a5
  kernel_rfl
theorem q192_c164_0 (k : Nat) (n : Nat) : ∀ v : (List Int) × Int × Int × (List Int) × Int, loopF (E192_c164 k) (S192_c164 k) Try.f192 p192_c164_0 [] n (n192_c164_0 v.1 v.2.1 v.2.2.1 v.2.2.2.1 v.2.2.2.2) = slices_insertionSortCmpFunc_int64_impl_Tasks_byGap_1.l0 k n v.1 v.2.1 v.2.2.1 v.2.2.2.1 v.2.2.2.2 :=
  loopF_eq (E192_c164 k) (S192_c164 k) Try.f192 p192_c164_0 [] (fun v : (List Int) × Int × Int × (List Int) × Int => n192_c164_0 v.1 v.2.1 v.2.2.1 v.2.2.2.1 v.2.2.2.2) (fun rec v => slices_insertionSortCmpFunc_int64_impl_Tasks_byGap_1.s0 k (fun a0 a1 a2 a3 a4 => rec (a0, a1, a2, a3, a4)) (slices_insertionSortCmpFunc_int64_impl_Tasks_byGap_1.l1 k (fun a0 a1 a2 a3 a4 => rec (a0, a1, a2, a3, a4)) k) v.1 v.2.1 v.2.2.1 v.2.2.2.1 v.2.2.2.2) (fun n v => slices_insertionSortCmpFunc_int64_impl_Tasks_byGap_1.l0 k n v.1 v.2.1 v.2.2.1 v.2.2.2.1 v.2.2.2.2) (fun _ => rfl) (fun _ _ => rfl) (fun rec v => r192_c164_0 k rec _ (fun a0 a1 a2 a3 a4 a5 => q192_c164_1 k rec k (a0, a1, a2, a3, a4, a5)) v) n
theorem e192_c164 (k : Nat) (x : dens (flatC (S192_c164 k).ps)) : funK (E192_c164 k) (S192_c164 k) Try.f192 x = (S192_c164 k).fn x := by
  have h : funK (E192_c164 k) (S192_c164 k) Try.f192 x = slices_insertionSortCmpFunc_int64_impl_Tasks_byGap_1.g k (fun a0 a1 a2 a3 a4 => loopF (E192_c164 k) (S192_c164 k) Try.f192 p192_c164_0 [] k (n192_c164_0 a0 a1 a2 a3 a4)) x.1 x.2.1 x.2.2.1 x.2.2.2 := by kernel_rfl
  rw [h]
  rw [show (fun a0 a1 a2 a3 a4 => loopF (E192_c164 k) (S192_c164 k) Try.f192 p192_c164_0 [] k (n192_c164_0 a0 a1 a2 a3 a4)) = slices_insertionSortCmpFunc_int64_impl_Tasks_byGap_1.l0 k k from funext fun a0 => funext fun a1 => funext fun a2 => funext fun a3 => funext fun a4 => q192_c164_0 k k (a0, a1, a2, a3, a4)]
  rfl
theorem M192_c164 (k : Nat) : Meets Try.prog 192 (S192_c164 k) := meets_of Try.func192 (by kernel_rfl) tbOk (orc_cons (M164 k) orc_nil) mixOk (fun x y h => (e192_c164 k x).trans h) rfl

/-! slices_stableCmpFunc_int64_impl_Tasks_byGap_1: function 186 -/
noncomputable def slices_stableCmpFunc_int64_impl_Tasks_byGap_1.s2 (k : Nat) (r1 : (List Int) → Int → (List Int) → Int → Option ((List Int))) (r2 : (List Int) → Int → (List Int) → Int → Int → Int → Option ((List Int))) (x0 : List Int) (x1 : Int) (x2 : List Int) (x6 : Int) (x7 : Int) (x8 : Int) : Option ((List Int)) := if x8 ≤ x1 then (none) else (if (wrap64 (x7 + x6)) < x1 then (none) else (r1 x0 x1 x2 (wrap64 (x6 * 2))))
noncomputable def slices_stableCmpFunc_int64_impl_Tasks_byGap_1.l2 (k : Nat) (r1 : (List Int) → Int → (List Int) → Int → Option ((List Int))) : Nat → (List Int) → Int → (List Int) → Int → Int → Int → Option ((List Int))
  | 0, _, _, _, _, _, _ => none
  | n + 1, x0, x1, x2, x3, x4, x5 => slices_stableCmpFunc_int64_impl_Tasks_byGap_1.s2 k r1 (slices_stableCmpFunc_int64_impl_Tasks_byGap_1.l2 k r1 n) x0 x1 x2 x3 x4 x5
noncomputable def slices_stableCmpFunc_int64_impl_Tasks_byGap_1.s1 (k : Nat) (r1 : (List Int) → Int → (List Int) → Int → Option ((List Int))) (r2 : (List Int) → Int → (List Int) → Int → Int → Int → Option ((List Int))) (x0 : List Int) (x1 : Int) (x2 : List Int) (x6 : Int) : Option ((List Int)) := if x6 < x1 then (r2 x0 x1 x2 x6 0 (wrap64 (2 * x6))) else (some x0)
noncomputable def slices_stableCmpFunc_int64_impl_Tasks_byGap_1.l1 (k : Nat) : Nat → (List Int) → Int → (List Int) → Int → Option ((List Int))
  | 0, _, _, _, _ => none
  | n + 1, x0, x1, x2, x3 => slices_stableCmpFunc_int64_impl_Tasks_byGap_1.s1 k (slices_stableCmpFunc_int64_impl_Tasks_byGap_1.l1 k n) (slices_stableCmpFunc_int64_impl_Tasks_byGap_1.l2 k (slices_stableCmpFunc_int64_impl_Tasks_byGap_1.l1 k n) k) x0 x1 x2 x3
noncomputable def slices_stableCmpFunc_int64_impl_Tasks_byGap_1.s0 (k : Nat) (r0 : (List Int) → Int → (List Int) → Int → Int → Int → Option ((List Int))) (r1 : (List Int) → Int → (List Int) → Int → Option ((List Int))) (x0 : List Int) (x1 : Int) (x2 : List Int) (x6 : Int) (x7 : Int) (x8 : Int) : Option ((List Int)) := if x8 ≤ x1 then ((slices_insertionSortCmpFunc_int64_impl_Tasks_byGap_1.f k x0 x7 x8 x2).bind fun t1 => r0 t1 x1 x2 x6 x8 (wrap64 (x8 + x6))) else ((slices_insertionSortCmpFunc_int64_impl_Tasks_byGap_1.f k x0 x7 x1 x2).bind fun t2 => r1 t2 x1 x2 x6)
noncomputable def slices_stableCmpFunc_int64_impl_Tasks_byGap_1.l0 (k : Nat) : Nat → (List Int) → Int → (List Int) → Int → Int → Int → Option ((List Int))
  | 0, _, _, _, _, _, _ => none
  | n + 1, x0, x1, x2, x3, x4, x5 => slices_stableCmpFunc_int64_impl_Tasks_byGap_1.s0 k (slices_stableCmpFunc_int64_impl_Tasks_byGap_1.l0 k n) (slices_stableCmpFunc_int64_impl_Tasks_byGap_1.l1 k k) x0 x1 x2 x3 x4 x5
noncomputable def slices_stableCmpFunc_int64_impl_Tasks_byGap_1.g (k : Nat) (r0 : (List Int) → Int → (List Int) → Int → Int → Int → Option ((List Int))) (l0 : List Int) (a1 : Int) (a2 : List Int) : Option ((List Int)) := r0 l0 a1 a2 20 0 20
noncomputable def slices_stableCmpFunc_int64_impl_Tasks_byGap_1.f (k : Nat) (l0 : List Int) (a1 : Int) (a2 : List Int) : Option ((List Int)) := slices_stableCmpFunc_int64_impl_Tasks_byGap_1.g k (slices_stableCmpFunc_int64_impl_Tasks_byGap_1.l0 k k) l0 a1 a2
noncomputable def S186_c164 (k : Nat) : Does := ⟨[(false, [.own 2 (.int .i64)]), (false, [.dat (.int .i64)]), (false, [.dat (.clo 164 (.ptr (.struct (.list (.int .i64)))))])], [], fun x => slices_stableCmpFunc_int64_impl_Tasks_byGap_1.f k x.1 x.2.1 x.2.2⟩
noncomputable def E186_c164 (k : Nat) : En := ⟨tb, orcOf [(192, S192_c164 k)], lvOf [(0, [(0, []), (1, []), (2, []), (6, []), (7, []), (8, [])]), (2, [(0, []), (1, []), (2, []), (6, [])]), (4, [(0, []), (1, []), (2, []), (6, []), (7, []), (8, [])])], k, 1, lvOf [], []⟩
noncomputable def n186_c164_0 (x0 : List Int) (x1 : Int) (x2 : List Int) (x6 : Int) (x7 : Int) (x8 : Int) : St := ⟨63, lookA [(0, .own 0), (1, .dat (.int .i64) x1), (2, .dat (.clo 164 (.ptr (.struct (.list (.int .i64))))) x2), (6, .dat (.int .i64) x6), (7, .dat (.int .i64) x7), (8, .dat (.int .i64) x8)], Go.V.look [(0, .flat 2 (.int .i64) x0)]⟩
def p186_c164_0 : List Bool := [true, true, false, false]
noncomputable def n186_c164_1 (x0 : List Int) (x1 : Int) (x2 : List Int) (x6 : Int) : St := ⟨63, lookA [(0, .own 0), (1, .dat (.int .i64) x1), (2, .dat (.clo 164 (.ptr (.struct (.list (.int .i64))))) x2), (6, .dat (.int .i64) x6)], Go.V.look [(0, .flat 2 (.int .i64) x0)]⟩
def p186_c164_1 : List Bool := [true, true, true, true, false]
noncomputable def n186_c164_2 (x0 : List Int) (x1 : Int) (x2 : List Int) (x6 : Int) (x7 : Int) (x8 : Int) : St := ⟨63, lookA [(0, .own 0), (1, .dat (.int .i64) x1), (2, .dat (.clo 164 (.ptr (.struct (.list (.int .i64))))) x2), (6, .dat (.int .i64) x6), (7, .dat (.int .i64) x7), (8, .dat (.int .i64) x8)], Go.V.look [(0, .flat 2 (.int .i64) x0)]⟩
def p186_c164_2 : List Bool := [true, true, true, true, false, false, true, false, true, false, false]
theorem r186_c164_2 (k : Nat) (R1 : St → Option ((List Int))) (rec : St → Option ((List Int))) (v : (List Int) × Int × (List Int) × Int × Int × Int) : roundF (E186_c164 k) (S186_c164 k) Try.f186 p186_c164_2 [R1] rec (n186_c164_2 v.1 v.2.1 v.2.2.1 v.2.2.2.1 v.2.2.2.2.1 v.2.2.2.2.2) = slices_stableCmpFunc_int64_impl_Tasks_byGap_1.s2 k (fun a0 a1 a2 a3 => R1 (n186_c164_1 a0 a1 a2 a3)) (fun a0 a1 a2 a3 a4 a5 => rec (n186_c164_2 a0 a1 a2 a3 a4 a5)) v.1 v.2.1 v.2.2.1 v.2.2.2.1 v.2.2.2.2.1 v.2.2.2.2.2 := by
  kernel_rfl
theorem q186_c164_2 (k : Nat) (R1 : St → Option ((List Int))) (n : Nat) : ∀ v : (List Int) × Int × (List Int) × Int × Int × Int, loopF (E186_c164 k) (S186_c164 k) Try.f186 p186_c164_2 [R1] n (n186_c164_2 v.1 v.2.1 v.2.2.1 v.2.2.2.1 v.2.2.2.2.1 v.2.2.2.2.2) = slices_stableCmpFunc_int64_impl_Tasks_byGap_1.l2 k (fun a0 a1 a2 a3 => R1 (n186_c164_1 a0 a1 a2 a3)) n v.1 v.2.1 v.2.2.1 v.2.2.2.1 v.2.2.2.2.1 v.2.2.2.2.2 :=
  loopF_eq (E186_c164 k) (S186_c164 k) Try.f186 p186_c164_2 [R1] (fun v : (List Int) × Int × (List Int) × Int × Int × Int => n186_c164_2 v.1 v.2.1 v.2.2.1 v.2.2.2.1 v.2.2.2.2.1 v.2.2.2.2.2) (fun rec v => slices_stableCmpFunc_int64_impl_Tasks_byGap_1.s2 k (fun a0 a1 a2 a3 => R1 (n186_c164_1 a0 a1 a2 a3)) (fun a0 a1 a2 a3 a4 a5 => rec (a0, a1, a2, a3, a4, a5)) v.1 v.2.1 v.2.2.1 v.2.2.2.1 v.2.2.2.2.1 v.2.2.2.2.2) (fun n v => slices_stableCmpFunc_int64_impl_Tasks_byGap_1.l2 k (fun a0 a1 a2 a3 => R1 (n186_c164_1 a0 a1 a2 a3)) n v.1 v.2.1 v.2.2.1 v.2.2.2.1 v.2.2.2.2.1 v.2.2.2.2.2) (fun _ => rfl) (fun _ _ => rfl) (fun rec v => r186_c164_2 k R1 rec v) n
theorem r186_c164_1 (k : Nat) (rec : St → Option ((List Int))) (G2 : (List Int) → Int → (List Int) → Int → Int → Int → Option ((List Int))) (h2 : ∀ a0 a1 a2 a3 a4 a5, loopF (E186_c164 k) (S186_c164 k) Try.f186 p186_c164_2 [rec] k (n186_c164_2 a0 a1 a2 a3 a4 a5) = G2 a0 a1 a2 a3 a4 a5) (v : (List Int) × Int × (List Int) × Int) : roundF (E186_c164 k) (S186_c164 k) Try.f186 p186_c164_1 [] rec (n186_c164_1 v.1 v.2.1 v.2.2.1 v.2.2.2) = slices_stableCmpFunc_int64_impl_Tasks_byGap_1.s1 k (fun a0 a1 a2 a3 => rec (n186_c164_1 a0 a1 a2 a3)) G2 v.1 v.2.1 v.2.2.1 v.2.2.2 := by
  obtain rfl : (fun a0 a1 a2 a3 a4 a5 => loopF (E186_c164 k) (S186_c164 k) Try.f186 p186_c164_2 [rec] k (n186_c164_2 a0 a1 a2 a3 a4 a5)) = G2 := funext fun a0 => funext fun a1 => funext fun a2 => funext fun a3 => funext fun a4 => funext fun a5 => h2 a0 a1 a2 a3 a4 a5
  kernel_rfl
theorem q186_c164_1 (k : Nat) (n : Nat) : ∀ v : (List Int) × Int × (List Int) × Int, loopF (E186_c164 k) (S186_c164 k) Try.f186 p186_c164_1 [] n (n186_c164_1 v.1 v.2.1 v.2.2.1 v.2.2.2) = slices_stableCmpFunc_int64_impl_Tasks_byGap_1.l1 k n v.1 v.2.1 v.2.2.1 v.2.2.2 :=
  loopF_eq (E186_c164 k) (S186_c164 k) Try.f186 p186_c164_1 [] (fun v : (List Int) × Int × (List Int) × Int => n186_c164_1 v.1 v.2.1 v.2.2.1 v.2.2.2) (fun rec v => slices_stableCmpFunc_int64_impl_Tasks_byGap_1.s1 k (fun a0 a1 a2 a3 => rec (a0, a1, a2, a3)) (slices_stableCmpFunc_int64_impl_Tasks_byGap_1.l2 k (fun a0 a1 a2 a3 => rec (a0, a1, a2, a3)) k) v.1 v.2.1 v.2.2.1 v.2.2.2) (fun n v => slices_stableCmpFunc_int64_impl_Tasks_byGap_1.l1 k n v.1 v.2.1 v.2.2.1 v.2.2.2) (fun _ => rfl) (fun _ _ => rfl) (fun rec v => r186_c164_1 k rec _ (fun a0 a1 a2 a3 a4 a5 => q186_c164_2 k rec k (a0, a1, a2, a3, a4, a5)) v) n
theorem r186_c164_0 (k : Nat) (rec : St → Option ((List Int))) (G1 : (List Int) → Int → (List Int) → Int → Option ((List Int))) (h1 : ∀ a0 a1 a2 a3, loopF (E186_c164 k) (S186_c164 k) Try.f186 p186_c164_1 [] k (n186_c164_1 a0 a1 a2 a3) = G1 a0 a1 a2 a3) (v : (List Int) × Int × (List Int) × Int × Int × Int) : roundF (E186_c164 k) (S186_c164 k) Try.f186 p186_c164_0 [] rec (n186_c164_0 v.1 v.2.1 v.2.2.1 v.2.2.2.1 v.2.2.2.2.1 v.2.2.2.2.2) = slices_stableCmpFunc_int64_impl_Tasks_byGap_1.s0 k (fun a0 a1 a2 a3 a4 a5 => rec (n186_c164_0 a0 a1 a2 a3 a4 a5)) G1 v.1 v.2.1 v.2.2.1 v.2.2.2.1 v.2.2.2.2.1 v.2.2.2.2.2 := by
  obtain rfl : (fun a0 a1 a2 a3 => loopF (E186_c164 k) (S186_c164 k) Try.f186 p186_c164_1 [] k (n186_c164_1 a0 a1 a2 a3)) = G1 := funext fun a0 => funext fun a1 => funext fun a2 => funext fun a3 => h1 a0 a1 a2 a3
  kernel_rfl
theorem q186_c164_0 (k : Nat) (n : Nat) : ∀ v : (List Int) × Int × (List Int) × Int × Int × Int, loopF (E186_c164 k) (S186_c164 k) Try.f186 p186_c164_0 [] n (n186_c164_0 v.1 v.2.1 v.2.2.1 v.2.2.2.1 v.2.2.2.2.1 v.2.2.2.2.2) = slices_stableCmpFunc_int64_impl_Tasks_byGap_1.l0 k n v.1 v.2.1 v.2.2.1 v.2.2.2.1 v.2.2.2.2.1 v.2.2.2.2.2 :=
  loopF_eq (E186_c164 k) (S186_c164 k) Try.f186 p186_c164_0 [] (fun v : (List Int) × Int × (List Int) × Int × Int × Int => n186_c164_0 v.1 v.2.1 v.2.2.1 v.2.2.2.1 v.2.2.2.2.1 v.2.2.2.2.2) (fun rec v => slices_stableCmpFunc_int64_impl_Tasks_byGap_1.s0 k (fun a0 a1 a2 a3 a4 a5 => rec (a0, a1, a2, a3, a4, a5)) (slices_stableCmpFunc_int64_impl_Tasks_byGap_1.l1 k k) v.1 v.2.1 v.2.2.1 v.2.2.2.1 v.2.2.2.2.1 v.2.2.2.2.2) (fun n v => slices_stableCmpFunc_int64_impl_Tasks_byGap_1.l0 k n v.1 v.2.1 v.2.2.1 v.2.2.2.1 v.2.2.2.2.1 v.2.2.2.2.2) (fun _ => rfl) (fun _ _ => rfl) (fun rec v => r186_c164_0 k rec _ (fun a0 a1 a2 a3 => q186_c164_1 k k (a0, a1, a2, a3)) v) n
theorem e186_c164 (k : Nat) (x : dens (flatC (S186_c164 k).ps)) : funK (E186_c164 k) (S186_c164 k) Try.f186 x = (S186_c164 k).fn x := by
  have h : funK (E186_c164 k) (S186_c164 k) Try.f186 x = slices_stableCmpFunc_int64_impl_Tasks_byGap_1.g k (fun a0 a1 a2 a3 a4 a5 => loopF (E186_c164 k) (S186_c164 k) Try.f186 p186_c164_0 [] k (n186_c164_0 a0 a1 a2 a3 a4 a5)) x.1 x.2.1 x.2.2 := by kernel_rfl
  rw [h]
  rw [show (fun a0 a1 a2 a3 a4 a5 => loopF (E186_c164 k) (S186_c164 k) Try.f186 p186_c164_0 [] k (n186_c164_0 a0 a1 a2 a3 a4 a5)) = slices_stableCmpFunc_int64_impl_Tasks_byGap_1.l0 k k from funext fun a0 => funext fun a1 => funext fun a2 => funext fun a3 => funext fun a4 => funext fun a5 => q186_c164_0 k k (a0, a1, a2, a3, a4, a5)]
  rfl
theorem M186_c164 (k : Nat) : Meets Try.prog 186 (S186_c164 k) := meets_of Try.func186 (by kernel_rfl) tbOk (orc_cons (M192_c164 k) orc_nil) mixOk (fun x y h => (e186_c164 k x).trans h) rfl

/-! slices_SortStableFunc_int64_int64_impl_Tasks_byGap_1: function 163 -/
noncomputable def slices_SortStableFunc_int64_int64_impl_Tasks_byGap_1.f (k : Nat) (l0 : List Int) (a1 : List Int) : Option ((List Int)) := (slices_stableCmpFunc_int64_impl_Tasks_byGap_1.f k l0 (l0.length : Int) a1).bind fun t1 => some t1
noncomputable def S163_c164 (k : Nat) : Does := ⟨[(false, [.own 2 (.int .i64)]), (false, [.dat (.clo 164 (.ptr (.struct (.list (.int .i64)))))])], [], fun x => slices_SortStableFunc_int64_int64_impl_Tasks_byGap_1.f k x.1 x.2⟩
noncomputable def E163_c164 (k : Nat) : En := ⟨tb, orcOf [(186, S186_c164 k)], lvOf [], k, 1, lvOf [], []⟩
theorem e163_c164 (k : Nat) (x : dens (flatC (S163_c164 k).ps)) : funK (E163_c164 k) (S163_c164 k) Try.f163 x = (S163_c164 k).fn x := by
  kernel_rfl
theorem M163_c164 (k : Nat) : Meets Try.prog 163 (S163_c164 k) := meets_of Try.func163 (by kernel_rfl) tbOk (orc_cons (M186_c164 k) orc_nil) mixOk (fun x y h => (e163_c164 k x).trans h) rfl

/-! impl_Tasks_byGap: function 115 -/
noncomputable def impl_Tasks_byGap.s0 (k : Nat) (r0 : (List Int) → (List Int) → Int → Int → Option ((List Int))) (x1_0 : List Int) (x3 : List Int) (x6 : Int) (x7 : Int) : Option ((List Int)) := if x7 < x6 then (if x3.length + 1 ≤ 1099511627776 then (r0 x1_0 (x3 ++ [x7]) x6 (wrap64 (x7 + 1))) else (none)) else ((slices_SortStableFunc_int64_int64_impl_Tasks_byGap_1.f k x3 x1_0).bind fun t2 => some t2)
noncomputable def impl_Tasks_byGap.l0 (k : Nat) : Nat → (List Int) → (List Int) → Int → Int → Option ((List Int))
  | 0, _, _, _, _ => none
  | n + 1, x0, x1, x2, x3 => impl_Tasks_byGap.s0 k (impl_Tasks_byGap.l0 k n) x0 x1 x2 x3
noncomputable def impl_Tasks_byGap.g (k : Nat) (r0 : (List Int) → (List Int) → Int → Int → Option ((List Int))) (l0_0 : List Int) : Option ((List Int)) := (impl_Tasks_many.f l0_0).bind fun t1 => r0 l0_0 [] t1 0
noncomputable def impl_Tasks_byGap.f (k : Nat) (l0_0 : List Int) : Option ((List Int)) := impl_Tasks_byGap.g k (impl_Tasks_byGap.l0 k k) l0_0
noncomputable def S115 (k : Nat) : Does := ⟨[(true, [.dat (.list (.int .i64))])], [(false, [.own 2 (.int .i64)])], fun x => impl_Tasks_byGap.f k x⟩
noncomputable def E115 (k : Nat) : En := ⟨tb, orcOf [(162, S162 k), (163, S163_c164 k)], lvOf [(0, [(1, []), (3, [.nil 2 (.int .i64)]), (6, []), (7, [])])], k, 0, lvOf [], []⟩
noncomputable def n115_0 (x1_0 : List Int) (x3 : List Int) (x6 : Int) (x7 : Int) : St := ⟨19, lookA [(1, .box 0 0), (3, .own 1), (6, .dat (.int .i64) x6), (7, .dat (.int .i64) x7)], Go.V.look [(0, .cells [.dat (.list (.int .i64)) x1_0]), (1, .flat 2 (.int .i64) x3)]⟩
def p115_0 : List Bool := [true, true, false, true, false]
theorem r115_0 (k : Nat) (rec : St → Option ((List Int))) (v : (List Int) × (List Int) × Int × Int) : roundF (E115 k) (S115 k) Try.f115 p115_0 [] rec (n115_0 v.1 v.2.1 v.2.2.1 v.2.2.2) = impl_Tasks_byGap.s0 k (fun a0 a1 a2 a3 => rec (n115_0 a0 a1 a2 a3)) v.1 v.2.1 v.2.2.1 v.2.2.2 := by
  kernel_rfl
theorem q115_0 (k : Nat) (n : Nat) : ∀ v : (List Int) × (List Int) × Int × Int, loopF (E115 k) (S115 k) Try.f115 p115_0 [] n (n115_0 v.1 v.2.1 v.2.2.1 v.2.2.2) = impl_Tasks_byGap.l0 k n v.1 v.2.1 v.2.2.1 v.2.2.2 :=
  loopF_eq (E115 k) (S115 k) Try.f115 p115_0 [] (fun v : (List Int) × (List Int) × Int × Int => n115_0 v.1 v.2.1 v.2.2.1 v.2.2.2) (fun rec v => impl_Tasks_byGap.s0 k (fun a0 a1 a2 a3 => rec (a0, a1, a2, a3)) v.1 v.2.1 v.2.2.1 v.2.2.2) (fun n v => impl_Tasks_byGap.l0 k n v.1 v.2.1 v.2.2.1 v.2.2.2) (fun _ => rfl) (fun _ _ => rfl) (fun rec v => r115_0 k rec v) n
theorem e115 (k : Nat) (x : dens (flatC (S115 k).ps)) : funK (E115 k) (S115 k) Try.f115 x = (S115 k).fn x := by
  have h : funK (E115 k) (S115 k) Try.f115 x = impl_Tasks_byGap.g k (fun a0 a1 a2 a3 => loopF (E115 k) (S115 k) Try.f115 p115_0 [] k (n115_0 a0 a1 a2 a3)) x := by kernel_rfl
  rw [h]
  rw [show (fun a0 a1 a2 a3 => loopF (E115 k) (S115 k) Try.f115 p115_0 [] k (n115_0 a0 a1 a2 a3)) = impl_Tasks_byGap.l0 k k from funext fun a0 => funext fun a1 => funext fun a2 => funext fun a3 => q115_0 k k (a0, a1, a2, a3)]
  rfl
theorem M115 (k : Nat) : Meets Try.prog 115 (S115 k) := meets_of Try.func115 (by kernel_rfl) tbOk (orc_cons (M162 k) (orc_cons (M163_c164 k) orc_nil)) mixOk (fun x y h => (e115 k x).trans h) rfl

/-! impl_OrderByDeadlines: function 30 -/
noncomputable def impl_OrderByDeadlines.f (k : Nat) (l0_0 : List Int) (l0_1 : List Int) (l0_2 : List Int) : Option ((List Int) × Int) := (impl_jobsCode.f k l0_0 l0_1 l0_2 true false).bind fun t1 => if t1 = 0 then ((impl_Tasks_byGap.f k l0_2).bind fun t2 => some (t2, 0)) else (some ([], t1))
noncomputable def S30 (k : Nat) : Does := ⟨[(true, [.dat (.list (.int .i64)), .dat (.list (.int .i64)), .dat (.list (.int .i64))])], [(false, [.own 2 (.int .i64)]), (false, [.dat (.int .i64)])], fun x => impl_OrderByDeadlines.f k x.1 x.2.1 x.2.2⟩
noncomputable def E30 (k : Nat) : En := ⟨tb, orcOf [(94, S94 k), (115, S115 k)], lvOf [], k, 0, lvOf [], []⟩
theorem e30 (k : Nat) (x : dens (flatC (S30 k).ps)) : funK (E30 k) (S30 k) Try.f30 x = (S30 k).fn x := by
  kernel_rfl
theorem M30 (k : Nat) : Meets Try.prog 30 (S30 k) := meets_of Try.func30 (by kernel_rfl) tbOk (orc_cons (M94 k) (orc_cons (M115 k) orc_nil)) mixOk (fun x y h => (e30 k x).trans h) rfl

/-! spec_DrawTurnsOfJobs: function 85 -/
noncomputable def spec_DrawTurnsOfJobs.f (k : Nat) (l0 : List Int) : Option ((List Int) × (List Int) × (List Int)) := (spec_l04Draw.f k l0).bind fun t1 => some (t1.1, t1.2.1, t1.2.2)
noncomputable def S85 (k : Nat) : Does := ⟨[(false, [.dat (.list (.int .u8))])], [(true, [.dat (.list (.int .i64)), .dat (.list (.int .i64)), .dat (.list (.int .i64))])], fun x => spec_DrawTurnsOfJobs.f k x⟩
noncomputable def E85 (k : Nat) : En := ⟨tb, orcOf [(120, S120 k)], lvOf [], k, 0, lvOf [], []⟩
theorem e85 (k : Nat) (x : dens (flatC (S85 k).ps)) : funK (E85 k) (S85 k) Try.f85 x = (S85 k).fn x := by
  kernel_rfl
theorem M85 (k : Nat) : Meets Try.prog 85 (S85 k) := meets_of Try.func85 (by kernel_rfl) tbOk (orc_cons (M120 k) orc_nil) mixOk (fun x y h => (e85 k x).trans h) rfl

/-! impl_Jobs_earliest: function 112 -/
noncomputable def impl_Jobs_earliest.s2 (k : Nat) (r0 : (List Int) → (List Int) → (List Int) → (List Int) → (List Int) → (List Int) → Int → Option ((List Int) × Int)) (r2 : (List Int) → (List Int) → (List Int) → (List Int) → (List Int) → (List Int) → Int → Int → (List Int) → Int → Int → Option ((List Int) × Int)) (x1_0 : List Int) (x1_1 : List Int) (x1_2 : List Int) (x4 : List Int) (x5 : List Int) (x6 : List Int) (x7 : Int) (x9 : Int) (x47 : List Int) (x48 : Int) (x49 : Int) : Option ((List Int) × Int) := if x49 < x48 then (if 0 ≤ x49 then (if x49 < (x47.length : Int) then (if (rd x47 x49) = 0 then (none) else (if (Int.tmod x7 (rd x47 x49)) = 0 then (if 0 ≤ x49 then (if x49 < (x1_0.length : Int) then (if 0 ≤ x49 then (if x49 < (x1_2.length : Int) then (if 0 ≤ x49 then (if x49 < (x4.length : Int) then (if 0 ≤ x49 then (if x49 < (x5.length : Int) then (if 0 ≤ x49 then (if x49 < ((x4.set x49.toNat (rd x1_0 x49)).length : Int) then (if 0 < (rd (x4.set x49.toNat (rd x1_0 x49)) x49) then (if x9 = (-1) then (r2 x1_0 x1_1 x1_2 (x4.set x49.toNat (rd x1_0 x49)) (x5.set x49.toNat (wrap64 (x7 + (rd x1_2 x49)))) x6 x7 x49 x47 x48 (wrap64 (x49 + 1))) else (if 0 ≤ x49 then (if x49 < ((x5.set x49.toNat (wrap64 (x7 + (rd x1_2 x49)))).length : Int) then (if 0 ≤ x9 then (if x9 < ((x5.set x49.toNat (wrap64 (x7 + (rd x1_2 x49)))).length : Int) then (if (rd (x5.set x49.toNat (wrap64 (x7 + (rd x1_2 x49)))) x49) < (rd (x5.set x49.toNat (wrap64 (x7 + (rd x1_2 x49)))) x9) then (r2 x1_0 x1_1 x1_2 (x4.set x49.toNat (rd x1_0 x49)) (x5.set x49.toNat (wrap64 (x7 + (rd x1_2 x49)))) x6 x7 x49 x47 x48 (wrap64 (x49 + 1))) else (r2 x1_0 x1_1 x1_2 (x4.set x49.toNat (rd x1_0 x49)) (x5.set x49.toNat (wrap64 (x7 + (rd x1_2 x49)))) x6 x7 x9 x47 x48 (wrap64 (x49 + 1)))) else (none)) else (none)) else (none)) else (none))) else (r2 x1_0 x1_1 x1_2 (x4.set x49.toNat (rd x1_0 x49)) (x5.set x49.toNat (wrap64 (x7 + (rd x1_2 x49)))) x6 x7 x9 x47 x48 (wrap64 (x49 + 1)))) else (none)) else (none)) else (none)) else (none)) else (none)) else (none)) else (none)) else (none)) else (none)) else (none)) else (if 0 ≤ x49 then (if x49 < (x4.length : Int) then (if 0 < (rd x4 x49) then (if x9 = (-1) then (r2 x1_0 x1_1 x1_2 x4 x5 x6 x7 x49 x47 x48 (wrap64 (x49 + 1))) else (if 0 ≤ x49 then (if x49 < (x5.length : Int) then (if 0 ≤ x9 then (if x9 < (x5.length : Int) then (if (rd x5 x49) < (rd x5 x9) then (r2 x1_0 x1_1 x1_2 x4 x5 x6 x7 x49 x47 x48 (wrap64 (x49 + 1))) else (r2 x1_0 x1_1 x1_2 x4 x5 x6 x7 x9 x47 x48 (wrap64 (x49 + 1)))) else (none)) else (none)) else (none)) else (none))) else (r2 x1_0 x1_1 x1_2 x4 x5 x6 x7 x9 x47 x48 (wrap64 (x49 + 1)))) else (none)) else (none)))) else (none)) else (none)) else (if x9 = (-1) then (if x6.length + 1 ≤ 1099511627776 then (r0 x1_0 x1_1 x1_2 x4 x5 (x6 ++ [x9]) (wrap64 (x7 + 1))) else (none)) else (if 0 ≤ x9 then (if x9 < (x4.length : Int) then (if 0 ≤ x9 then (if x9 < (x4.length : Int) then (if x6.length + 1 ≤ 1099511627776 then (r0 x1_0 x1_1 x1_2 (x4.set x9.toNat (wrap64 ((rd x4 x9) - 1))) x5 (x6 ++ [x9]) (wrap64 (x7 + 1))) else (none)) else (none)) else (none)) else (none)) else (none)))
noncomputable def impl_Jobs_earliest.l2 (k : Nat) (r0 : (List Int) → (List Int) → (List Int) → (List Int) → (List Int) → (List Int) → Int → Option ((List Int) × Int)) : Nat → (List Int) → (List Int) → (List Int) → (List Int) → (List Int) → (List Int) → Int → Int → (List Int) → Int → Int → Option ((List Int) × Int)
  | 0, _, _, _, _, _, _, _, _, _, _, _ => none
  | n + 1, x0, x1, x2, x3, x4, x5, x6, x7, x8, x9, x10 => impl_Jobs_earliest.s2 k r0 (impl_Jobs_earliest.l2 k r0 n) x0 x1 x2 x3 x4 x5 x6 x7 x8 x9 x10
noncomputable def impl_Jobs_earliest.s1 (k : Nat) (r1 : (List Int) → (List Int) → (List Int) → (List Int) → (List Int) → (List Int) → Int → Int → Int → Option ((List Int) × Int)) (r2 : (List Int) → (List Int) → (List Int) → (List Int) → (List Int) → (List Int) → Int → Int → (List Int) → Int → Int → Option ((List Int) × Int)) (x1_0 : List Int) (x1_1 : List Int) (x1_2 : List Int) (x4 : List Int) (x5 : List Int) (x6 : List Int) (x7 : Int) (x21 : Int) (x22 : Int) : Option ((List Int) × Int) := if x22 < x21 then (if 0 ≤ x22 then (if x22 < (x4.length : Int) then (if 0 < (rd x4 x22) then (if 0 ≤ x22 then (if x22 < (x5.length : Int) then (if (rd x5 x22) ≤ x7 then (some (x6, x22)) else (r1 x1_0 x1_1 x1_2 x4 x5 x6 x7 x21 (wrap64 (x22 + 1)))) else (none)) else (none)) else (r1 x1_0 x1_1 x1_2 x4 x5 x6 x7 x21 (wrap64 (x22 + 1)))) else (none)) else (none)) else ((impl_Jobs_whole.f k x1_0 x1_1 x1_2).bind fun t3 => if x7 = t3 then (some (x6, (-1))) else (r2 x1_0 x1_1 x1_2 x4 x5 x6 x7 (-1) x1_1 (x1_1.length : Int) 0))
noncomputable def impl_Jobs_earliest.l1 (k : Nat) (r0 : (List Int) → (List Int) → (List Int) → (List Int) → (List Int) → (List Int) → Int → Option ((List Int) × Int)) : Nat → (List Int) → (List Int) → (List Int) → (List Int) → (List Int) → (List Int) → Int → Int → Int → Option ((List Int) × Int)
  | 0, _, _, _, _, _, _, _, _, _ => none
  | n + 1, x0, x1, x2, x3, x4, x5, x6, x7, x8 => impl_Jobs_earliest.s1 k (impl_Jobs_earliest.l1 k r0 n) (impl_Jobs_earliest.l2 k r0 k) x0 x1 x2 x3 x4 x5 x6 x7 x8
noncomputable def impl_Jobs_earliest.s0 (k : Nat) (r0 : (List Int) → (List Int) → (List Int) → (List Int) → (List Int) → (List Int) → Int → Option ((List Int) × Int)) (r1 : (List Int) → (List Int) → (List Int) → (List Int) → (List Int) → (List Int) → Int → Int → Int → Option ((List Int) × Int)) (x1_0 : List Int) (x1_1 : List Int) (x1_2 : List Int) (x4 : List Int) (x5 : List Int) (x6 : List Int) (x7 : Int) : Option ((List Int) × Int) := r1 x1_0 x1_1 x1_2 x4 x5 x6 x7 (x4.length : Int) 0
noncomputable def impl_Jobs_earliest.l0 (k : Nat) : Nat → (List Int) → (List Int) → (List Int) → (List Int) → (List Int) → (List Int) → Int → Option ((List Int) × Int)
  | 0, _, _, _, _, _, _, _ => none
  | n + 1, x0, x1, x2, x3, x4, x5, x6 => impl_Jobs_earliest.s0 k (impl_Jobs_earliest.l0 k n) (impl_Jobs_earliest.l1 k (impl_Jobs_earliest.l0 k n) k) x0 x1 x2 x3 x4 x5 x6
noncomputable def impl_Jobs_earliest.g (k : Nat) (r0 : (List Int) → (List Int) → (List Int) → (List Int) → (List Int) → (List Int) → Int → Option ((List Int) × Int)) (l0_0 : List Int) (l0_1 : List Int) (l0_2 : List Int) : Option ((List Int) × Int) := (impl_Jobs_many.f l0_0 l0_1 l0_2).bind fun t1 => if 0 ≤ t1 then (if t1 ≤ t1 then (if t1.toNat ≤ 1099511627776 then ((impl_Jobs_many.f l0_0 l0_1 l0_2).bind fun t2 => if 0 ≤ t2 then (if t2 ≤ t2 then (if t2.toNat ≤ 1099511627776 then (r0 l0_0 l0_1 l0_2 (List.replicate t1.toNat (0 : Int)) (List.replicate t2.toNat (0 : Int)) [] 0) else (none)) else (none)) else (none)) else (none)) else (none)) else (none)
noncomputable def impl_Jobs_earliest.f (k : Nat) (l0_0 : List Int) (l0_1 : List Int) (l0_2 : List Int) : Option ((List Int) × Int) := impl_Jobs_earliest.g k (impl_Jobs_earliest.l0 k k) l0_0 l0_1 l0_2
noncomputable def S112 (k : Nat) : Does := ⟨[(true, [.dat (.list (.int .i64)), .dat (.list (.int .i64)), .dat (.list (.int .i64))])], [(false, [.own 2 (.int .i64)]), (false, [.dat (.int .i64)])], fun x => impl_Jobs_earliest.f k x.1 x.2.1 x.2.2⟩
noncomputable def E112 (k : Nat) : En := ⟨tb, orcOf [(96, S96 k), (114, S114 k)], lvOf [(0, [(1, []), (4, []), (5, []), (6, [.nil 2 (.int .i64)]), (7, [])]), (2, [(1, []), (4, []), (5, []), (6, []), (7, []), (21, []), (22, [])]), (4, [(1, []), (4, []), (5, []), (6, []), (7, []), (9, []), (47, []), (48, []), (49, [])])], k, 0, lvOf [], []⟩
noncomputable def n112_0 (x1_0 : List Int) (x1_1 : List Int) (x1_2 : List Int) (x4 : List Int) (x5 : List Int) (x6 : List Int) (x7 : Int) : St := ⟨110, lookA [(1, .box 0 0), (4, .own 1), (5, .own 2), (6, .own 3), (7, .dat (.int .i64) x7)], Go.V.look [(0, .cells [.dat (.list (.int .i64)) x1_0, .dat (.list (.int .i64)) x1_1, .dat (.list (.int .i64)) x1_2]), (1, .flat 2 (.int .i64) x4), (2, .flat 2 (.int .i64) x5), (3, .flat 2 (.int .i64) x6)]⟩
def p112_0 : List Bool := [true, true, true, true, false]
noncomputable def n112_1 (x1_0 : List Int) (x1_1 : List Int) (x1_2 : List Int) (x4 : List Int) (x5 : List Int) (x6 : List Int) (x7 : Int) (x21 : Int) (x22 : Int) : St := ⟨110, lookA [(1, .box 0 0), (4, .own 1), (5, .own 2), (6, .own 3), (7, .dat (.int .i64) x7), (21, .dat (.int .i64) x21), (22, .dat (.int .i64) x22)], Go.V.look [(0, .cells [.dat (.list (.int .i64)) x1_0, .dat (.list (.int .i64)) x1_1, .dat (.list (.int .i64)) x1_2]), (1, .flat 2 (.int .i64) x4), (2, .flat 2 (.int .i64) x5), (3, .flat 2 (.int .i64) x6)]⟩
def p112_1 : List Bool := [true, true, true, true, false, false, false, false, false, true, false]
noncomputable def n112_2 (x1_0 : List Int) (x1_1 : List Int) (x1_2 : List Int) (x4 : List Int) (x5 : List Int) (x6 : List Int) (x7 : Int) (x9 : Int) (x47 : List Int) (x48 : Int) (x49 : Int) : St := ⟨110, lookA [(1, .box 0 0), (4, .own 1), (5, .own 2), (6, .own 3), (7, .dat (.int .i64) x7), (9, .dat (.int .i64) x9), (47, .dat (.list (.int .i64)) x47), (48, .dat (.int .i64) x48), (49, .dat (.int .i64) x49)], Go.V.look [(0, .cells [.dat (.list (.int .i64)) x1_0, .dat (.list (.int .i64)) x1_1, .dat (.list (.int .i64)) x1_2]), (1, .flat 2 (.int .i64) x4), (2, .flat 2 (.int .i64) x5), (3, .flat 2 (.int .i64) x6)]⟩
def p112_2 : List Bool := [true, true, true, true, false, false, false, false, true, true, true, false, true, false]
theorem r112_2 (k : Nat) (R0 : St → Option ((List Int) × Int)) (rec : St → Option ((List Int) × Int)) (v : (List Int) × (List Int) × (List Int) × (List Int) × (List Int) × (List Int) × Int × Int × (List Int) × Int × Int) : roundF (E112 k) (S112 k) Try.f112 p112_2 [R0] rec (n112_2 v.1 v.2.1 v.2.2.1 v.2.2.2.1 v.2.2.2.2.1 v.2.2.2.2.2.1 v.2.2.2.2.2.2.1 v.2.2.2.2.2.2.2.1 v.2.2.2.2.2.2.2.2.1 v.2.2.2.2.2.2.2.2.2.1 v.2.2.2.2.2.2.2.2.2.2) = impl_Jobs_earliest.s2 k (fun a0 a1 a2 a3 a4 a5 a6 => R0 (n112_0 a0 a1 a2 a3 a4 a5 a6)) (fun a0 a1 a2 a3 a4 a5 a6 a7 a8 a9 a10 => rec (n112_2 a0 a1 a2 a3 a4 a5 a6 a7 a8 a9 a10)) v.1 v.2.1 v.2.2.1 v.2.2.2.1 v.2.2.2.2.1 v.2.2.2.2.2.1 v.2.2.2.2.2.2.1 v.2.2.2.2.2.2.2.1 v.2.2.2.2.2.2.2.2.1 v.2.2.2.2.2.2.2.2.2.1 v.2.2.2.2.2.2.2.2.2.2 := by
  kernel_rfl
theorem q112_2 (k : Nat) (R0 : St → Option ((List Int) × Int)) (n : Nat) : ∀ v : (List Int) × (List Int) × (List Int) × (List Int) × (List Int) × (List Int) × Int × Int × (List Int) × Int × Int, loopF (E112 k) (S112 k) Try.f112 p112_2 [R0] n (n112_2 v.1 v.2.1 v.2.2.1 v.2.2.2.1 v.2.2.2.2.1 v.2.2.2.2.2.1 v.2.2.2.2.2.2.1 v.2.2.2.2.2.2.2.1 v.2.2.2.2.2.2.2.2.1 v.2.2.2.2.2.2.2.2.2.1 v.2.2.2.2.2.2.2.2.2.2) = impl_Jobs_earliest.l2 k (fun a0 a1 a2 a3 a4 a5 a6 => R0 (n112_0 a0 a1 a2 a3 a4 a5 a6)) n v.1 v.2.1 v.2.2.1 v.2.2.2.1 v.2.2.2.2.1 v.2.2.2.2.2.1 v.2.2.2.2.2.2.1 v.2.2.2.2.2.2.2.1 v.2.2.2.2.2.2.2.2.1 v.2.2.2.2.2.2.2.2.2.1 v.2.2.2.2.2.2.2.2.2.2 :=
  loopF_eq (E112 k) (S112 k) Try.f112 p112_2 [R0] (fun v : (List Int) × (List Int) × (List Int) × (List Int) × (List Int) × (List Int) × Int × Int × (List Int) × Int × Int => n112_2 v.1 v.2.1 v.2.2.1 v.2.2.2.1 v.2.2.2.2.1 v.2.2.2.2.2.1 v.2.2.2.2.2.2.1 v.2.2.2.2.2.2.2.1 v.2.2.2.2.2.2.2.2.1 v.2.2.2.2.2.2.2.2.2.1 v.2.2.2.2.2.2.2.2.2.2) (fun rec v => impl_Jobs_earliest.s2 k (fun a0 a1 a2 a3 a4 a5 a6 => R0 (n112_0 a0 a1 a2 a3 a4 a5 a6)) (fun a0 a1 a2 a3 a4 a5 a6 a7 a8 a9 a10 => rec (a0, a1, a2, a3, a4, a5, a6, a7, a8, a9, a10)) v.1 v.2.1 v.2.2.1 v.2.2.2.1 v.2.2.2.2.1 v.2.2.2.2.2.1 v.2.2.2.2.2.2.1 v.2.2.2.2.2.2.2.1 v.2.2.2.2.2.2.2.2.1 v.2.2.2.2.2.2.2.2.2.1 v.2.2.2.2.2.2.2.2.2.2) (fun n v => impl_Jobs_earliest.l2 k (fun a0 a1 a2 a3 a4 a5 a6 => R0 (n112_0 a0 a1 a2 a3 a4 a5 a6)) n v.1 v.2.1 v.2.2.1 v.2.2.2.1 v.2.2.2.2.1 v.2.2.2.2.2.1 v.2.2.2.2.2.2.1 v.2.2.2.2.2.2.2.1 v.2.2.2.2.2.2.2.2.1 v.2.2.2.2.2.2.2.2.2.1 v.2.2.2.2.2.2.2.2.2.2) (fun _ => rfl) (fun _ _ => rfl) (fun rec v => r112_2 k R0 rec v) n
theorem r112_1 (k : Nat) (R0 : St → Option ((List Int) × Int)) (rec : St → Option ((List Int) × Int)) (G2 : (List Int) → (List Int) → (List Int) → (List Int) → (List Int) → (List Int) → Int → Int → (List Int) → Int → Int → Option ((List Int) × Int)) (h2 : ∀ a0 a1 a2 a3 a4 a5 a6 a7 a8 a9 a10, loopF (E112 k) (S112 k) Try.f112 p112_2 [R0] k (n112_2 a0 a1 a2 a3 a4 a5 a6 a7 a8 a9 a10) = G2 a0 a1 a2 a3 a4 a5 a6 a7 a8 a9 a10) (v : (List Int) × (List Int) × (List Int) × (List Int) × (List Int) × (List Int) × Int × Int × Int) : roundF (E112 k) (S112 k) Try.f112 p112_1 [R0] rec (n112_1 v.1 v.2.1 v.2.2.1 v.2.2.2.1 v.2.2.2.2.1 v.2.2.2.2.2.1 v.2.2.2.2.2.2.1 v.2.2.2.2.2.2.2.1 v.2.2.2.2.2.2.2.2) = impl_Jobs_earliest.s1 k (fun a0 a1 a2 a3 a4 a5 a6 a7 a8 => rec (n112_1 a0 a1 a2 a3 a4 a5 a6 a7 a8)) G2 v.1 v.2.1 v.2.2.1 v.2.2.2.1 v.2.2.2.2.1 v.2.2.2.2.2.1 v.2.2.2.2.2.2.1 v.2.2.2.2.2.2.2.1 v.2.2.2.2.2.2.2.2 := by
  obtain rfl : (fun a0 a1 a2 a3 a4 a5 a6 a7 a8 a9 a10 => loopF (E112 k) (S112 k) Try.f112 p112_2 [R0] k (n112_2 a0 a1 a2 a3 a4 a5 a6 a7 a8 a9 a10)) = G2 := funext fun a0 => funext fun a1 => funext fun a2 => funext fun a3 => funext fun a4 => funext fun a5 => funext fun a6 => funext fun a7 => funext fun a8 => funext fun a9 => funext fun a10 => h2 a0 a1 a2 a3 a4 a5 a6 a7 a8 a9 a10
  kernel_rfl
theorem q112_1 (k : Nat) (R0 : St → Option ((List Int) × Int)) (n : Nat) : ∀ v : (List Int) × (List Int) × (List Int) × (List Int) × (List Int) × (List Int) × Int × Int × Int, loopF (E112 k) (S112 k) Try.f112 p112_1 [R0] n (n112_1 v.1 v.2.1 v.2.2.1 v.2.2.2.1 v.2.2.2.2.1 v.2.2.2.2.2.1 v.2.2.2.2.2.2.1 v.2.2.2.2.2.2.2.1 v.2.2.2.2.2.2.2.2) = impl_Jobs_earliest.l1 k (fun a0 a1 a2 a3 a4 a5 a6 => R0 (n112_0 a0 a1 a2 a3 a4 a5 a6)) n v.1 v.2.1 v.2.2.1 v.2.2.2.1 v.2.2.2.2.1 v.2.2.2.2.2.1 v.2.2.2.2.2.2.1 v.2.2.2.2.2.2.2.1 v.2.2.2.2.2.2.2.2 :=
  loopF_eq (E112 k) (S112 k) Try.f112 p112_1 [R0] (fun v : (List Int) × (List Int) × (List Int) × (List Int) × (List Int) × (List Int) × Int × Int × Int => n112_1 v.1 v.2.1 v.2.2.1 v.2.2.2.1 v.2.2.2.2.1 v.2.2.2.2.2.1 v.2.2.2.2.2.2.1 v.2.2.2.2.2.2.2.1 v.2.2.2.2.2.2.2.2) (fun rec v => impl_Jobs_earliest.s1 k (fun a0 a1 a2 a3 a4 a5 a6 a7 a8 => rec (a0, a1, a2, a3, a4, a5, a6, a7, a8)) (impl_Jobs_earliest.l2 k (fun a0 a1 a2 a3 a4 a5 a6 => R0 (n112_0 a0 a1 a2 a3 a4 a5 a6)) k) v.1 v.2.1 v.2.2.1 v.2.2.2.1 v.2.2.2.2.1 v.2.2.2.2.2.1 v.2.2.2.2.2.2.1 v.2.2.2.2.2.2.2.1 v.2.2.2.2.2.2.2.2) (fun n v => impl_Jobs_earliest.l1 k (fun a0 a1 a2 a3 a4 a5 a6 => R0 (n112_0 a0 a1 a2 a3 a4 a5 a6)) n v.1 v.2.1 v.2.2.1 v.2.2.2.1 v.2.2.2.2.1 v.2.2.2.2.2.1 v.2.2.2.2.2.2.1 v.2.2.2.2.2.2.2.1 v.2.2.2.2.2.2.2.2) (fun _ => rfl) (fun _ _ => rfl) (fun rec v => r112_1 k R0 rec _ (fun a0 a1 a2 a3 a4 a5 a6 a7 a8 a9 a10 => q112_2 k R0 k (a0, a1, a2, a3, a4, a5, a6, a7, a8, a9, a10)) v) n
theorem r112_0 (k : Nat) (rec : St → Option ((List Int) × Int)) (G1 : (List Int) → (List Int) → (List Int) → (List Int) → (List Int) → (List Int) → Int → Int → Int → Option ((List Int) × Int)) (h1 : ∀ a0 a1 a2 a3 a4 a5 a6 a7 a8, loopF (E112 k) (S112 k) Try.f112 p112_1 [rec] k (n112_1 a0 a1 a2 a3 a4 a5 a6 a7 a8) = G1 a0 a1 a2 a3 a4 a5 a6 a7 a8) (v : (List Int) × (List Int) × (List Int) × (List Int) × (List Int) × (List Int) × Int) : roundF (E112 k) (S112 k) Try.f112 p112_0 [] rec (n112_0 v.1 v.2.1 v.2.2.1 v.2.2.2.1 v.2.2.2.2.1 v.2.2.2.2.2.1 v.2.2.2.2.2.2) = impl_Jobs_earliest.s0 k (fun a0 a1 a2 a3 a4 a5 a6 => rec (n112_0 a0 a1 a2 a3 a4 a5 a6)) G1 v.1 v.2.1 v.2.2.1 v.2.2.2.1 v.2.2.2.2.1 v.2.2.2.2.2.1 v.2.2.2.2.2.2 := by
  obtain rfl : (fun a0 a1 a2 a3 a4 a5 a6 a7 a8 => loopF (E112 k) (S112 k) Try.f112 p112_1 [rec] k (n112_1 a0 a1 a2 a3 a4 a5 a6 a7 a8)) = G1 := funext fun a0 => funext fun a1 => funext fun a2 => funext fun a3 => funext fun a4 => funext fun a5 => funext fun a6 => funext fun a7 => funext fun a8 => h1 a0 a1 a2 a3 a4 a5 a6 a7 a8
  kernel_rfl
theorem q112_0 (k : Nat) (n : Nat) : ∀ v : (List Int) × (List Int) × (List Int) × (List Int) × (List Int) × (List Int) × Int, loopF (E112 k) (S112 k) Try.f112 p112_0 [] n (n112_0 v.1 v.2.1 v.2.2.1 v.2.2.2.1 v.2.2.2.2.1 v.2.2.2.2.2.1 v.2.2.2.2.2.2) = impl_Jobs_earliest.l0 k n v.1 v.2.1 v.2.2.1 v.2.2.2.1 v.2.2.2.2.1 v.2.2.2.2.2.1 v.2.2.2.2.2.2 :=
  loopF_eq (E112 k) (S112 k) Try.f112 p112_0 [] (fun v : (List Int) × (List Int) × (List Int) × (List Int) × (List Int) × (List Int) × Int => n112_0 v.1 v.2.1 v.2.2.1 v.2.2.2.1 v.2.2.2.2.1 v.2.2.2.2.2.1 v.2.2.2.2.2.2) (fun rec v => impl_Jobs_earliest.s0 k (fun a0 a1 a2 a3 a4 a5 a6 => rec (a0, a1, a2, a3, a4, a5, a6)) (impl_Jobs_earliest.l1 k (fun a0 a1 a2 a3 a4 a5 a6 => rec (a0, a1, a2, a3, a4, a5, a6)) k) v.1 v.2.1 v.2.2.1 v.2.2.2.1 v.2.2.2.2.1 v.2.2.2.2.2.1 v.2.2.2.2.2.2) (fun n v => impl_Jobs_earliest.l0 k n v.1 v.2.1 v.2.2.1 v.2.2.2.1 v.2.2.2.2.1 v.2.2.2.2.2.1 v.2.2.2.2.2.2) (fun _ => rfl) (fun _ _ => rfl) (fun rec v => r112_0 k rec _ (fun a0 a1 a2 a3 a4 a5 a6 a7 a8 => q112_1 k rec k (a0, a1, a2, a3, a4, a5, a6, a7, a8)) v) n
theorem e112 (k : Nat) (x : dens (flatC (S112 k).ps)) : funK (E112 k) (S112 k) Try.f112 x = (S112 k).fn x := by
  have h : funK (E112 k) (S112 k) Try.f112 x = impl_Jobs_earliest.g k (fun a0 a1 a2 a3 a4 a5 a6 => loopF (E112 k) (S112 k) Try.f112 p112_0 [] k (n112_0 a0 a1 a2 a3 a4 a5 a6)) x.1 x.2.1 x.2.2 := by kernel_rfl
  rw [h]
  rw [show (fun a0 a1 a2 a3 a4 a5 a6 => loopF (E112 k) (S112 k) Try.f112 p112_0 [] k (n112_0 a0 a1 a2 a3 a4 a5 a6)) = impl_Jobs_earliest.l0 k k from funext fun a0 => funext fun a1 => funext fun a2 => funext fun a3 => funext fun a4 => funext fun a5 => funext fun a6 => q112_0 k k (a0, a1, a2, a3, a4, a5, a6)]
  rfl
theorem M112 (k : Nat) : Meets Try.prog 112 (S112 k) := meets_of Try.func112 (by kernel_rfl) tbOk (orc_cons (M96 k) (orc_cons (M114 k) orc_nil)) mixOk (fun x y h => (e112 k x).trans h) rfl

/-! impl_TurnsOfJobs: function 28 -/
noncomputable def impl_TurnsOfJobs.f (k : Nat) (l0_0 : List Int) (l0_1 : List Int) (l0_2 : List Int) : Option ((List Int) × Int) := (impl_jobsCode.f k l0_0 l0_1 l0_2 true true).bind fun t1 => if t1 = 0 then ((impl_Jobs_whole.f k l0_0 l0_1 l0_2).bind fun t2 => if 120 < t2 then (some ([], 3)) else ((impl_Jobs_earliest.f k l0_0 l0_1 l0_2).bind fun t3 => if 0 ≤ t3.2 then (some ([], 5)) else (some (t3.1, 0)))) else (some ([], t1))
noncomputable def S28 (k : Nat) : Does := ⟨[(true, [.dat (.list (.int .i64)), .dat (.list (.int .i64)), .dat (.list (.int .i64))])], [(false, [.own 2 (.int .i64)]), (false, [.dat (.int .i64)])], fun x => impl_TurnsOfJobs.f k x.1 x.2.1 x.2.2⟩
noncomputable def E28 (k : Nat) : En := ⟨tb, orcOf [(94, S94 k), (114, S114 k), (112, S112 k)], lvOf [], k, 0, lvOf [], []⟩
theorem e28 (k : Nat) (x : dens (flatC (S28 k).ps)) : funK (E28 k) (S28 k) Try.f28 x = (S28 k).fn x := by
  kernel_rfl
theorem M28 (k : Nat) : Meets Try.prog 28 (S28 k) := meets_of Try.func28 (by kernel_rfl) tbOk (orc_cons (M94 k) (orc_cons (M114 k) (orc_cons (M112 k) orc_nil))) mixOk (fun x y h => (e28 k x).trans h) rfl

/-! spec_l01Gcd: function 171 -/
noncomputable def spec_l01Gcd.s0 (k : Nat) (r0 : Int → Int → Option (Int)) (x0 : Int) (x1 : Int) : Option (Int) := if x1 = 0 then (some x0) else (if x1 = 0 then (none) else (r0 x1 (Int.tmod x0 x1)))
noncomputable def spec_l01Gcd.l0 (k : Nat) : Nat → Int → Int → Option (Int)
  | 0, _, _ => none
  | n + 1, x0, x1 => spec_l01Gcd.s0 k (spec_l01Gcd.l0 k n) x0 x1
noncomputable def spec_l01Gcd.g (k : Nat) (r0 : Int → Int → Option (Int)) (a0 : Int) (a1 : Int) : Option (Int) := r0 a0 a1
noncomputable def spec_l01Gcd.f (k : Nat) (a0 : Int) (a1 : Int) : Option (Int) := spec_l01Gcd.g k (spec_l01Gcd.l0 k k) a0 a1
noncomputable def S171 (k : Nat) : Does := ⟨[(false, [.dat (.int .i64)]), (false, [.dat (.int .i64)])], [(false, [.dat (.int .i64)])], fun x => spec_l01Gcd.f k x.1 x.2⟩
noncomputable def E171 (k : Nat) : En := ⟨tb, orcOf [], lvOf [(0, [(0, []), (1, [])])], k, 0, lvOf [], []⟩
noncomputable def n171_0 (x0 : Int) (x1 : Int) : St := ⟨14, lookA [(0, .dat (.int .i64) x0), (1, .dat (.int .i64) x1)], Go.V.look []⟩
def p171_0 : List Bool := [true, false, false]
theorem r171_0 (k : Nat) (rec : St → Option (Int)) (v : Int × Int) : roundF (E171 k) (S171 k) Try.f171 p171_0 [] rec (n171_0 v.1 v.2) = spec_l01Gcd.s0 k (fun a0 a1 => rec (n171_0 a0 a1)) v.1 v.2 := by
  kernel_rfl
theorem q171_0 (k : Nat) (n : Nat) : ∀ v : Int × Int, loopF (E171 k) (S171 k) Try.f171 p171_0 [] n (n171_0 v.1 v.2) = spec_l01Gcd.l0 k n v.1 v.2 :=
  loopF_eq (E171 k) (S171 k) Try.f171 p171_0 [] (fun v : Int × Int => n171_0 v.1 v.2) (fun rec v => spec_l01Gcd.s0 k (fun a0 a1 => rec (a0, a1)) v.1 v.2) (fun n v => spec_l01Gcd.l0 k n v.1 v.2) (fun _ => rfl) (fun _ _ => rfl) (fun rec v => r171_0 k rec v) n
theorem e171 (k : Nat) (x : dens (flatC (S171 k).ps)) : funK (E171 k) (S171 k) Try.f171 x = (S171 k).fn x := by
  have h : funK (E171 k) (S171 k) Try.f171 x = spec_l01Gcd.g k (fun a0 a1 => loopF (E171 k) (S171 k) Try.f171 p171_0 [] k (n171_0 a0 a1)) x.1 x.2 := by kernel_rfl
  rw [h]
  rw [show (fun a0 a1 => loopF (E171 k) (S171 k) Try.f171 p171_0 [] k (n171_0 a0 a1)) = spec_l01Gcd.l0 k k from funext fun a0 => funext fun a1 => q171_0 k k (a0, a1)]
  rfl
theorem M171 (k : Nat) : Meets Try.prog 171 (S171 k) := meets_of Try.func171 (by kernel_rfl) tbOk orc_nil mixOk (fun x y h => (e171 k x).trans h) rfl

/-! spec_l01Lcm: function 170 -/
noncomputable def spec_l01Lcm.f (k : Nat) (a0 : Int) (a1 : Int) : Option (Int) := (spec_l01Gcd.f k a0 a1).bind fun t1 => if t1 = 0 then (none) else (some (wrap64 ((wrap64 (Int.tdiv a0 t1)) * a1)))
noncomputable def S170 (k : Nat) : Does := ⟨[(false, [.dat (.int .i64)]), (false, [.dat (.int .i64)])], [(false, [.dat (.int .i64)])], fun x => spec_l01Lcm.f k x.1 x.2⟩
noncomputable def E170 (k : Nat) : En := ⟨tb, orcOf [(171, S171 k)], lvOf [], k, 0, lvOf [], []⟩
theorem e170 (k : Nat) (x : dens (flatC (S170 k).ps)) : funK (E170 k) (S170 k) Try.f170 x = (S170 k).fn x := by
  kernel_rfl
theorem M170 (k : Nat) : Meets Try.prog 170 (S170 k) := meets_of Try.func170 (by kernel_rfl) tbOk (orc_cons (M171 k) orc_nil) mixOk (fun x y h => (e170 k x).trans h) rfl

/-! spec_l04Whole: function 124 -/
noncomputable def spec_l04Whole.s0 (k : Nat) (r0 : (List Int) → (List Int) → (List Int) → Int → Int → Option (Int)) (x1_0 : List Int) (x1_1 : List Int) (x1_2 : List Int) (x3 : Int) (x4 : Int) : Option (Int) := if x4 < (x1_1.length : Int) then (if x3 ≤ 240 then (if 0 ≤ x4 then (if x4 < (x1_1.length : Int) then ((spec_l01Lcm.f k x3 (rd x1_1 x4)).bind fun t1 => r0 x1_0 x1_1 x1_2 t1 (wrap64 (x4 + 1))) else (none)) else (none)) else (some x3)) else (some x3)
noncomputable def spec_l04Whole.l0 (k : Nat) : Nat → (List Int) → (List Int) → (List Int) → Int → Int → Option (Int)
  | 0, _, _, _, _, _ => none
  | n + 1, x0, x1, x2, x3, x4 => spec_l04Whole.s0 k (spec_l04Whole.l0 k n) x0 x1 x2 x3 x4
noncomputable def spec_l04Whole.g (k : Nat) (r0 : (List Int) → (List Int) → (List Int) → Int → Int → Option (Int)) (l0_0 : List Int) (l0_1 : List Int) (l0_2 : List Int) : Option (Int) := r0 l0_0 l0_1 l0_2 1 0
noncomputable def spec_l04Whole.f (k : Nat) (l0_0 : List Int) (l0_1 : List Int) (l0_2 : List Int) : Option (Int) := spec_l04Whole.g k (spec_l04Whole.l0 k k) l0_0 l0_1 l0_2
noncomputable def S124 (k : Nat) : Does := ⟨[(true, [.dat (.list (.int .i64)), .dat (.list (.int .i64)), .dat (.list (.int .i64))])], [(false, [.dat (.int .i64)])], fun x => spec_l04Whole.f k x.1 x.2.1 x.2.2⟩
noncomputable def E124 (k : Nat) : En := ⟨tb, orcOf [(170, S170 k)], lvOf [(0, [(1, []), (3, []), (4, [])])], k, 0, lvOf [], []⟩
noncomputable def n124_0 (x1_0 : List Int) (x1_1 : List Int) (x1_2 : List Int) (x3 : Int) (x4 : Int) : St := ⟨24, lookA [(1, .box 0 0), (3, .dat (.int .i64) x3), (4, .dat (.int .i64) x4)], Go.V.look [(0, .cells [.dat (.list (.int .i64)) x1_0, .dat (.list (.int .i64)) x1_1, .dat (.list (.int .i64)) x1_2])]⟩
def p124_0 : List Bool := [true, true, false, true, false]
theorem r124_0 (k : Nat) (rec : St → Option (Int)) (v : (List Int) × (List Int) × (List Int) × Int × Int) : roundF (E124 k) (S124 k) Try.f124 p124_0 [] rec (n124_0 v.1 v.2.1 v.2.2.1 v.2.2.2.1 v.2.2.2.2) = spec_l04Whole.s0 k (fun a0 a1 a2 a3 a4 => rec (n124_0 a0 a1 a2 a3 a4)) v.1 v.2.1 v.2.2.1 v.2.2.2.1 v.2.2.2.2 := by
  kernel_rfl
theorem q124_0 (k : Nat) (n : Nat) : ∀ v : (List Int) × (List Int) × (List Int) × Int × Int, loopF (E124 k) (S124 k) Try.f124 p124_0 [] n (n124_0 v.1 v.2.1 v.2.2.1 v.2.2.2.1 v.2.2.2.2) = spec_l04Whole.l0 k n v.1 v.2.1 v.2.2.1 v.2.2.2.1 v.2.2.2.2 :=
  loopF_eq (E124 k) (S124 k) Try.f124 p124_0 [] (fun v : (List Int) × (List Int) × (List Int) × Int × Int => n124_0 v.1 v.2.1 v.2.2.1 v.2.2.2.1 v.2.2.2.2) (fun rec v => spec_l04Whole.s0 k (fun a0 a1 a2 a3 a4 => rec (a0, a1, a2, a3, a4)) v.1 v.2.1 v.2.2.1 v.2.2.2.1 v.2.2.2.2) (fun n v => spec_l04Whole.l0 k n v.1 v.2.1 v.2.2.1 v.2.2.2.1 v.2.2.2.2) (fun _ => rfl) (fun _ _ => rfl) (fun rec v => r124_0 k rec v) n
theorem e124 (k : Nat) (x : dens (flatC (S124 k).ps)) : funK (E124 k) (S124 k) Try.f124 x = (S124 k).fn x := by
  have h : funK (E124 k) (S124 k) Try.f124 x = spec_l04Whole.g k (fun a0 a1 a2 a3 a4 => loopF (E124 k) (S124 k) Try.f124 p124_0 [] k (n124_0 a0 a1 a2 a3 a4)) x.1 x.2.1 x.2.2 := by kernel_rfl
  rw [h]
  rw [show (fun a0 a1 a2 a3 a4 => loopF (E124 k) (S124 k) Try.f124 p124_0 [] k (n124_0 a0 a1 a2 a3 a4)) = spec_l04Whole.l0 k k from funext fun a0 => funext fun a1 => funext fun a2 => funext fun a3 => funext fun a4 => q124_0 k k (a0, a1, a2, a3, a4)]
  rfl
theorem M124 (k : Nat) : Meets Try.prog 124 (S124 k) := meets_of Try.func124 (by kernel_rfl) tbOk (orc_cons (M170 k) orc_nil) mixOk (fun x y h => (e124 k x).trans h) rfl

/-! spec_l04Code: function 110 -/
noncomputable def spec_l04Code.f (k : Nat) (l0_0 : List Int) (l0_1 : List Int) (l0_2 : List Int) : Option (Int) := (spec_l04Is.f k l0_0 l0_1 l0_2).bind fun t1 => if (!decide (t1 = true)) = true then (some 1) else ((spec_l04Whole.f k l0_0 l0_1 l0_2).bind fun t2 => if (decide (240 < t2)) = true then (some 3) else (some 0))
noncomputable def S110 (k : Nat) : Does := ⟨[(true, [.dat (.list (.int .i64)), .dat (.list (.int .i64)), .dat (.list (.int .i64))])], [(false, [.dat (.int .i64)])], fun x => spec_l04Code.f k x.1 x.2.1 x.2.2⟩
noncomputable def E110 (k : Nat) : En := ⟨tb, orcOf [(92, S92 k), (124, S124 k)], lvOf [], k, 0, lvOf [], []⟩
theorem e110 (k : Nat) (x : dens (flatC (S110 k).ps)) : funK (E110 k) (S110 k) Try.f110 x = (S110 k).fn x := by
  kernel_rfl
theorem M110 (k : Nat) : Meets Try.prog 110 (S110 k) := meets_of Try.func110 (by kernel_rfl) tbOk (orc_cons (M92 k) (orc_cons (M124 k) orc_nil)) mixOk (fun x y h => (e110 k x).trans h) rfl

/-! spec_l04Slots: function 111 -/
noncomputable def spec_l04Slots.s2 (k : Nat) (r0 : (List Int) → (List Int) → (List Int) → Int → (List Int) → (List Int) → (List Int) → Int → Option ((List Int) × Int × Int)) (r2 : (List Int) → (List Int) → (List Int) → Int → (List Int) → (List Int) → (List Int) → Int → Int → Int → Option ((List Int) × Int × Int)) (x1_0 : List Int) (x1_1 : List Int) (x1_2 : List Int) (x5 : Int) (x6 : List Int) (x7 : List Int) (x8 : List Int) (x9 : Int) (x11 : Int) (x12 : Int) : Option ((List Int) × Int × Int) := if x12 < (x7.length : Int) then (if 0 ≤ x12 then (if x12 < (x1_1.length : Int) then (if (rd x1_1 x12) = 0 then (none) else (if (Int.tmod x9 (rd x1_1 x12)) = 0 then (if 0 ≤ x12 then (if x12 < (x1_0.length : Int) then (if 0 ≤ x12 then (if x12 < (x7.length : Int) then (if 0 ≤ x12 then (if x12 < (x1_2.length : Int) then (if 0 ≤ x12 then (if x12 < (x8.length : Int) then (if 0 ≤ x12 then (if x12 < ((x7.set x12.toNat (rd x1_0 x12)).length : Int) then (if 0 < (rd (x7.set x12.toNat (rd x1_0 x12)) x12) then (if x11 < 0 then (r2 x1_0 x1_1 x1_2 x5 x6 (x7.set x12.toNat (rd x1_0 x12)) (x8.set x12.toNat (wrap64 (x9 + (rd x1_2 x12)))) x9 x12 (wrap64 (x12 + 1))) else (if 0 ≤ x12 then (if x12 < ((x8.set x12.toNat (wrap64 (x9 + (rd x1_2 x12)))).length : Int) then (if 0 ≤ x11 then (if x11 < ((x8.set x12.toNat (wrap64 (x9 + (rd x1_2 x12)))).length : Int) then (if (rd (x8.set x12.toNat (wrap64 (x9 + (rd x1_2 x12)))) x12) < (rd (x8.set x12.toNat (wrap64 (x9 + (rd x1_2 x12)))) x11) then (r2 x1_0 x1_1 x1_2 x5 x6 (x7.set x12.toNat (rd x1_0 x12)) (x8.set x12.toNat (wrap64 (x9 + (rd x1_2 x12)))) x9 x12 (wrap64 (x12 + 1))) else (r2 x1_0 x1_1 x1_2 x5 x6 (x7.set x12.toNat (rd x1_0 x12)) (x8.set x12.toNat (wrap64 (x9 + (rd x1_2 x12)))) x9 x11 (wrap64 (x12 + 1)))) else (none)) else (none)) else (none)) else (none))) else (r2 x1_0 x1_1 x1_2 x5 x6 (x7.set x12.toNat (rd x1_0 x12)) (x8.set x12.toNat (wrap64 (x9 + (rd x1_2 x12)))) x9 x11 (wrap64 (x12 + 1)))) else (none)) else (none)) else (none)) else (none)) else (none)) else (none)) else (none)) else (none)) else (none)) else (none)) else (if 0 ≤ x12 then (if x12 < (x7.length : Int) then (if 0 < (rd x7 x12) then (if x11 < 0 then (r2 x1_0 x1_1 x1_2 x5 x6 x7 x8 x9 x12 (wrap64 (x12 + 1))) else (if 0 ≤ x12 then (if x12 < (x8.length : Int) then (if 0 ≤ x11 then (if x11 < (x8.length : Int) then (if (rd x8 x12) < (rd x8 x11) then (r2 x1_0 x1_1 x1_2 x5 x6 x7 x8 x9 x12 (wrap64 (x12 + 1))) else (r2 x1_0 x1_1 x1_2 x5 x6 x7 x8 x9 x11 (wrap64 (x12 + 1)))) else (none)) else (none)) else (none)) else (none))) else (r2 x1_0 x1_1 x1_2 x5 x6 x7 x8 x9 x11 (wrap64 (x12 + 1)))) else (none)) else (none)))) else (none)) else (none)) else (if 0 ≤ x11 then (if 0 ≤ x11 then (if x11 < (x7.length : Int) then (if 0 ≤ x11 then (if x11 < (x7.length : Int) then (if x6.length + 1 ≤ 1099511627776 then (r0 x1_0 x1_1 x1_2 x5 (x6 ++ [x11]) (x7.set x11.toNat (wrap64 ((rd x7 x11) - 1))) x8 (wrap64 (x9 + 1))) else (none)) else (none)) else (none)) else (none)) else (none)) else (if x6.length + 1 ≤ 1099511627776 then (r0 x1_0 x1_1 x1_2 x5 (x6 ++ [x11]) x7 x8 (wrap64 (x9 + 1))) else (none)))
noncomputable def spec_l04Slots.l2 (k : Nat) (r0 : (List Int) → (List Int) → (List Int) → Int → (List Int) → (List Int) → (List Int) → Int → Option ((List Int) × Int × Int)) : Nat → (List Int) → (List Int) → (List Int) → Int → (List Int) → (List Int) → (List Int) → Int → Int → Int → Option ((List Int) × Int × Int)
  | 0, _, _, _, _, _, _, _, _, _, _ => none
  | n + 1, x0, x1, x2, x3, x4, x5, x6, x7, x8, x9 => spec_l04Slots.s2 k r0 (spec_l04Slots.l2 k r0 n) x0 x1 x2 x3 x4 x5 x6 x7 x8 x9
noncomputable def spec_l04Slots.s1 (k : Nat) (r1 : (List Int) → (List Int) → (List Int) → Int → (List Int) → (List Int) → (List Int) → Int → Int → Option ((List Int) × Int × Int)) (r2 : (List Int) → (List Int) → (List Int) → Int → (List Int) → (List Int) → (List Int) → Int → Int → Int → Option ((List Int) × Int × Int)) (x1_0 : List Int) (x1_1 : List Int) (x1_2 : List Int) (x5 : Int) (x6 : List Int) (x7 : List Int) (x8 : List Int) (x9 : Int) (x10 : Int) : Option ((List Int) × Int × Int) := if x10 < (x7.length : Int) then (if 0 ≤ x10 then (if x10 < (x7.length : Int) then (if 0 < (rd x7 x10) then (if 0 ≤ x10 then (if x10 < (x8.length : Int) then (if (rd x8 x10) = x9 then (some (x6, x9, x10)) else (r1 x1_0 x1_1 x1_2 x5 x6 x7 x8 x9 (wrap64 (x10 + 1)))) else (none)) else (none)) else (r1 x1_0 x1_1 x1_2 x5 x6 x7 x8 x9 (wrap64 (x10 + 1)))) else (none)) else (none)) else (if x9 = x5 then (some (x6, (-1), (-1))) else (r2 x1_0 x1_1 x1_2 x5 x6 x7 x8 x9 (-1) 0))
noncomputable def spec_l04Slots.l1 (k : Nat) (r0 : (List Int) → (List Int) → (List Int) → Int → (List Int) → (List Int) → (List Int) → Int → Option ((List Int) × Int × Int)) : Nat → (List Int) → (List Int) → (List Int) → Int → (List Int) → (List Int) → (List Int) → Int → Int → Option ((List Int) × Int × Int)
  | 0, _, _, _, _, _, _, _, _, _ => none
  | n + 1, x0, x1, x2, x3, x4, x5, x6, x7, x8 => spec_l04Slots.s1 k (spec_l04Slots.l1 k r0 n) (spec_l04Slots.l2 k r0 k) x0 x1 x2 x3 x4 x5 x6 x7 x8
noncomputable def spec_l04Slots.s0 (k : Nat) (r0 : (List Int) → (List Int) → (List Int) → Int → (List Int) → (List Int) → (List Int) → Int → Option ((List Int) × Int × Int)) (r1 : (List Int) → (List Int) → (List Int) → Int → (List Int) → (List Int) → (List Int) → Int → Int → Option ((List Int) × Int × Int)) (x1_0 : List Int) (x1_1 : List Int) (x1_2 : List Int) (x5 : Int) (x6 : List Int) (x7 : List Int) (x8 : List Int) (x9 : Int) : Option ((List Int) × Int × Int) := if x9 ≤ x5 then (r1 x1_0 x1_1 x1_2 x5 x6 x7 x8 x9 0) else (some (x6, (-1), (-1)))
noncomputable def spec_l04Slots.l0 (k : Nat) : Nat → (List Int) → (List Int) → (List Int) → Int → (List Int) → (List Int) → (List Int) → Int → Option ((List Int) × Int × Int)
  | 0, _, _, _, _, _, _, _, _ => none
  | n + 1, x0, x1, x2, x3, x4, x5, x6, x7 => spec_l04Slots.s0 k (spec_l04Slots.l0 k n) (spec_l04Slots.l1 k (spec_l04Slots.l0 k n) k) x0 x1 x2 x3 x4 x5 x6 x7
noncomputable def spec_l04Slots.g (k : Nat) (r0 : (List Int) → (List Int) → (List Int) → Int → (List Int) → (List Int) → (List Int) → Int → Option ((List Int) × Int × Int)) (l0_0 : List Int) (l0_1 : List Int) (l0_2 : List Int) : Option ((List Int) × Int × Int) := (spec_l04Whole.f k l0_0 l0_1 l0_2).bind fun t1 => if 0 ≤ (l0_0.length : Int) then (if (l0_0.length : Int) ≤ (l0_0.length : Int) then (if (l0_0.length : Int).toNat ≤ 1099511627776 then (if 0 ≤ (l0_0.length : Int) then (if (l0_0.length : Int) ≤ (l0_0.length : Int) then (if (l0_0.length : Int).toNat ≤ 1099511627776 then (r0 l0_0 l0_1 l0_2 t1 [] (List.replicate (l0_0.length : Int).toNat (0 : Int)) (List.replicate (l0_0.length : Int).toNat (0 : Int)) 0) else (none)) else (none)) else (none)) else (none)) else (none)) else (none)
noncomputable def spec_l04Slots.f (k : Nat) (l0_0 : List Int) (l0_1 : List Int) (l0_2 : List Int) : Option ((List Int) × Int × Int) := spec_l04Slots.g k (spec_l04Slots.l0 k k) l0_0 l0_1 l0_2
noncomputable def S111 (k : Nat) : Does := ⟨[(true, [.dat (.list (.int .i64)), .dat (.list (.int .i64)), .dat (.list (.int .i64))])], [(false, [.own 2 (.int .i64)]), (false, [.dat (.int .i64)]), (false, [.dat (.int .i64)])], fun x => spec_l04Slots.f k x.1 x.2.1 x.2.2⟩
noncomputable def E111 (k : Nat) : En := ⟨tb, orcOf [(124, S124 k)], lvOf [(0, [(1, []), (5, []), (6, []), (7, []), (8, []), (9, [])]), (2, [(1, []), (5, []), (6, []), (7, []), (8, []), (9, []), (10, [])]), (4, [(1, []), (5, []), (6, []), (7, []), (8, []), (9, []), (11, []), (12, [])])], k, 0, lvOf [], []⟩
noncomputable def n111_0 (x1_0 : List Int) (x1_1 : List Int) (x1_2 : List Int) (x5 : Int) (x6 : List Int) (x7 : List Int) (x8 : List Int) (x9 : Int) : St := ⟨120, lookA [(1, .box 0 0), (5, .dat (.int .i64) x5), (6, .own 1), (7, .own 2), (8, .own 3), (9, .dat (.int .i64) x9)], Go.V.look [(0, .cells [.dat (.list (.int .i64)) x1_0, .dat (.list (.int .i64)) x1_1, .dat (.list (.int .i64)) x1_2]), (1, .flat 2 (.int .i64) x6), (2, .flat 2 (.int .i64) x7), (3, .flat 2 (.int .i64) x8)]⟩
def p111_0 : List Bool := [true, true, true, false, true, false]
noncomputable def n111_1 (x1_0 : List Int) (x1_1 : List Int) (x1_2 : List Int) (x5 : Int) (x6 : List Int) (x7 : List Int) (x8 : List Int) (x9 : Int) (x10 : Int) : St := ⟨120, lookA [(1, .box 0 0), (5, .dat (.int .i64) x5), (6, .own 1), (7, .own 2), (8, .own 3), (9, .dat (.int .i64) x9), (10, .dat (.int .i64) x10)], Go.V.look [(0, .cells [.dat (.list (.int .i64)) x1_0, .dat (.list (.int .i64)) x1_1, .dat (.list (.int .i64)) x1_2]), (1, .flat 2 (.int .i64) x6), (2, .flat 2 (.int .i64) x7), (3, .flat 2 (.int .i64) x8)]⟩
def p111_1 : List Bool := [true, true, true, false, true, false, false, true, false, false, false, true, false]
noncomputable def n111_2 (x1_0 : List Int) (x1_1 : List Int) (x1_2 : List Int) (x5 : Int) (x6 : List Int) (x7 : List Int) (x8 : List Int) (x9 : Int) (x11 : Int) (x12 : Int) : St := ⟨120, lookA [(1, .box 0 0), (5, .dat (.int .i64) x5), (6, .own 1), (7, .own 2), (8, .own 3), (9, .dat (.int .i64) x9), (11, .dat (.int .i64) x11), (12, .dat (.int .i64) x12)], Go.V.look [(0, .cells [.dat (.list (.int .i64)) x1_0, .dat (.list (.int .i64)) x1_1, .dat (.list (.int .i64)) x1_2]), (1, .flat 2 (.int .i64) x6), (2, .flat 2 (.int .i64) x7), (3, .flat 2 (.int .i64) x8)]⟩
def p111_2 : List Bool := [true, true, true, false, true, false, false, true, false, false, true, true, true, false, true, false]
theorem r111_2 (k : Nat) (R0 : St → Option ((List Int) × Int × Int)) (rec : St → Option ((List Int) × Int × Int)) (v : (List Int) × (List Int) × (List Int) × Int × (List Int) × (List Int) × (List Int) × Int × Int × Int) : roundF (E111 k) (S111 k) Try.f111 p111_2 [R0] rec (n111_2 v.1 v.2.1 v.2.2.1 v.2.2.2.1 v.2.2.2.2.1 v.2.2.2.2.2.1 v.2.2.2.2.2.2.1 v.2.2.2.2.2.2.2.1 v.2.2.2.2.2.2.2.2.1 v.2.2.2.2.2.2.2.2.2) = spec_l04Slots.s2 k (fun a0 a1 a2 a3 a4 a5 a6 a7 => R0 (n111_0 a0 a1 a2 a3 a4 a5 a6 a7)) (fun a0 a1 a2 a3 a4 a5 a6 a7 a8 a9 => rec (n111_2 a0 a1 a2 a3 a4 a5 a6 a7 a8 a9)) v.1 v.2.1 v.2.2.1 v.2.2.2.1 v.2.2.2.2.1 v.2.2.2.2.2.1 v.2.2.2.2.2.2.1 v.2.2.2.2.2.2.2.1 v.2.2.2.2.2.2.2.2.1 v.2.2.2.2.2.2.2.2.2 := by
  kernel_rfl
theorem q111_2 (k : Nat) (R0 : St → Option ((List Int) × Int × Int)) (n : Nat) : ∀ v : (List Int) × (List Int) × (List Int) × Int × (List Int) × (List Int) × (List Int) × Int × Int × Int, loopF (E111 k) (S111 k) Try.f111 p111_2 [R0] n (n111_2 v.1 v.2.1 v.2.2.1 v.2.2.2.1 v.2.2.2.2.1 v.2.2.2.2.2.1 v.2.2.2.2.2.2.1 v.2.2.2.2.2.2.2.1 v.2.2.2.2.2.2.2.2.1 v.2.2.2.2.2.2.2.2.2) = spec_l04Slots.l2 k (fun a0 a1 a2 a3 a4 a5 a6 a7 => R0 (n111_0 a0 a1 a2 a3 a4 a5 a6 a7)) n v.1 v.2.1 v.2.2.1 v.2.2.2.1 v.2.2.2.2.1 v.2.2.2.2.2.1 v.2.2.2.2.2.2.1 v.2.2.2.2.2.2.2.1 v.2.2.2.2.2.2.2.2.1 v.2.2.2.2.2.2.2.2.2 :=
  loopF_eq (E111 k) (S111 k) Try.f111 p111_2 [R0] (fun v : (List Int) × (List Int) × (List Int) × Int × (List Int) × (List Int) × (List Int) × Int × Int × Int => n111_2 v.1 v.2.1 v.2.2.1 v.2.2.2.1 v.2.2.2.2.1 v.2.2.2.2.2.1 v.2.2.2.2.2.2.1 v.2.2.2.2.2.2.2.1 v.2.2.2.2.2.2.2.2.1 v.2.2.2.2.2.2.2.2.2) (fun rec v => spec_l04Slots.s2 k (fun a0 a1 a2 a3 a4 a5 a6 a7 => R0 (n111_0 a0 a1 a2 a3 a4 a5 a6 a7)) (fun a0 a1 a2 a3 a4 a5 a6 a7 a8 a9 => rec (a0, a1, a2, a3, a4, a5, a6, a7, a8, a9)) v.1 v.2.1 v.2.2.1 v.2.2.2.1 v.2.2.2.2.1 v.2.2.2.2.2.1 v.2.2.2.2.2.2.1 v.2.2.2.2.2.2.2.1 v.2.2.2.2.2.2.2.2.1 v.2.2.2.2.2.2.2.2.2) (fun n v => spec_l04Slots.l2 k (fun a0 a1 a2 a3 a4 a5 a6 a7 => R0 (n111_0 a0 a1 a2 a3 a4 a5 a6 a7)) n v.1 v.2.1 v.2.2.1 v.2.2.2.1 v.2.2.2.2.1 v.2.2.2.2.2.1 v.2.2.2.2.2.2.1 v.2.2.2.2.2.2.2.1 v.2.2.2.2.2.2.2.2.1 v.2.2.2.2.2.2.2.2.2) (fun _ => rfl) (fun _ _ => rfl) (fun rec v => r111_2 k R0 rec v) n
theorem r111_1 (k : Nat) (R0 : St → Option ((List Int) × Int × Int)) (rec : St → Option ((List Int) × Int × Int)) (G2 : (List Int) → (List Int) → (List Int) → Int → (List Int) → (List Int) → (List Int) → Int → Int → Int → Option ((List Int) × Int × Int)) (h2 : ∀ a0 a1 a2 a3 a4 a5 a6 a7 a8 a9, loopF (E111 k) (S111 k) Try.f111 p111_2 [R0] k (n111_2 a0 a1 a2 a3 a4 a5 a6 a7 a8 a9) = G2 a0 a1 a2 a3 a4 a5 a6 a7 a8 a9) (v : (List Int) × (List Int) × (List Int) × Int × (List Int) × (List Int) × (List Int) × Int × Int) : roundF (E111 k) (S111 k) Try.f111 p111_1 [R0] rec (n111_1 v.1 v.2.1 v.2.2.1 v.2.2.2.1 v.2.2.2.2.1 v.2.2.2.2.2.1 v.2.2.2.2.2.2.1 v.2.2.2.2.2.2.2.1 v.2.2.2.2.2.2.2.2) = spec_l04Slots.s1 k (fun a0 a1 a2 a3 a4 a5 a6 a7 a8 => rec (n111_1 a0 a1 a2 a3 a4 a5 a6 a7 a8)) G2 v.1 v.2.1 v.2.2.1 v.2.2.2.1 v.2.2.2.2.1 v.2.2.2.2.2.1 v.2.2.2.2.2.2.1 v.2.2.2.2.2.2.2.1 v.2.2.2.2.2.2.2.2 := by
  obtain rfl : (fun a0 a1 a2 a3 a4 a5 a6 a7 a8 a9 => loopF (E111 k) (S111 k) Try.f111 p111_2 [R0] k (n111_2 a0 a1 a2 a3 a4 a5 a6 a7 a8 a9)) = G2 := funext fun a0 => funext fun a1 => funext fun a2 => funext fun a3 => funext fun a4 => funext fun a5 => funext fun a6 => funext fun a7 => funext fun a8 => funext fun a9 => h2 a0 a1 a2 a3 a4 a5 a6 a7 a8 a9
  kernel_rfl
theorem q111_1 (k : Nat) (R0 : St → Option ((List Int) × Int × Int)) (n : Nat) : ∀ v : (List Int) × (List Int) × (List Int) × Int × (List Int) × (List Int) × (List Int) × Int × Int, loopF (E111 k) (S111 k) Try.f111 p111_1 [R0] n (n111_1 v.1 v.2.1 v.2.2.1 v.2.2.2.1 v.2.2.2.2.1 v.2.2.2.2.2.1 v.2.2.2.2.2.2.1 v.2.2.2.2.2.2.2.1 v.2.2.2.2.2.2.2.2) = spec_l04Slots.l1 k (fun a0 a1 a2 a3 a4 a5 a6 a7 => R0 (n111_0 a0 a1 a2 a3 a4 a5 a6 a7)) n v.1 v.2.1 v.2.2.1 v.2.2.2.1 v.2.2.2.2.1 v.2.2.2.2.2.1 v.2.2.2.2.2.2.1 v.2.2.2.2.2.2.2.1 v.2.2.2.2.2.2.2.2 :=
  loopF_eq (E111 k) (S111 k) Try.f111 p111_1 [R0] (fun v : (List Int) × (List Int) × (List Int) × Int × (List Int) × (List Int) × (List Int) × Int × Int => n111_1 v.1 v.2.1 v.2.2.1 v.2.2.2.1 v.2.2.2.2.1 v.2.2.2.2.2.1 v.2.2.2.2.2.2.1 v.2.2.2.2.2.2.2.1 v.2.2.2.2.2.2.2.2) (fun rec v => spec_l04Slots.s1 k (fun a0 a1 a2 a3 a4 a5 a6 a7 a8 => rec (a0, a1, a2, a3, a4, a5, a6, a7, a8)) (spec_l04Slots.l2 k (fun a0 a1 a2 a3 a4 a5 a6 a7 => R0 (n111_0 a0 a1 a2 a3 a4 a5 a6 a7)) k) v.1 v.2.1 v.2.2.1 v.2.2.2.1 v.2.2.2.2.1 v.2.2.2.2.2.1 v.2.2.2.2.2.2.1 v.2.2.2.2.2.2.2.1 v.2.2.2.2.2.2.2.2) (fun n v => spec_l04Slots.l1 k (fun a0 a1 a2 a3 a4 a5 a6 a7 => R0 (n111_0 a0 a1 a2 a3 a4 a5 a6 a7)) n v.1 v.2.1 v.2.2.1 v.2.2.2.1 v.2.2.2.2.1 v.2.2.2.2.2.1 v.2.2.2.2.2.2.1 v.2.2.2.2.2.2.2.1 v.2.2.2.2.2.2.2.2) (fun _ => rfl) (fun _ _ => rfl) (fun rec v => r111_1 k R0 rec _ (fun a0 a1 a2 a3 a4 a5 a6 a7 a8 a9 => q111_2 k R0 k (a0, a1, a2, a3, a4, a5, a6, a7, a8, a9)) v) n
theorem r111_0 (k : Nat) (rec : St → Option ((List Int) × Int × Int)) (G1 : (List Int) → (List Int) → (List Int) → Int → (List Int) → (List Int) → (List Int) → Int → Int → Option ((List Int) × Int × Int)) (h1 : ∀ a0 a1 a2 a3 a4 a5 a6 a7 a8, loopF (E111 k) (S111 k) Try.f111 p111_1 [rec] k (n111_1 a0 a1 a2 a3 a4 a5 a6 a7 a8) = G1 a0 a1 a2 a3 a4 a5 a6 a7 a8) (v : (List Int) × (List Int) × (List Int) × Int × (List Int) × (List Int) × (List Int) × Int) : roundF (E111 k) (S111 k) Try.f111 p111_0 [] rec (n111_0 v.1 v.2.1 v.2.2.1 v.2.2.2.1 v.2.2.2.2.1 v.2.2.2.2.2.1 v.2.2.2.2.2.2.1 v.2.2.2.2.2.2.2) = spec_l04Slots.s0 k (fun a0 a1 a2 a3 a4 a5 a6 a7 => rec (n111_0 a0 a1 a2 a3 a4 a5 a6 a7)) G1 v.1 v.2.1 v.2.2.1 v.2.2.2.1 v.2.2.2.2.1 v.2.2.2.2.2.1 v.2.2.2.2.2.2.1 v.2.2.2.2.2.2.2 := by
  obtain rfl : (fun a0 a1 a2 a3 a4 a5 a6 a7 a8 => loopF (E111 k) (S111 k) Try.f111 p111_1 [rec] k (n111_1 a0 a1 a2 a3 a4 a5 a6 a7 a8)) = G1 := funext fun a0 => funext fun a1 => funext fun a2 => funext fun a3 => funext fun a4 => funext fun a5 => funext fun a6 => funext fun a7 => funext fun a8 => h1 a0 a1 a2 a3 a4 a5 a6 a7 a8
  kernel_rfl
theorem q111_0 (k : Nat) (n : Nat) : ∀ v : (List Int) × (List Int) × (List Int) × Int × (List Int) × (List Int) × (List Int) × Int, loopF (E111 k) (S111 k) Try.f111 p111_0 [] n (n111_0 v.1 v.2.1 v.2.2.1 v.2.2.2.1 v.2.2.2.2.1 v.2.2.2.2.2.1 v.2.2.2.2.2.2.1 v.2.2.2.2.2.2.2) = spec_l04Slots.l0 k n v.1 v.2.1 v.2.2.1 v.2.2.2.1 v.2.2.2.2.1 v.2.2.2.2.2.1 v.2.2.2.2.2.2.1 v.2.2.2.2.2.2.2 :=
  loopF_eq (E111 k) (S111 k) Try.f111 p111_0 [] (fun v : (List Int) × (List Int) × (List Int) × Int × (List Int) × (List Int) × (List Int) × Int => n111_0 v.1 v.2.1 v.2.2.1 v.2.2.2.1 v.2.2.2.2.1 v.2.2.2.2.2.1 v.2.2.2.2.2.2.1 v.2.2.2.2.2.2.2) (fun rec v => spec_l04Slots.s0 k (fun a0 a1 a2 a3 a4 a5 a6 a7 => rec (a0, a1, a2, a3, a4, a5, a6, a7)) (spec_l04Slots.l1 k (fun a0 a1 a2 a3 a4 a5 a6 a7 => rec (a0, a1, a2, a3, a4, a5, a6, a7)) k) v.1 v.2.1 v.2.2.1 v.2.2.2.1 v.2.2.2.2.1 v.2.2.2.2.2.1 v.2.2.2.2.2.2.1 v.2.2.2.2.2.2.2) (fun n v => spec_l04Slots.l0 k n v.1 v.2.1 v.2.2.1 v.2.2.2.1 v.2.2.2.2.1 v.2.2.2.2.2.1 v.2.2.2.2.2.2.1 v.2.2.2.2.2.2.2) (fun _ => rfl) (fun _ _ => rfl) (fun rec v => r111_0 k rec _ (fun a0 a1 a2 a3 a4 a5 a6 a7 a8 => q111_1 k rec k (a0, a1, a2, a3, a4, a5, a6, a7, a8)) v) n
theorem e111 (k : Nat) (x : dens (flatC (S111 k).ps)) : funK (E111 k) (S111 k) Try.f111 x = (S111 k).fn x := by
  have h : funK (E111 k) (S111 k) Try.f111 x = spec_l04Slots.g k (fun a0 a1 a2 a3 a4 a5 a6 a7 => loopF (E111 k) (S111 k) Try.f111 p111_0 [] k (n111_0 a0 a1 a2 a3 a4 a5 a6 a7)) x.1 x.2.1 x.2.2 := by kernel_rfl
  rw [h]
  rw [show (fun a0 a1 a2 a3 a4 a5 a6 a7 => loopF (E111 k) (S111 k) Try.f111 p111_0 [] k (n111_0 a0 a1 a2 a3 a4 a5 a6 a7)) = spec_l04Slots.l0 k k from funext fun a0 => funext fun a1 => funext fun a2 => funext fun a3 => funext fun a4 => funext fun a5 => funext fun a6 => funext fun a7 => q111_0 k k (a0, a1, a2, a3, a4, a5, a6, a7)]
  rfl
theorem M111 (k : Nat) : Meets Try.prog 111 (S111 k) := meets_of Try.func111 (by kernel_rfl) tbOk (orc_cons (M124 k) orc_nil) mixOk (fun x y h => (e111 k x).trans h) rfl

/-! spec_l04Turns: function 113 -/
noncomputable def spec_l04Turns.f (k : Nat) (l0_0 : List Int) (l0_1 : List Int) (l0_2 : List Int) : Option ((List Int) × Int) := (spec_l04Code.f k l0_0 l0_1 l0_2).bind fun t1 => if t1 = 0 then ((spec_l04Whole.f k l0_0 l0_1 l0_2).bind fun t2 => if 120 < t2 then (some ([], 3)) else ((spec_l04Slots.f k l0_0 l0_1 l0_2).bind fun t3 => if 0 ≤ t3.2.2 then (some ([], 5)) else (some (t3.1, 0)))) else (some ([], t1))
noncomputable def S113 (k : Nat) : Does := ⟨[(true, [.dat (.list (.int .i64)), .dat (.list (.int .i64)), .dat (.list (.int .i64))])], [(false, [.own 2 (.int .i64)]), (false, [.dat (.int .i64)])], fun x => spec_l04Turns.f k x.1 x.2.1 x.2.2⟩
noncomputable def E113 (k : Nat) : En := ⟨tb, orcOf [(110, S110 k), (124, S124 k), (111, S111 k)], lvOf [], k, 0, lvOf [], []⟩
theorem e113 (k : Nat) (x : dens (flatC (S113 k).ps)) : funK (E113 k) (S113 k) Try.f113 x = (S113 k).fn x := by
  kernel_rfl
theorem M113 (k : Nat) : Meets Try.prog 113 (S113 k) := meets_of Try.func113 (by kernel_rfl) tbOk (orc_cons (M110 k) (orc_cons (M124 k) (orc_cons (M111 k) orc_nil))) mixOk (fun x y h => (e113 k x).trans h) rfl

/-! spec_TurnsOfJobs: function 27 -/
noncomputable def spec_TurnsOfJobs.f (k : Nat) (l0_0 : List Int) (l0_1 : List Int) (l0_2 : List Int) : Option ((List Int) × Int) := (spec_l04Turns.f k l0_0 l0_1 l0_2).bind fun t1 => some (t1.1, t1.2)
noncomputable def S27 (k : Nat) : Does := ⟨[(true, [.dat (.list (.int .i64)), .dat (.list (.int .i64)), .dat (.list (.int .i64))])], [(false, [.own 2 (.int .i64)]), (false, [.dat (.int .i64)])], fun x => spec_TurnsOfJobs.f k x.1 x.2.1 x.2.2⟩
noncomputable def E27 (k : Nat) : En := ⟨tb, orcOf [(113, S113 k)], lvOf [], k, 0, lvOf [], []⟩
theorem e27 (k : Nat) (x : dens (flatC (S27 k).ps)) : funK (E27 k) (S27 k) Try.f27 x = (S27 k).fn x := by
  kernel_rfl
theorem M27 (k : Nat) : Meets Try.prog 27 (S27 k) := meets_of Try.func27 (by kernel_rfl) tbOk (orc_cons (M113 k) orc_nil) mixOk (fun x y h => (e27 k x).trans h) rfl

/-! impl_waits: function 118 -/
noncomputable def impl_waits.s1 (k : Nat) (r1 : (List Int) → (List Int) → (List Int) → Int → Int → Option ((List Int))) (x0 : List Int) (x5 : List Int) (x6 : List Int) (x27 : Int) (x28 : Int) : Option ((List Int)) := if x28 < x27 then (if 0 ≤ x28 then (if x28 < (x5.length : Int) then (if (wrap64 (x28 + 1)) < (x5.length : Int) then (if 0 ≤ (wrap64 (x28 + 1)) then (if (wrap64 (x28 + 1)) < (x5.length : Int) then (if x6.length + 1 ≤ 1099511627776 then (r1 x0 x5 (x6 ++ [(wrap64 ((rd x5 (wrap64 (x28 + 1))) - (rd x5 x28)))]) x27 (wrap64 (x28 + 1))) else (none)) else (none)) else (none)) else (if 0 < (x5.length : Int) then ((impl_length_int64.f x0).bind fun t1 => if x6.length + 1 ≤ 1099511627776 then (r1 x0 x5 (x6 ++ [(wrap64 ((wrap64 ((rd x5 0) + t1)) - (rd x5 x28)))]) x27 (wrap64 (x28 + 1))) else (none)) else (none))) else (none)) else (none)) else (some x6)
noncomputable def impl_waits.l1 (k : Nat) : Nat → (List Int) → (List Int) → (List Int) → Int → Int → Option ((List Int))
  | 0, _, _, _, _, _ => none
  | n + 1, x0, x1, x2, x3, x4 => impl_waits.s1 k (impl_waits.l1 k n) x0 x1 x2 x3 x4
noncomputable def impl_waits.s0 (k : Nat) (r0 : (List Int) → Int → (List Int) → (List Int) → Int → Int → Option ((List Int))) (r1 : (List Int) → (List Int) → (List Int) → Int → Int → Option ((List Int))) (x0 : List Int) (x1 : Int) (x5 : List Int) (x11 : List Int) (x12 : Int) (x13 : Int) : Option ((List Int)) := if x13 < x12 then (if 0 ≤ x13 then (if x13 < (x11.length : Int) then (if (rd x11 x13) = x1 then (if x5.length + 1 ≤ 1099511627776 then (r0 x0 x1 (x5 ++ [x13]) x11 x12 (wrap64 (x13 + 1))) else (none)) else (r0 x0 x1 x5 x11 x12 (wrap64 (x13 + 1)))) else (none)) else (none)) else (r1 x0 x5 [] (x5.length : Int) 0)
noncomputable def impl_waits.l0 (k : Nat) : Nat → (List Int) → Int → (List Int) → (List Int) → Int → Int → Option ((List Int))
  | 0, _, _, _, _, _, _ => none
  | n + 1, x0, x1, x2, x3, x4, x5 => impl_waits.s0 k (impl_waits.l0 k n) (impl_waits.l1 k k) x0 x1 x2 x3 x4 x5
noncomputable def impl_waits.g (k : Nat) (r0 : (List Int) → Int → (List Int) → (List Int) → Int → Int → Option ((List Int))) (l0 : List Int) (a1 : Int) : Option ((List Int)) := r0 l0 a1 [] l0 (l0.length : Int) 0
noncomputable def impl_waits.f (k : Nat) (l0 : List Int) (a1 : Int) : Option ((List Int)) := impl_waits.g k (impl_waits.l0 k k) l0 a1
noncomputable def S118 (k : Nat) : Does := ⟨[(false, [.dat (.list (.int .i64))]), (false, [.dat (.int .i64)])], [(false, [.own 2 (.int .i64)])], fun x => impl_waits.f k x.1 x.2⟩
noncomputable def E118 (k : Nat) : En := ⟨tb, orcOf [(101, S101 k)], lvOf [(0, [(0, []), (1, []), (5, [.nil 2 (.int .i64)]), (6, []), (11, []), (12, []), (13, [])]), (2, [(0, []), (5, []), (6, [.nil 2 (.int .i64)]), (26, []), (27, []), (28, [])])], k, 0, lvOf [], []⟩
noncomputable def n118_0 (x0 : List Int) (x1 : Int) (x5 : List Int) (x11 : List Int) (x12 : Int) (x13 : Int) : St := ⟨61, lookA [(0, .dat (.list (.int .i64)) x0), (1, .dat (.int .i64) x1), (5, .own 0), (6, .nil), (11, .dat (.list (.int .i64)) x11), (12, .dat (.int .i64) x12), (13, .dat (.int .i64) x13)], Go.V.look [(0, .flat 2 (.int .i64) x5)]⟩
def p118_0 : List Bool := [true, true, false, true, false]
noncomputable def n118_1 (x0 : List Int) (x5 : List Int) (x6 : List Int) (x27 : Int) (x28 : Int) : St := ⟨61, lookA [(0, .dat (.list (.int .i64)) x0), (5, .own 0), (6, .own 1), (26, .own 0), (27, .dat (.int .i64) x27), (28, .dat (.int .i64) x28)], Go.V.look [(0, .flat 2 (.int .i64) x5), (1, .flat 2 (.int .i64) x6)]⟩
def p118_1 : List Bool := [true, true, true, false, true, false]
theorem r118_1 (k : Nat) (rec : St → Option ((List Int))) (v : (List Int) × (List Int) × (List Int) × Int × Int) : roundF (E118 k) (S118 k) Try.f118 p118_1 [] rec (n118_1 v.1 v.2.1 v.2.2.1 v.2.2.2.1 v.2.2.2.2) = impl_waits.s1 k (fun a0 a1 a2 a3 a4 => rec (n118_1 a0 a1 a2 a3 a4)) v.1 v.2.1 v.2.2.1 v.2.2.2.1 v.2.2.2.2 := by
  kernel_rfl
theorem q118_1 (k : Nat) (n : Nat) : ∀ v : (List Int) × (List Int) × (List Int) × Int × Int, loopF (E118 k) (S118 k) Try.f118 p118_1 [] n (n118_1 v.1 v.2.1 v.2.2.1 v.2.2.2.1 v.2.2.2.2) = impl_waits.l1 k n v.1 v.2.1 v.2.2.1 v.2.2.2.1 v.2.2.2.2 :=
  loopF_eq (E118 k) (S118 k) Try.f118 p118_1 [] (fun v : (List Int) × (List Int) × (List Int) × Int × Int => n118_1 v.1 v.2.1 v.2.2.1 v.2.2.2.1 v.2.2.2.2) (fun rec v => impl_waits.s1 k (fun a0 a1 a2 a3 a4 => rec (a0, a1, a2, a3, a4)) v.1 v.2.1 v.2.2.1 v.2.2.2.1 v.2.2.2.2) (fun n v => impl_waits.l1 k n v.1 v.2.1 v.2.2.1 v.2.2.2.1 v.2.2.2.2) (fun _ => rfl) (fun _ _ => rfl) (fun rec v => r118_1 k rec v) n
theorem r118_0 (k : Nat) (rec : St → Option ((List Int))) (G1 : (List Int) → (List Int) → (List Int) → Int → Int → Option ((List Int))) (h1 : ∀ a0 a1 a2 a3 a4, loopF (E118 k) (S118 k) Try.f118 p118_1 [] k (n118_1 a0 a1 a2 a3 a4) = G1 a0 a1 a2 a3 a4) (v : (List Int) × Int × (List Int) × (List Int) × Int × Int) : roundF (E118 k) (S118 k) Try.f118 p118_0 [] rec (n118_0 v.1 v.2.1 v.2.2.1 v.2.2.2.1 v.2.2.2.2.1 v.2.2.2.2.2) = impl_waits.s0 k (fun a0 a1 a2 a3 a4 a5 => rec (n118_0 a0 a1 a2 a3 a4 a5)) G1 v.1 v.2.1 v.2.2.1 v.2.2.2.1 v.2.2.2.2.1 v.2.2.2.2.2 := by
  obtain rfl : (fun a0 a1 a2 a3 a4 => loopF (E118 k) (S118 k) Try.f118 p118_1 [] k (n118_1 a0 a1 a2 a3 a4)) = G1 := funext fun a0 => funext fun a1 => funext fun a2 => funext fun a3 => funext fun a4 => h1 a0 a1 a2 a3 a4
  kernel_rfl
theorem q118_0 (k : Nat) (n : Nat) : ∀ v : (List Int) × Int × (List Int) × (List Int) × Int × Int, loopF (E118 k) (S118 k) Try.f118 p118_0 [] n (n118_0 v.1 v.2.1 v.2.2.1 v.2.2.2.1 v.2.2.2.2.1 v.2.2.2.2.2) = impl_waits.l0 k n v.1 v.2.1 v.2.2.1 v.2.2.2.1 v.2.2.2.2.1 v.2.2.2.2.2 :=
  loopF_eq (E118 k) (S118 k) Try.f118 p118_0 [] (fun v : (List Int) × Int × (List Int) × (List Int) × Int × Int => n118_0 v.1 v.2.1 v.2.2.1 v.2.2.2.1 v.2.2.2.2.1 v.2.2.2.2.2) (fun rec v => impl_waits.s0 k (fun a0 a1 a2 a3 a4 a5 => rec (a0, a1, a2, a3, a4, a5)) (impl_waits.l1 k k) v.1 v.2.1 v.2.2.1 v.2.2.2.1 v.2.2.2.2.1 v.2.2.2.2.2) (fun n v => impl_waits.l0 k n v.1 v.2.1 v.2.2.1 v.2.2.2.1 v.2.2.2.2.1 v.2.2.2.2.2) (fun _ => rfl) (fun _ _ => rfl) (fun rec v => r118_0 k rec _ (fun a0 a1 a2 a3 a4 => q118_1 k k (a0, a1, a2, a3, a4)) v) n
theorem e118 (k : Nat) (x : dens (flatC (S118 k).ps)) : funK (E118 k) (S118 k) Try.f118 x = (S118 k).fn x := by
  have h : funK (E118 k) (S118 k) Try.f118 x = impl_waits.g k (fun a0 a1 a2 a3 a4 a5 => loopF (E118 k) (S118 k) Try.f118 p118_0 [] k (n118_0 a0 a1 a2 a3 a4 a5)) x.1 x.2 := by kernel_rfl
  rw [h]
  rw [show (fun a0 a1 a2 a3 a4 a5 => loopF (E118 k) (S118 k) Try.f118 p118_0 [] k (n118_0 a0 a1 a2 a3 a4 a5)) = impl_waits.l0 k k from funext fun a0 => funext fun a1 => funext fun a2 => funext fun a3 => funext fun a4 => funext fun a5 => q118_0 k k (a0, a1, a2, a3, a4, a5)]
  rfl
theorem M118 (k : Nat) : Meets Try.prog 118 (S118 k) := meets_of Try.func118 (by kernel_rfl) tbOk (orc_cons (M101 k) orc_nil) mixOk (fun x y h => (e118 k x).trans h) rfl

/-! impl_greatest: function 117 -/
noncomputable def impl_greatest.s0 (k : Nat) (r0 : Int → (List Int) → Int → Int → Option (Int)) (x3 : Int) (x6 : List Int) (x7 : Int) (x8 : Int) : Option (Int) := if x8 < x7 then (if 0 ≤ x8 then (if x8 < (x6.length : Int) then (r0 (maxV x3 (rd x6 x8)) x6 x7 (wrap64 (x8 + 1))) else (none)) else (none)) else (some x3)
noncomputable def impl_greatest.l0 (k : Nat) : Nat → Int → (List Int) → Int → Int → Option (Int)
  | 0, _, _, _, _ => none
  | n + 1, x0, x1, x2, x3 => impl_greatest.s0 k (impl_greatest.l0 k n) x0 x1 x2 x3
noncomputable def impl_greatest.g (k : Nat) (r0 : Int → (List Int) → Int → Int → Option (Int)) (l0 : List Int) : Option (Int) := r0 0 l0 (l0.length : Int) 0
noncomputable def impl_greatest.f (k : Nat) (l0 : List Int) : Option (Int) := impl_greatest.g k (impl_greatest.l0 k k) l0
noncomputable def S117 (k : Nat) : Does := ⟨[(false, [.dat (.list (.int .i64))])], [(false, [.dat (.int .i64)])], fun x => impl_greatest.f k x⟩
noncomputable def E117 (k : Nat) : En := ⟨tb, orcOf [], lvOf [(0, [(3, []), (6, []), (7, []), (8, [])])], k, 0, lvOf [], []⟩
noncomputable def n117_0 (x3 : Int) (x6 : List Int) (x7 : Int) (x8 : Int) : St := ⟨17, lookA [(3, .dat (.int .i64) x3), (6, .dat (.list (.int .i64)) x6), (7, .dat (.int .i64) x7), (8, .dat (.int .i64) x8)], Go.V.look []⟩
def p117_0 : List Bool := [true, true, false, true, false]
theorem r117_0 (k : Nat) (rec : St → Option (Int)) (v : Int × (List Int) × Int × Int) : roundF (E117 k) (S117 k) Try.f117 p117_0 [] rec (n117_0 v.1 v.2.1 v.2.2.1 v.2.2.2) = impl_greatest.s0 k (fun a0 a1 a2 a3 => rec (n117_0 a0 a1 a2 a3)) v.1 v.2.1 v.2.2.1 v.2.2.2 := by
  kernel_rfl
theorem q117_0 (k : Nat) (n : Nat) : ∀ v : Int × (List Int) × Int × Int, loopF (E117 k) (S117 k) Try.f117 p117_0 [] n (n117_0 v.1 v.2.1 v.2.2.1 v.2.2.2) = impl_greatest.l0 k n v.1 v.2.1 v.2.2.1 v.2.2.2 :=
  loopF_eq (E117 k) (S117 k) Try.f117 p117_0 [] (fun v : Int × (List Int) × Int × Int => n117_0 v.1 v.2.1 v.2.2.1 v.2.2.2) (fun rec v => impl_greatest.s0 k (fun a0 a1 a2 a3 => rec (a0, a1, a2, a3)) v.1 v.2.1 v.2.2.1 v.2.2.2) (fun n v => impl_greatest.l0 k n v.1 v.2.1 v.2.2.1 v.2.2.2) (fun _ => rfl) (fun _ _ => rfl) (fun rec v => r117_0 k rec v) n
theorem e117 (k : Nat) (x : dens (flatC (S117 k).ps)) : funK (E117 k) (S117 k) Try.f117 x = (S117 k).fn x := by
  have h : funK (E117 k) (S117 k) Try.f117 x = impl_greatest.g k (fun a0 a1 a2 a3 => loopF (E117 k) (S117 k) Try.f117 p117_0 [] k (n117_0 a0 a1 a2 a3)) x := by kernel_rfl
  rw [h]
  rw [show (fun a0 a1 a2 a3 => loopF (E117 k) (S117 k) Try.f117 p117_0 [] k (n117_0 a0 a1 a2 a3)) = impl_greatest.l0 k k from funext fun a0 => funext fun a1 => funext fun a2 => funext fun a3 => q117_0 k k (a0, a1, a2, a3)]
  rfl
theorem M117 (k : Nat) : Meets Try.prog 117 (S117 k) := meets_of Try.func117 (by kernel_rfl) tbOk orc_nil mixOk (fun x y h => (e117 k x).trans h) rfl

/-! impl_IsTasks_1: function 166 -/
noncomputable def impl_IsTasks_1.f (a0 : Int) : Option (Bool) := (impl_within.f a0 1 40).bind fun t1 => some t1
noncomputable def S166 (k : Nat) : Does := ⟨[(false, [.dat (.int .i64)])], [(false, [.dat .bool])], fun x => impl_IsTasks_1.f x⟩
noncomputable def E166 (k : Nat) : En := ⟨tb, orcOf [(104, S104 k)], lvOf [], k, 0, lvOf [], []⟩
theorem e166 (k : Nat) (x : dens (flatC (S166 k).ps)) : funK (E166 k) (S166 k) Try.f166 x = (S166 k).fn x := by
  kernel_rfl
theorem M166 (k : Nat) : Meets Try.prog 166 (S166 k) := meets_of Try.func166 (by kernel_rfl) tbOk (orc_cons (M104 k) orc_nil) mixOk (fun x y h => (e166 k x).trans h) rfl

/-! impl_areAll_int64_1_impl_IsTasks_1: function 185 -/
noncomputable def impl_areAll_int64_1_impl_IsTasks_1.f (a0 : Int) (a1 : Unit) : Option (Bool) := (impl_IsTasks_1.f a0).bind fun t1 => some (!decide (t1 = true))
noncomputable def S185_c166 (k : Nat) : Does := ⟨[(false, [.dat (.int .i64)]), (false, [.dat (.ptr (.clo 166 .unit))])], [(false, [.dat .bool])], fun x => impl_areAll_int64_1_impl_IsTasks_1.f x.1 x.2⟩
noncomputable def E185_c166 (k : Nat) : En := ⟨tb, orcOf [(166, S166 k)], lvOf [], k, 0, lvOf [], []⟩
theorem e185_c166 (k : Nat) (x : dens (flatC (S185_c166 k).ps)) : funK (E185_c166 k) (S185_c166 k) Try.f185 x = (S185_c166 k).fn x := by
  kernel_rfl
theorem M185_c166 (k : Nat) : Meets Try.prog 185 (S185_c166 k) := meets_of Try.func185 (by kernel_rfl) tbOk (orc_cons (M166 k) orc_nil) mixOk (fun x y h => (e185_c166 k x).trans h) rfl

/-! slices_IndexFunc_int64_int64_impl_areAll_int64_1_impl_IsTasks_1: function 191 -/
noncomputable def slices_IndexFunc_int64_int64_impl_areAll_int64_1_impl_IsTasks_1.s0 (k : Nat) (r0 : (List Int) → Unit → Int → Int → Option (Int)) (x0 : List Int) (x1 : Unit) (x7 : Int) (x8 : Int) : Option (Int) := if x8 < x7 then (if 0 ≤ x8 then (if x8 < (x0.length : Int) then ((impl_areAll_int64_1_impl_IsTasks_1.f (rd x0 x8) x1).bind fun t1 => if t1 = true then (some x8) else (r0 x0 x1 x7 (wrap64 (x8 + 1)))) else (none)) else (none)) else (some (-1))
noncomputable def slices_IndexFunc_int64_int64_impl_areAll_int64_1_impl_IsTasks_1.l0 (k : Nat) : Nat → (List Int) → Unit → Int → Int → Option (Int)
  | 0, _, _, _, _ => none
  | n + 1, x0, x1, x2, x3 => slices_IndexFunc_int64_int64_impl_areAll_int64_1_impl_IsTasks_1.s0 k (slices_IndexFunc_int64_int64_impl_areAll_int64_1_impl_IsTasks_1.l0 k n) x0 x1 x2 x3
noncomputable def slices_IndexFunc_int64_int64_impl_areAll_int64_1_impl_IsTasks_1.g (k : Nat) (r0 : (List Int) → Unit → Int → Int → Option (Int)) (l0 : List Int) (a1 : Unit) : Option (Int) := r0 l0 a1 (l0.length : Int) 0
noncomputable def slices_IndexFunc_int64_int64_impl_areAll_int64_1_impl_IsTasks_1.f (k : Nat) (l0 : List Int) (a1 : Unit) : Option (Int) := slices_IndexFunc_int64_int64_impl_areAll_int64_1_impl_IsTasks_1.g k (slices_IndexFunc_int64_int64_impl_areAll_int64_1_impl_IsTasks_1.l0 k k) l0 a1
noncomputable def S191_c185c166 (k : Nat) : Does := ⟨[(false, [.dat (.list (.int .i64))]), (false, [.dat (.clo 185 (.ptr (.clo 166 .unit)))])], [(false, [.dat (.int .i64)])], fun x => slices_IndexFunc_int64_int64_impl_areAll_int64_1_impl_IsTasks_1.f k x.1 x.2⟩
noncomputable def E191_c185c166 (k : Nat) : En := ⟨tb, orcOf [(185, S185_c166 k)], lvOf [(0, [(0, []), (1, []), (7, []), (8, [])])], k, 0, lvOf [], []⟩
noncomputable def n191_c185c166_0 (x0 : List Int) (x1 : Unit) (x7 : Int) (x8 : Int) : St := ⟨19, lookA [(0, .dat (.list (.int .i64)) x0), (1, .dat (.clo 185 (.ptr (.clo 166 .unit))) x1), (7, .dat (.int .i64) x7), (8, .dat (.int .i64) x8)], Go.V.look []⟩
def p191_c185c166_0 : List Bool := [true, false, true, false]
theorem r191_c185c166_0 (k : Nat) (rec : St → Option (Int)) (v : (List Int) × Unit × Int × Int) : roundF (E191_c185c166 k) (S191_c185c166 k) Try.f191 p191_c185c166_0 [] rec (n191_c185c166_0 v.1 v.2.1 v.2.2.1 v.2.2.2) = slices_IndexFunc_int64_int64_impl_areAll_int64_1_impl_IsTasks_1.s0 k (fun a0 a1 a2 a3 => rec (n191_c185c166_0 a0 a1 a2 a3)) v.1 v.2.1 v.2.2.1 v.2.2.2 := by
  kernel_rfl
theorem q191_c185c166_0 (k : Nat) (n : Nat) : ∀ v : (List Int) × Unit × Int × Int, loopF (E191_c185c166 k) (S191_c185c166 k) Try.f191 p191_c185c166_0 [] n (n191_c185c166_0 v.1 v.2.1 v.2.2.1 v.2.2.2) = slices_IndexFunc_int64_int64_impl_areAll_int64_1_impl_IsTasks_1.l0 k n v.1 v.2.1 v.2.2.1 v.2.2.2 :=
  loopF_eq (E191_c185c166 k) (S191_c185c166 k) Try.f191 p191_c185c166_0 [] (fun v : (List Int) × Unit × Int × Int => n191_c185c166_0 v.1 v.2.1 v.2.2.1 v.2.2.2) (fun rec v => slices_IndexFunc_int64_int64_impl_areAll_int64_1_impl_IsTasks_1.s0 k (fun a0 a1 a2 a3 => rec (a0, a1, a2, a3)) v.1 v.2.1 v.2.2.1 v.2.2.2) (fun n v => slices_IndexFunc_int64_int64_impl_areAll_int64_1_impl_IsTasks_1.l0 k n v.1 v.2.1 v.2.2.1 v.2.2.2) (fun _ => rfl) (fun _ _ => rfl) (fun rec v => r191_c185c166_0 k rec v) n
theorem e191_c185c166 (k : Nat) (x : dens (flatC (S191_c185c166 k).ps)) : funK (E191_c185c166 k) (S191_c185c166 k) Try.f191 x = (S191_c185c166 k).fn x := by
  have h : funK (E191_c185c166 k) (S191_c185c166 k) Try.f191 x = slices_IndexFunc_int64_int64_impl_areAll_int64_1_impl_IsTasks_1.g k (fun a0 a1 a2 a3 => loopF (E191_c185c166 k) (S191_c185c166 k) Try.f191 p191_c185c166_0 [] k (n191_c185c166_0 a0 a1 a2 a3)) x.1 x.2 := by kernel_rfl
  rw [h]
  rw [show (fun a0 a1 a2 a3 => loopF (E191_c185c166 k) (S191_c185c166 k) Try.f191 p191_c185c166_0 [] k (n191_c185c166_0 a0 a1 a2 a3)) = slices_IndexFunc_int64_int64_impl_areAll_int64_1_impl_IsTasks_1.l0 k k from funext fun a0 => funext fun a1 => funext fun a2 => funext fun a3 => q191_c185c166_0 k k (a0, a1, a2, a3)]
  rfl
theorem M191_c185c166 (k : Nat) : Meets Try.prog 191 (S191_c185c166 k) := meets_of Try.func191 (by kernel_rfl) tbOk (orc_cons (M185_c166 k) orc_nil) mixOk (fun x y h => (e191_c185c166 k x).trans h) rfl

/-! slices_ContainsFunc_int64_int64_impl_areAll_int64_1_impl_IsTasks_1: function 184 -/
noncomputable def slices_ContainsFunc_int64_int64_impl_areAll_int64_1_impl_IsTasks_1.f (k : Nat) (l0 : List Int) (a1 : Unit) : Option (Bool) := (slices_IndexFunc_int64_int64_impl_areAll_int64_1_impl_IsTasks_1.f k l0 a1).bind fun t1 => some (decide (0 ≤ t1))
noncomputable def S184_c185c166 (k : Nat) : Does := ⟨[(false, [.dat (.list (.int .i64))]), (false, [.dat (.clo 185 (.ptr (.clo 166 .unit)))])], [(false, [.dat .bool])], fun x => slices_ContainsFunc_int64_int64_impl_areAll_int64_1_impl_IsTasks_1.f k x.1 x.2⟩
noncomputable def E184_c185c166 (k : Nat) : En := ⟨tb, orcOf [(191, S191_c185c166 k)], lvOf [], k, 0, lvOf [], []⟩
theorem e184_c185c166 (k : Nat) (x : dens (flatC (S184_c185c166 k).ps)) : funK (E184_c185c166 k) (S184_c185c166 k) Try.f184 x = (S184_c185c166 k).fn x := by
  kernel_rfl
theorem M184_c185c166 (k : Nat) : Meets Try.prog 184 (S184_c185c166 k) := meets_of Try.func184 (by kernel_rfl) tbOk (orc_cons (M191_c185c166 k) orc_nil) mixOk (fun x y h => (e184_c185c166 k x).trans h) rfl

/-! impl_areAll_int64_impl_IsTasks_1: function 157 -/
noncomputable def impl_areAll_int64_impl_IsTasks_1.f (k : Nat) (l0 : List Int) (a1 : Unit) : Option (Bool) := (slices_ContainsFunc_int64_int64_impl_areAll_int64_1_impl_IsTasks_1.f k l0 a1).bind fun t1 => some (!decide (t1 = true))
noncomputable def S157_c166 (k : Nat) : Does := ⟨[(false, [.dat (.list (.int .i64))]), (false, [.dat (.clo 166 .unit)])], [(false, [.dat .bool])], fun x => impl_areAll_int64_impl_IsTasks_1.f k x.1 x.2⟩
noncomputable def E157_c166 (k : Nat) : En := ⟨tb, orcOf [(184, S184_c185c166 k)], lvOf [], k, 0, lvOf [], []⟩
theorem e157_c166 (k : Nat) (x : dens (flatC (S157_c166 k).ps)) : funK (E157_c166 k) (S157_c166 k) Try.f157 x = (S157_c166 k).fn x := by
  kernel_rfl
theorem M157_c166 (k : Nat) : Meets Try.prog 157 (S157_c166 k) := meets_of Try.func157 (by kernel_rfl) tbOk (orc_cons (M184_c185c166 k) orc_nil) mixOk (fun x y h => (e157_c166 k x).trans h) rfl

/-! impl_IsTasks: function 119 -/
noncomputable def impl_IsTasks.f (k : Nat) (l0_0 : List Int) : Option (Bool) := (impl_length_int64.f l0_0).bind fun t1 => (impl_within.f t1 1 8).bind fun t2 => if t2 = true then ((impl_areAll_int64_impl_IsTasks_1.f k l0_0 ()).bind fun t3 => some t3) else (some false)
noncomputable def S119 (k : Nat) : Does := ⟨[(true, [.dat (.list (.int .i64))])], [(false, [.dat .bool])], fun x => impl_IsTasks.f k x⟩
noncomputable def E119 (k : Nat) : En := ⟨tb, orcOf [(101, S101 k), (104, S104 k), (157, S157_c166 k)], lvOf [], k, 0, lvOf [], []⟩
theorem e119 (k : Nat) (x : dens (flatC (S119 k).ps)) : funK (E119 k) (S119 k) Try.f119 x = (S119 k).fn x := by
  kernel_rfl
theorem M119 (k : Nat) : Meets Try.prog 119 (S119 k) := meets_of Try.func119 (by kernel_rfl) tbOk (orc_cons (M101 k) (orc_cons (M104 k) (orc_cons (M157_c166 k) orc_nil))) mixOk (fun x y h => (e119 k x).trans h) rfl

/-! impl_GapsOfTurns: function 32 -/
noncomputable def impl_GapsOfTurns.s0 (k : Nat) (r0 : (List Int) → (List Int) → Int → Int → Option ((List Int) × Int)) (x4 : List Int) (x6_0 : List Int) (x18 : Int) (x19 : Int) : Option ((List Int) × Int) := if x19 < x18 then ((impl_waits.f k x4 x19).bind fun t3 => (impl_greatest.f k t3).bind fun t4 => if x6_0.length + 1 ≤ 1099511627776 then (r0 x4 (x6_0 ++ [t4]) x18 (wrap64 (x19 + 1))) else (none)) else ((impl_IsTasks.f k x6_0).bind fun t5 => if t5 = true then (some (x6_0, 0)) else (some ([], 4)))
noncomputable def impl_GapsOfTurns.l0 (k : Nat) : Nat → (List Int) → (List Int) → Int → Int → Option ((List Int) × Int)
  | 0, _, _, _, _ => none
  | n + 1, x0, x1, x2, x3 => impl_GapsOfTurns.s0 k (impl_GapsOfTurns.l0 k n) x0 x1 x2 x3
noncomputable def impl_GapsOfTurns.g (k : Nat) (r0 : (List Int) → (List Int) → Int → Int → Option ((List Int) × Int)) (l0_0 : List Int) (l0_1 : List Int) (l0_2 : List Int) : Option ((List Int) × Int) := (impl_TurnsOfJobs.f k l0_0 l0_1 l0_2).bind fun t1 => if t1.2 = 0 then ((impl_Jobs_many.f l0_0 l0_1 l0_2).bind fun t2 => r0 t1.1 [] t2 0) else (some ([], t1.2))
noncomputable def impl_GapsOfTurns.f (k : Nat) (l0_0 : List Int) (l0_1 : List Int) (l0_2 : List Int) : Option ((List Int) × Int) := impl_GapsOfTurns.g k (impl_GapsOfTurns.l0 k k) l0_0 l0_1 l0_2
noncomputable def S32 (k : Nat) : Does := ⟨[(true, [.dat (.list (.int .i64)), .dat (.list (.int .i64)), .dat (.list (.int .i64))])], [(true, [.own 2 (.int .i64)]), (false, [.dat (.int .i64)])], fun x => impl_GapsOfTurns.f k x.1 x.2.1 x.2.2⟩
noncomputable def E32 (k : Nat) : En := ⟨tb, orcOf [(28, S28 k), (96, S96 k), (118, S118 k), (117, S117 k), (119, S119 k)], lvOf [(0, [(2, []), (4, []), (6, [.cell 0 2 (.int .i64)]), (18, []), (19, [])])], k, 0, lvOf [], []⟩
noncomputable def n32_0 (x4 : List Int) (x6_0 : List Int) (x18 : Int) (x19 : Int) : St := ⟨37, lookA [(2, .box 0 0), (4, .own 1), (6, .box 2 0), (18, .dat (.int .i64) x18), (19, .dat (.int .i64) x19)], Go.V.look [(0, .cells [.nil]), (1, .flat 2 (.int .i64) x4), (2, .cells [.own 3]), (3, .flat 2 (.int .i64) x6_0)]⟩
def p32_0 : List Bool := [true, true, true, true, false, true, false]
theorem r32_0 (k : Nat) (rec : St → Option ((List Int) × Int)) (v : (List Int) × (List Int) × Int × Int) : roundF (E32 k) (S32 k) Try.f32 p32_0 [] rec (n32_0 v.1 v.2.1 v.2.2.1 v.2.2.2) = impl_GapsOfTurns.s0 k (fun a0 a1 a2 a3 => rec (n32_0 a0 a1 a2 a3)) v.1 v.2.1 v.2.2.1 v.2.2.2 := by
  kernel_rfl
theorem q32_0 (k : Nat) (n : Nat) : ∀ v : (List Int) × (List Int) × Int × Int, loopF (E32 k) (S32 k) Try.f32 p32_0 [] n (n32_0 v.1 v.2.1 v.2.2.1 v.2.2.2) = impl_GapsOfTurns.l0 k n v.1 v.2.1 v.2.2.1 v.2.2.2 :=
  loopF_eq (E32 k) (S32 k) Try.f32 p32_0 [] (fun v : (List Int) × (List Int) × Int × Int => n32_0 v.1 v.2.1 v.2.2.1 v.2.2.2) (fun rec v => impl_GapsOfTurns.s0 k (fun a0 a1 a2 a3 => rec (a0, a1, a2, a3)) v.1 v.2.1 v.2.2.1 v.2.2.2) (fun n v => impl_GapsOfTurns.l0 k n v.1 v.2.1 v.2.2.1 v.2.2.2) (fun _ => rfl) (fun _ _ => rfl) (fun rec v => r32_0 k rec v) n
theorem e32 (k : Nat) (x : dens (flatC (S32 k).ps)) : funK (E32 k) (S32 k) Try.f32 x = (S32 k).fn x := by
  have h : funK (E32 k) (S32 k) Try.f32 x = impl_GapsOfTurns.g k (fun a0 a1 a2 a3 => loopF (E32 k) (S32 k) Try.f32 p32_0 [] k (n32_0 a0 a1 a2 a3)) x.1 x.2.1 x.2.2 := by kernel_rfl
  rw [h]
  rw [show (fun a0 a1 a2 a3 => loopF (E32 k) (S32 k) Try.f32 p32_0 [] k (n32_0 a0 a1 a2 a3)) = impl_GapsOfTurns.l0 k k from funext fun a0 => funext fun a1 => funext fun a2 => funext fun a3 => q32_0 k k (a0, a1, a2, a3)]
  rfl
theorem M32 (k : Nat) : Meets Try.prog 32 (S32 k) := meets_of Try.func32 (by kernel_rfl) tbOk (orc_cons (M28 k) (orc_cons (M96 k) (orc_cons (M118 k) (orc_cons (M117 k) (orc_cons (M119 k) orc_nil))))) mixOk (fun x y h => (e32 k x).trans h) rfl

/-! spec_l01Waits: function 165 -/
noncomputable def spec_l01Waits.s0 (k : Nat) (r0 : (List Int) → Int → (List Int) → Int → Int → Int → Option ((List Int))) (x0 : List Int) (x1 : Int) (x5 : List Int) (x6 : Int) (x7 : Int) (x8 : Int) : Option ((List Int)) := if x8 < (x0.length : Int) then (if 0 ≤ x8 then (if x8 < (x0.length : Int) then (if (rd x0 x8) = x1 then (if x6 < 0 then (r0 x0 x1 x5 x8 x8 (wrap64 (x8 + 1))) else (if x5.length + 1 ≤ 1099511627776 then (r0 x0 x1 (x5 ++ [(wrap64 (x8 - x7))]) x6 x8 (wrap64 (x8 + 1))) else (none))) else (r0 x0 x1 x5 x6 x7 (wrap64 (x8 + 1)))) else (none)) else (none)) else (if 0 ≤ x6 then (if x5.length + 1 ≤ 1099511627776 then (some (x5 ++ [(wrap64 ((wrap64 ((x0.length : Int) - x7)) + x6))])) else (none)) else (some x5))
noncomputable def spec_l01Waits.l0 (k : Nat) : Nat → (List Int) → Int → (List Int) → Int → Int → Int → Option ((List Int))
  | 0, _, _, _, _, _, _ => none
  | n + 1, x0, x1, x2, x3, x4, x5 => spec_l01Waits.s0 k (spec_l01Waits.l0 k n) x0 x1 x2 x3 x4 x5
noncomputable def spec_l01Waits.g (k : Nat) (r0 : (List Int) → Int → (List Int) → Int → Int → Int → Option ((List Int))) (l0 : List Int) (a1 : Int) : Option ((List Int)) := r0 l0 a1 [] (-1) (-1) 0
noncomputable def spec_l01Waits.f (k : Nat) (l0 : List Int) (a1 : Int) : Option ((List Int)) := spec_l01Waits.g k (spec_l01Waits.l0 k k) l0 a1
noncomputable def S165 (k : Nat) : Does := ⟨[(false, [.dat (.list (.int .i64))]), (false, [.dat (.int .i64)])], [(false, [.own 2 (.int .i64)])], fun x => spec_l01Waits.f k x.1 x.2⟩
noncomputable def E165 (k : Nat) : En := ⟨tb, orcOf [], lvOf [(0, [(0, []), (1, []), (5, []), (6, []), (7, []), (8, [])])], k, 0, lvOf [], []⟩
noncomputable def n165_0 (x0 : List Int) (x1 : Int) (x5 : List Int) (x6 : Int) (x7 : Int) (x8 : Int) : St := ⟨44, lookA [(0, .dat (.list (.int .i64)) x0), (1, .dat (.int .i64) x1), (5, .own 0), (6, .dat (.int .i64) x6), (7, .dat (.int .i64) x7), (8, .dat (.int .i64) x8)], Go.V.look [(0, .flat 2 (.int .i64) x5)]⟩
def p165_0 : List Bool := [true, true, false, true, false]
theorem r165_0 (k : Nat) (rec : St → Option ((List Int))) (v : (List Int) × Int × (List Int) × Int × Int × Int) : roundF (E165 k) (S165 k) Try.f165 p165_0 [] rec (n165_0 v.1 v.2.1 v.2.2.1 v.2.2.2.1 v.2.2.2.2.1 v.2.2.2.2.2) = spec_l01Waits.s0 k (fun a0 a1 a2 a3 a4 a5 => rec (n165_0 a0 a1 a2 a3 a4 a5)) v.1 v.2.1 v.2.2.1 v.2.2.2.1 v.2.2.2.2.1 v.2.2.2.2.2 := by
  kernel_rfl
theorem q165_0 (k : Nat) (n : Nat) : ∀ v : (List Int) × Int × (List Int) × Int × Int × Int, loopF (E165 k) (S165 k) Try.f165 p165_0 [] n (n165_0 v.1 v.2.1 v.2.2.1 v.2.2.2.1 v.2.2.2.2.1 v.2.2.2.2.2) = spec_l01Waits.l0 k n v.1 v.2.1 v.2.2.1 v.2.2.2.1 v.2.2.2.2.1 v.2.2.2.2.2 :=
  loopF_eq (E165 k) (S165 k) Try.f165 p165_0 [] (fun v : (List Int) × Int × (List Int) × Int × Int × Int => n165_0 v.1 v.2.1 v.2.2.1 v.2.2.2.1 v.2.2.2.2.1 v.2.2.2.2.2) (fun rec v => spec_l01Waits.s0 k (fun a0 a1 a2 a3 a4 a5 => rec (a0, a1, a2, a3, a4, a5)) v.1 v.2.1 v.2.2.1 v.2.2.2.1 v.2.2.2.2.1 v.2.2.2.2.2) (fun n v => spec_l01Waits.l0 k n v.1 v.2.1 v.2.2.1 v.2.2.2.1 v.2.2.2.2.1 v.2.2.2.2.2) (fun _ => rfl) (fun _ _ => rfl) (fun rec v => r165_0 k rec v) n
theorem e165 (k : Nat) (x : dens (flatC (S165 k).ps)) : funK (E165 k) (S165 k) Try.f165 x = (S165 k).fn x := by
  have h : funK (E165 k) (S165 k) Try.f165 x = spec_l01Waits.g k (fun a0 a1 a2 a3 a4 a5 => loopF (E165 k) (S165 k) Try.f165 p165_0 [] k (n165_0 a0 a1 a2 a3 a4 a5)) x.1 x.2 := by kernel_rfl
  rw [h]
  rw [show (fun a0 a1 a2 a3 a4 a5 => loopF (E165 k) (S165 k) Try.f165 p165_0 [] k (n165_0 a0 a1 a2 a3 a4 a5)) = spec_l01Waits.l0 k k from funext fun a0 => funext fun a1 => funext fun a2 => funext fun a3 => funext fun a4 => funext fun a5 => q165_0 k k (a0, a1, a2, a3, a4, a5)]
  rfl
theorem M165 (k : Nat) : Meets Try.prog 165 (S165 k) := meets_of Try.func165 (by kernel_rfl) tbOk orc_nil mixOk (fun x y h => (e165 k x).trans h) rfl

/-! spec_l01Greatest: function 116 -/
noncomputable def spec_l01Greatest.s0 (k : Nat) (r0 : (List Int) → Int → Int → Option (Int)) (x5 : List Int) (x6 : Int) (x7 : Int) : Option (Int) := if x7 < (x5.length : Int) then (if 0 ≤ x7 then (if x7 < (x5.length : Int) then (r0 x5 (maxV x6 (rd x5 x7)) (wrap64 (x7 + 1))) else (none)) else (none)) else (some x6)
noncomputable def spec_l01Greatest.l0 (k : Nat) : Nat → (List Int) → Int → Int → Option (Int)
  | 0, _, _, _ => none
  | n + 1, x0, x1, x2 => spec_l01Greatest.s0 k (spec_l01Greatest.l0 k n) x0 x1 x2
noncomputable def spec_l01Greatest.g (k : Nat) (r0 : (List Int) → Int → Int → Option (Int)) (l0 : List Int) (a1 : Int) : Option (Int) := (spec_l01Waits.f k l0 a1).bind fun t1 => r0 t1 0 0
noncomputable def spec_l01Greatest.f (k : Nat) (l0 : List Int) (a1 : Int) : Option (Int) := spec_l01Greatest.g k (spec_l01Greatest.l0 k k) l0 a1
noncomputable def S116 (k : Nat) : Does := ⟨[(false, [.dat (.list (.int .i64))]), (false, [.dat (.int .i64)])], [(false, [.dat (.int .i64)])], fun x => spec_l01Greatest.f k x.1 x.2⟩
noncomputable def E116 (k : Nat) : En := ⟨tb, orcOf [(165, S165 k)], lvOf [(0, [(5, []), (6, []), (7, [])])], k, 0, lvOf [], []⟩
noncomputable def n116_0 (x5 : List Int) (x6 : Int) (x7 : Int) : St := ⟨24, lookA [(5, .own 0), (6, .dat (.int .i64) x6), (7, .dat (.int .i64) x7)], Go.V.look [(0, .flat 2 (.int .i64) x5)]⟩
def p116_0 : List Bool := [true, true, false, true, false]
theorem r116_0 (k : Nat) (rec : St → Option (Int)) (v : (List Int) × Int × Int) : roundF (E116 k) (S116 k) Try.f116 p116_0 [] rec (n116_0 v.1 v.2.1 v.2.2) = spec_l01Greatest.s0 k (fun a0 a1 a2 => rec (n116_0 a0 a1 a2)) v.1 v.2.1 v.2.2 := by
  kernel_rfl
theorem q116_0 (k : Nat) (n : Nat) : ∀ v : (List Int) × Int × Int, loopF (E116 k) (S116 k) Try.f116 p116_0 [] n (n116_0 v.1 v.2.1 v.2.2) = spec_l01Greatest.l0 k n v.1 v.2.1 v.2.2 :=
  loopF_eq (E116 k) (S116 k) Try.f116 p116_0 [] (fun v : (List Int) × Int × Int => n116_0 v.1 v.2.1 v.2.2) (fun rec v => spec_l01Greatest.s0 k (fun a0 a1 a2 => rec (a0, a1, a2)) v.1 v.2.1 v.2.2) (fun n v => spec_l01Greatest.l0 k n v.1 v.2.1 v.2.2) (fun _ => rfl) (fun _ _ => rfl) (fun rec v => r116_0 k rec v) n
theorem e116 (k : Nat) (x : dens (flatC (S116 k).ps)) : funK (E116 k) (S116 k) Try.f116 x = (S116 k).fn x := by
  have h : funK (E116 k) (S116 k) Try.f116 x = spec_l01Greatest.g k (fun a0 a1 a2 => loopF (E116 k) (S116 k) Try.f116 p116_0 [] k (n116_0 a0 a1 a2)) x.1 x.2 := by kernel_rfl
  rw [h]
  rw [show (fun a0 a1 a2 => loopF (E116 k) (S116 k) Try.f116 p116_0 [] k (n116_0 a0 a1 a2)) = spec_l01Greatest.l0 k k from funext fun a0 => funext fun a1 => funext fun a2 => q116_0 k k (a0, a1, a2)]
  rfl
theorem M116 (k : Nat) : Meets Try.prog 116 (S116 k) := meets_of Try.func116 (by kernel_rfl) tbOk (orc_cons (M165 k) orc_nil) mixOk (fun x y h => (e116 k x).trans h) rfl

/-! spec_GapsOfTurns: function 31 -/
noncomputable def spec_GapsOfTurns.s0 (k : Nat) (r0 : (List Int) → (List Int) → (List Int) → (List Int) → (List Int) → Int → Option ((List Int) × Int)) (x1_0 : List Int) (x1_1 : List Int) (x1_2 : List Int) (x4 : List Int) (x6_0 : List Int) (x7 : Int) : Option ((List Int) × Int) := if x7 < (x1_0.length : Int) then ((spec_l01Greatest.f k x4 x7).bind fun t2 => if 40 < t2 then (some ([], 4)) else (if x6_0.length + 1 ≤ 1099511627776 then (r0 x1_0 x1_1 x1_2 x4 (x6_0 ++ [t2]) (wrap64 (x7 + 1))) else (none))) else (some (x6_0, 0))
noncomputable def spec_GapsOfTurns.l0 (k : Nat) : Nat → (List Int) → (List Int) → (List Int) → (List Int) → (List Int) → Int → Option ((List Int) × Int)
  | 0, _, _, _, _, _, _ => none
  | n + 1, x0, x1, x2, x3, x4, x5 => spec_GapsOfTurns.s0 k (spec_GapsOfTurns.l0 k n) x0 x1 x2 x3 x4 x5
noncomputable def spec_GapsOfTurns.g (k : Nat) (r0 : (List Int) → (List Int) → (List Int) → (List Int) → (List Int) → Int → Option ((List Int) × Int)) (l0_0 : List Int) (l0_1 : List Int) (l0_2 : List Int) : Option ((List Int) × Int) := (spec_l04Turns.f k l0_0 l0_1 l0_2).bind fun t1 => if t1.2 = 0 then (r0 l0_0 l0_1 l0_2 t1.1 [] 0) else (some ([], t1.2))
noncomputable def spec_GapsOfTurns.f (k : Nat) (l0_0 : List Int) (l0_1 : List Int) (l0_2 : List Int) : Option ((List Int) × Int) := spec_GapsOfTurns.g k (spec_GapsOfTurns.l0 k k) l0_0 l0_1 l0_2
noncomputable def S31 (k : Nat) : Does := ⟨[(true, [.dat (.list (.int .i64)), .dat (.list (.int .i64)), .dat (.list (.int .i64))])], [(true, [.own 2 (.int .i64)]), (false, [.dat (.int .i64)])], fun x => spec_GapsOfTurns.f k x.1 x.2.1 x.2.2⟩
noncomputable def E31 (k : Nat) : En := ⟨tb, orcOf [(113, S113 k), (116, S116 k)], lvOf [(0, [(1, []), (2, []), (4, []), (6, []), (7, [])])], k, 0, lvOf [], []⟩
noncomputable def n31_0 (x1_0 : List Int) (x1_1 : List Int) (x1_2 : List Int) (x4 : List Int) (x6_0 : List Int) (x7 : Int) : St := ⟨40, lookA [(1, .box 0 0), (2, .box 1 0), (4, .own 2), (6, .box 3 0), (7, .dat (.int .i64) x7)], Go.V.look [(0, .cells [.dat (.list (.int .i64)) x1_0, .dat (.list (.int .i64)) x1_1, .dat (.list (.int .i64)) x1_2]), (1, .cells [.nil]), (2, .flat 2 (.int .i64) x4), (3, .cells [.own 4]), (4, .flat 2 (.int .i64) x6_0)]⟩
def p31_0 : List Bool := [true, true, true, true, false, true, false]
theorem r31_0 (k : Nat) (rec : St → Option ((List Int) × Int)) (v : (List Int) × (List Int) × (List Int) × (List Int) × (List Int) × Int) : roundF (E31 k) (S31 k) Try.f31 p31_0 [] rec (n31_0 v.1 v.2.1 v.2.2.1 v.2.2.2.1 v.2.2.2.2.1 v.2.2.2.2.2) = spec_GapsOfTurns.s0 k (fun a0 a1 a2 a3 a4 a5 => rec (n31_0 a0 a1 a2 a3 a4 a5)) v.1 v.2.1 v.2.2.1 v.2.2.2.1 v.2.2.2.2.1 v.2.2.2.2.2 := by
  kernel_rfl
theorem q31_0 (k : Nat) (n : Nat) : ∀ v : (List Int) × (List Int) × (List Int) × (List Int) × (List Int) × Int, loopF (E31 k) (S31 k) Try.f31 p31_0 [] n (n31_0 v.1 v.2.1 v.2.2.1 v.2.2.2.1 v.2.2.2.2.1 v.2.2.2.2.2) = spec_GapsOfTurns.l0 k n v.1 v.2.1 v.2.2.1 v.2.2.2.1 v.2.2.2.2.1 v.2.2.2.2.2 :=
  loopF_eq (E31 k) (S31 k) Try.f31 p31_0 [] (fun v : (List Int) × (List Int) × (List Int) × (List Int) × (List Int) × Int => n31_0 v.1 v.2.1 v.2.2.1 v.2.2.2.1 v.2.2.2.2.1 v.2.2.2.2.2) (fun rec v => spec_GapsOfTurns.s0 k (fun a0 a1 a2 a3 a4 a5 => rec (a0, a1, a2, a3, a4, a5)) v.1 v.2.1 v.2.2.1 v.2.2.2.1 v.2.2.2.2.1 v.2.2.2.2.2) (fun n v => spec_GapsOfTurns.l0 k n v.1 v.2.1 v.2.2.1 v.2.2.2.1 v.2.2.2.2.1 v.2.2.2.2.2) (fun _ => rfl) (fun _ _ => rfl) (fun rec v => r31_0 k rec v) n
theorem e31 (k : Nat) (x : dens (flatC (S31 k).ps)) : funK (E31 k) (S31 k) Try.f31 x = (S31 k).fn x := by
  have h : funK (E31 k) (S31 k) Try.f31 x = spec_GapsOfTurns.g k (fun a0 a1 a2 a3 a4 a5 => loopF (E31 k) (S31 k) Try.f31 p31_0 [] k (n31_0 a0 a1 a2 a3 a4 a5)) x.1 x.2.1 x.2.2 := by kernel_rfl
  rw [h]
  rw [show (fun a0 a1 a2 a3 a4 a5 => loopF (E31 k) (S31 k) Try.f31 p31_0 [] k (n31_0 a0 a1 a2 a3 a4 a5)) = spec_GapsOfTurns.l0 k k from funext fun a0 => funext fun a1 => funext fun a2 => funext fun a3 => funext fun a4 => funext fun a5 => q31_0 k k (a0, a1, a2, a3, a4, a5)]
  rfl
theorem M31 (k : Nat) : Meets Try.prog 31 (S31 k) := meets_of Try.func31 (by kernel_rfl) tbOk (orc_cons (M113 k) (orc_cons (M116 k) orc_nil)) mixOk (fun x y h => (e31 k x).trans h) rfl

/-! spec_l01DrawTurns: function 172 -/
noncomputable def spec_l01DrawTurns.s0 (k : Nat) (r0 : (List Int) → Int → Int → Int → (List Int) → Int → Int → Option ((List Int) × ((List Int) × Int × Int))) (x0_0 : List Int) (x0_1 : Int) (x0_2 : Int) (x1 : Int) (x5 : List Int) (x6 : Int) (x7 : Int) : Option ((List Int) × ((List Int) × Int × Int)) := if 0 < x7 then ((spec_l01Next.f (x0_0, x0_1, x0_2) x1).bind fun t4 => (spec_l01Next.f (t4.2.1, t4.2.2.1, t4.2.2.2) (wrap64 (x6 + 3))).bind fun t5 => if t5.1 = 0 then (if x5.length + 1 ≤ 1099511627776 then (r0 t5.2.1 t5.2.2.1 t5.2.2.2 x1 (x5 ++ [(-1)]) x6 (wrap64 (x7 - 1))) else (none)) else (if x5.length + 1 ≤ 1099511627776 then (r0 t5.2.1 t5.2.2.1 t5.2.2.2 x1 (x5 ++ [t4.1]) x6 (wrap64 (x7 - 1))) else (none))) else (some (x5, x0_0, x0_1, x0_2))
noncomputable def spec_l01DrawTurns.l0 (k : Nat) : Nat → (List Int) → Int → Int → Int → (List Int) → Int → Int → Option ((List Int) × ((List Int) × Int × Int))
  | 0, _, _, _, _, _, _, _ => none
  | n + 1, x0, x1, x2, x3, x4, x5, x6 => spec_l01DrawTurns.s0 k (spec_l01DrawTurns.l0 k n) x0 x1 x2 x3 x4 x5 x6
noncomputable def spec_l01DrawTurns.g (k : Nat) (r0 : (List Int) → Int → Int → Int → (List Int) → Int → Int → Option ((List Int) × ((List Int) × Int × Int))) (a0 : (List Int) × Int × Int) (a1 : Int) : Option ((List Int) × ((List Int) × Int × Int)) := (spec_l01Pick.f (a0.1, a0.2.1, a0.2.2) [1, 4, 20]).bind fun t1 => (spec_l01Pick.f (t1.2.1, t1.2.2.1, t1.2.2.2) [6, 12, 40, 120]).bind fun t2 => (spec_l01Next.f (t2.2.1, t2.2.2.1, t2.2.2.2) t2.1).bind fun t3 => r0 t3.2.1 t3.2.2.1 t3.2.2.2 a1 [] t1.1 (wrap64 (1 + t3.1))
noncomputable def spec_l01DrawTurns.f (k : Nat) (a0 : (List Int) × Int × Int) (a1 : Int) : Option ((List Int) × ((List Int) × Int × Int)) := spec_l01DrawTurns.g k (spec_l01DrawTurns.l0 k k) a0 a1
noncomputable def S172 (k : Nat) : Does := ⟨[(false, [.cel (.struct (.pair (.list (.int .u8)) (.pair (.int .i64) (.int .u64))))]), (false, [.dat (.int .i64)])], [(false, [.own 2 (.int .i64)])], fun x => spec_l01DrawTurns.f k x.1 x.2⟩
noncomputable def E172 (k : Nat) : En := ⟨tb, orcOf [(128, S128 k), (139, S139 k)], lvOf [(0, [(0, []), (1, []), (5, []), (6, []), (7, [])])], k, 1, lvOf [], []⟩
noncomputable def n172_0 (x0_0 : List Int) (x0_1 : Int) (x0_2 : Int) (x1 : Int) (x5 : List Int) (x6 : Int) (x7 : Int) : St := ⟨36, lookA [(0, .box 0 0), (1, .dat (.int .i64) x1), (5, .own 1), (6, .dat (.int .i64) x6), (7, .dat (.int .i64) x7)], Go.V.look [(0, .cells [.dat (.list (.int .u8)) x0_0, .dat (.int .i64) x0_1, .dat (.int .u64) x0_2]), (1, .flat 2 (.int .i64) x5)]⟩
def p172_0 : List Bool := [true, true, false, true, false]
theorem r172_0 (k : Nat) (rec : St → Option ((List Int) × ((List Int) × Int × Int))) (v : (List Int) × Int × Int × Int × (List Int) × Int × Int) : roundF (E172 k) (S172 k) Try.f172 p172_0 [] rec (n172_0 v.1 v.2.1 v.2.2.1 v.2.2.2.1 v.2.2.2.2.1 v.2.2.2.2.2.1 v.2.2.2.2.2.2) = spec_l01DrawTurns.s0 k (fun a0 a1 a2 a3 a4 a5 a6 => rec (n172_0 a0 a1 a2 a3 a4 a5 a6)) v.1 v.2.1 v.2.2.1 v.2.2.2.1 v.2.2.2.2.1 v.2.2.2.2.2.1 v.2.2.2.2.2.2 := by
  kernel_rfl
theorem q172_0 (k : Nat) (n : Nat) : ∀ v : (List Int) × Int × Int × Int × (List Int) × Int × Int, loopF (E172 k) (S172 k) Try.f172 p172_0 [] n (n172_0 v.1 v.2.1 v.2.2.1 v.2.2.2.1 v.2.2.2.2.1 v.2.2.2.2.2.1 v.2.2.2.2.2.2) = spec_l01DrawTurns.l0 k n v.1 v.2.1 v.2.2.1 v.2.2.2.1 v.2.2.2.2.1 v.2.2.2.2.2.1 v.2.2.2.2.2.2 :=
  loopF_eq (E172 k) (S172 k) Try.f172 p172_0 [] (fun v : (List Int) × Int × Int × Int × (List Int) × Int × Int => n172_0 v.1 v.2.1 v.2.2.1 v.2.2.2.1 v.2.2.2.2.1 v.2.2.2.2.2.1 v.2.2.2.2.2.2) (fun rec v => spec_l01DrawTurns.s0 k (fun a0 a1 a2 a3 a4 a5 a6 => rec (a0, a1, a2, a3, a4, a5, a6)) v.1 v.2.1 v.2.2.1 v.2.2.2.1 v.2.2.2.2.1 v.2.2.2.2.2.1 v.2.2.2.2.2.2) (fun n v => spec_l01DrawTurns.l0 k n v.1 v.2.1 v.2.2.1 v.2.2.2.1 v.2.2.2.2.1 v.2.2.2.2.2.1 v.2.2.2.2.2.2) (fun _ => rfl) (fun _ _ => rfl) (fun rec v => r172_0 k rec v) n
theorem e172 (k : Nat) (x : dens (flatC (S172 k).ps)) : funK (E172 k) (S172 k) Try.f172 x = (S172 k).fn x := by
  have h : funK (E172 k) (S172 k) Try.f172 x = spec_l01DrawTurns.g k (fun a0 a1 a2 a3 a4 a5 a6 => loopF (E172 k) (S172 k) Try.f172 p172_0 [] k (n172_0 a0 a1 a2 a3 a4 a5 a6)) x.1 x.2 := by kernel_rfl
  rw [h]
  rw [show (fun a0 a1 a2 a3 a4 a5 a6 => loopF (E172 k) (S172 k) Try.f172 p172_0 [] k (n172_0 a0 a1 a2 a3 a4 a5 a6)) = spec_l01DrawTurns.l0 k k from funext fun a0 => funext fun a1 => funext fun a2 => funext fun a3 => funext fun a4 => funext fun a5 => funext fun a6 => q172_0 k k (a0, a1, a2, a3, a4, a5, a6)]
  rfl
theorem M172 (k : Nat) : Meets Try.prog 172 (S172 k) := meets_of Try.func172 (by kernel_rfl) tbOk (orc_cons (M128 k) (orc_cons (M139 k) orc_nil)) mixOk (fun x y h => (e172 k x).trans h) rfl

/-! spec_l01DrawServed: function 189 -/
noncomputable def spec_l01DrawServed.s1 (k : Nat) (r1 : (List Int) → Int → Int → Int → (List Int) → (List Int) → Int → Option ((List Int) × (List Int) × ((List Int) × Int × Int))) (x0_0 : List Int) (x0_1 : Int) (x0_2 : Int) (x4 : Int) (x5 : List Int) (x7_0 : List Int) (x8 : Int) : Option ((List Int) × (List Int) × ((List Int) × Int × Int)) := if x8 < x4 then ((spec_l01Greatest.f k x5 x8).bind fun t5 => if t5 = 0 then ((spec_l01Next.f (x0_0, x0_1, x0_2) 4).bind fun t6 => if t6.1 = 0 then ((spec_l01Next.f (t6.2.1, t6.2.2.1, t6.2.2.2) 4).bind fun t7 => if x7_0.length + 1 ≤ 1099511627776 then (r1 t7.2.1 t7.2.2.1 t7.2.2.2 x4 x5 (x7_0 ++ [(maxV (minV (wrap64 ((wrap64 (40 + t7.1)) - 1)) 40) 1)]) (wrap64 (x8 + 1))) else (none)) else (if x7_0.length + 1 ≤ 1099511627776 then (r1 t6.2.1 t6.2.2.1 t6.2.2.2 x4 x5 (x7_0 ++ [(maxV (minV 40 40) 1)]) (wrap64 (x8 + 1))) else (none))) else ((spec_l01Next.f (x0_0, x0_1, x0_2) 4).bind fun t8 => if t8.1 = 0 then ((spec_l01Next.f (t8.2.1, t8.2.2.1, t8.2.2.2) 4).bind fun t9 => if x7_0.length + 1 ≤ 1099511627776 then (r1 t9.2.1 t9.2.2.1 t9.2.2.2 x4 x5 (x7_0 ++ [(maxV (minV (wrap64 ((wrap64 (t5 + t9.1)) - 1)) 40) 1)]) (wrap64 (x8 + 1))) else (none)) else (if x7_0.length + 1 ≤ 1099511627776 then (r1 t8.2.1 t8.2.2.1 t8.2.2.2 x4 x5 (x7_0 ++ [(maxV (minV t5 40) 1)]) (wrap64 (x8 + 1))) else (none)))) else (some (x7_0, x5, x0_0, x0_1, x0_2))
noncomputable def spec_l01DrawServed.l1 (k : Nat) : Nat → (List Int) → Int → Int → Int → (List Int) → (List Int) → Int → Option ((List Int) × (List Int) × ((List Int) × Int × Int))
  | 0, _, _, _, _, _, _, _ => none
  | n + 1, x0, x1, x2, x3, x4, x5, x6 => spec_l01DrawServed.s1 k (spec_l01DrawServed.l1 k n) x0 x1 x2 x3 x4 x5 x6
noncomputable def spec_l01DrawServed.s0 (k : Nat) (r0 : (List Int) → Int → Int → Int → (List Int) → Int → Option ((List Int) × (List Int) × ((List Int) × Int × Int))) (r1 : (List Int) → Int → Int → Int → (List Int) → (List Int) → Int → Option ((List Int) × (List Int) × ((List Int) × Int × Int))) (x0_0 : List Int) (x0_1 : Int) (x0_2 : Int) (x4 : Int) (x5 : List Int) (x6 : Int) : Option ((List Int) × (List Int) × ((List Int) × Int × Int)) := if x6 < x4 then (if x6 < (x5.length : Int) then ((spec_l01Greatest.f k x5 x6).bind fun t4 => if t4 = 0 then (if 0 ≤ x6 then (if x6 < (x5.length : Int) then (r0 x0_0 x0_1 x0_2 x4 (x5.set x6.toNat x6) (wrap64 (x6 + 1))) else (none)) else (none)) else (r0 x0_0 x0_1 x0_2 x4 x5 (wrap64 (x6 + 1)))) else (r1 x0_0 x0_1 x0_2 x4 x5 [] 0)) else (r1 x0_0 x0_1 x0_2 x4 x5 [] 0)
noncomputable def spec_l01DrawServed.l0 (k : Nat) : Nat → (List Int) → Int → Int → Int → (List Int) → Int → Option ((List Int) × (List Int) × ((List Int) × Int × Int))
  | 0, _, _, _, _, _, _ => none
  | n + 1, x0, x1, x2, x3, x4, x5 => spec_l01DrawServed.s0 k (spec_l01DrawServed.l0 k n) (spec_l01DrawServed.l1 k k) x0 x1 x2 x3 x4 x5
noncomputable def spec_l01DrawServed.g (k : Nat) (r0 : (List Int) → Int → Int → Int → (List Int) → Int → Option ((List Int) × (List Int) × ((List Int) × Int × Int))) (a0 : (List Int) × Int × Int) : Option ((List Int) × (List Int) × ((List Int) × Int × Int)) := (spec_l01Pick.f (a0.1, a0.2.1, a0.2.2) [3, 5, 8]).bind fun t1 => (spec_l01Next.f (t1.2.1, t1.2.2.1, t1.2.2.2) t1.1).bind fun t2 => (spec_l01DrawTurns.f k (t2.2.1, t2.2.2.1, t2.2.2.2) (wrap64 (1 + t2.1))).bind fun t3 => r0 t3.2.1 t3.2.2.1 t3.2.2.2 (wrap64 (1 + t2.1)) t3.1 0
noncomputable def spec_l01DrawServed.f (k : Nat) (a0 : (List Int) × Int × Int) : Option ((List Int) × (List Int) × ((List Int) × Int × Int)) := spec_l01DrawServed.g k (spec_l01DrawServed.l0 k k) a0
noncomputable def S189 (k : Nat) : Does := ⟨[(false, [.cel (.struct (.pair (.list (.int .u8)) (.pair (.int .i64) (.int .u64))))])], [(true, [.own 2 (.int .i64)]), (false, [.own 2 (.int .i64)])], fun x => spec_l01DrawServed.f k x⟩
noncomputable def E189 (k : Nat) : En := ⟨tb, orcOf [(128, S128 k), (139, S139 k), (172, S172 k), (116, S116 k)], lvOf [(0, [(0, []), (2, []), (4, []), (5, []), (6, [])]), (2, [(0, []), (2, []), (4, []), (5, []), (7, []), (8, [])])], k, 1, lvOf [], []⟩
noncomputable def n189_0 (x0_0 : List Int) (x0_1 : Int) (x0_2 : Int) (x4 : Int) (x5 : List Int) (x6 : Int) : St := ⟨68, lookA [(0, .box 0 0), (2, .box 1 0), (4, .dat (.int .i64) x4), (5, .own 2), (6, .dat (.int .i64) x6)], Go.V.look [(0, .cells [.dat (.list (.int .u8)) x0_0, .dat (.int .i64) x0_1, .dat (.int .u64) x0_2]), (1, .cells [.nil]), (2, .flat 2 (.int .i64) x5)]⟩
def p189_0 : List Bool := [true, true, true, false, true, false]
noncomputable def n189_1 (x0_0 : List Int) (x0_1 : Int) (x0_2 : Int) (x4 : Int) (x5 : List Int) (x7_0 : List Int) (x8 : Int) : St := ⟨68, lookA [(0, .box 0 0), (2, .box 1 0), (4, .dat (.int .i64) x4), (5, .own 2), (7, .box 3 0), (8, .dat (.int .i64) x8)], Go.V.look [(0, .cells [.dat (.list (.int .u8)) x0_0, .dat (.int .i64) x0_1, .dat (.int .u64) x0_2]), (1, .cells [.nil]), (2, .flat 2 (.int .i64) x5), (3, .cells [.own 4]), (4, .flat 2 (.int .i64) x7_0)]⟩
def p189_1 : List Bool := [true, true, true, true, true, false, true, false]
theorem r189_1 (k : Nat) (rec : St → Option ((List Int) × (List Int) × ((List Int) × Int × Int))) (v : (List Int) × Int × Int × Int × (List Int) × (List Int) × Int) : roundF (E189 k) (S189 k) Try.f189 p189_1 [] rec (n189_1 v.1 v.2.1 v.2.2.1 v.2.2.2.1 v.2.2.2.2.1 v.2.2.2.2.2.1 v.2.2.2.2.2.2) = spec_l01DrawServed.s1 k (fun a0 a1 a2 a3 a4 a5 a6 => rec (n189_1 a0 a1 a2 a3 a4 a5 a6)) v.1 v.2.1 v.2.2.1 v.2.2.2.1 v.2.2.2.2.1 v.2.2.2.2.2.1 v.2.2.2.2.2.2 := by
  kernel_rfl
theorem q189_1 (k : Nat) (n : Nat) : ∀ v : (List Int) × Int × Int × Int × (List Int) × (List Int) × Int, loopF (E189 k) (S189 k) Try.f189 p189_1 [] n (n189_1 v.1 v.2.1 v.2.2.1 v.2.2.2.1 v.2.2.2.2.1 v.2.2.2.2.2.1 v.2.2.2.2.2.2) = spec_l01DrawServed.l1 k n v.1 v.2.1 v.2.2.1 v.2.2.2.1 v.2.2.2.2.1 v.2.2.2.2.2.1 v.2.2.2.2.2.2 :=
  loopF_eq (E189 k) (S189 k) Try.f189 p189_1 [] (fun v : (List Int) × Int × Int × Int × (List Int) × (List Int) × Int => n189_1 v.1 v.2.1 v.2.2.1 v.2.2.2.1 v.2.2.2.2.1 v.2.2.2.2.2.1 v.2.2.2.2.2.2) (fun rec v => spec_l01DrawServed.s1 k (fun a0 a1 a2 a3 a4 a5 a6 => rec (a0, a1, a2, a3, a4, a5, a6)) v.1 v.2.1 v.2.2.1 v.2.2.2.1 v.2.2.2.2.1 v.2.2.2.2.2.1 v.2.2.2.2.2.2) (fun n v => spec_l01DrawServed.l1 k n v.1 v.2.1 v.2.2.1 v.2.2.2.1 v.2.2.2.2.1 v.2.2.2.2.2.1 v.2.2.2.2.2.2) (fun _ => rfl) (fun _ _ => rfl) (fun rec v => r189_1 k rec v) n
theorem r189_0 (k : Nat) (rec : St → Option ((List Int) × (List Int) × ((List Int) × Int × Int))) (G1 : (List Int) → Int → Int → Int → (List Int) → (List Int) → Int → Option ((List Int) × (List Int) × ((List Int) × Int × Int))) (h1 : ∀ a0 a1 a2 a3 a4 a5 a6, loopF (E189 k) (S189 k) Try.f189 p189_1 [] k (n189_1 a0 a1 a2 a3 a4 a5 a6) = G1 a0 a1 a2 a3 a4 a5 a6) (v : (List Int) × Int × Int × Int × (List Int) × Int) : roundF (E189 k) (S189 k) Try.f189 p189_0 [] rec (n189_0 v.1 v.2.1 v.2.2.1 v.2.2.2.1 v.2.2.2.2.1 v.2.2.2.2.2) = spec_l01DrawServed.s0 k (fun a0 a1 a2 a3 a4 a5 => rec (n189_0 a0 a1 a2 a3 a4 a5)) G1 v.1 v.2.1 v.2.2.1 v.2.2.2.1 v.2.2.2.2.1 v.2.2.2.2.2 := by
  obtain rfl : (fun a0 a1 a2 a3 a4 a5 a6 => loopF (E189 k) (S189 k) Try.f189 p189_1 [] k (n189_1 a0 a1 a2 a3 a4 a5 a6)) = G1 := funext fun a0 => funext fun a1 => funext fun a2 => funext fun a3 => funext fun a4 => funext fun a5 => funext fun a6 => h1 a0 a1 a2 a3 a4 a5 a6
  kernel_rfl
theorem q189_0 (k : Nat) (n : Nat) : ∀ v : (List Int) × Int × Int × Int × (List Int) × Int, loopF (E189 k) (S189 k) Try.f189 p189_0 [] n (n189_0 v.1 v.2.1 v.2.2.1 v.2.2.2.1 v.2.2.2.2.1 v.2.2.2.2.2) = spec_l01DrawServed.l0 k n v.1 v.2.1 v.2.2.1 v.2.2.2.1 v.2.2.2.2.1 v.2.2.2.2.2 :=
  loopF_eq (E189 k) (S189 k) Try.f189 p189_0 [] (fun v : (List Int) × Int × Int × Int × (List Int) × Int => n189_0 v.1 v.2.1 v.2.2.1 v.2.2.2.1 v.2.2.2.2.1 v.2.2.2.2.2) (fun rec v => spec_l01DrawServed.s0 k (fun a0 a1 a2 a3 a4 a5 => rec (a0, a1, a2, a3, a4, a5)) (spec_l01DrawServed.l1 k k) v.1 v.2.1 v.2.2.1 v.2.2.2.1 v.2.2.2.2.1 v.2.2.2.2.2) (fun n v => spec_l01DrawServed.l0 k n v.1 v.2.1 v.2.2.1 v.2.2.2.1 v.2.2.2.2.1 v.2.2.2.2.2) (fun _ => rfl) (fun _ _ => rfl) (fun rec v => r189_0 k rec _ (fun a0 a1 a2 a3 a4 a5 a6 => q189_1 k k (a0, a1, a2, a3, a4, a5, a6)) v) n
theorem e189 (k : Nat) (x : dens (flatC (S189 k).ps)) : funK (E189 k) (S189 k) Try.f189 x = (S189 k).fn x := by
  have h : funK (E189 k) (S189 k) Try.f189 x = spec_l01DrawServed.g k (fun a0 a1 a2 a3 a4 a5 => loopF (E189 k) (S189 k) Try.f189 p189_0 [] k (n189_0 a0 a1 a2 a3 a4 a5)) x := by kernel_rfl
  rw [h]
  rw [show (fun a0 a1 a2 a3 a4 a5 => loopF (E189 k) (S189 k) Try.f189 p189_0 [] k (n189_0 a0 a1 a2 a3 a4 a5)) = spec_l01DrawServed.l0 k k from funext fun a0 => funext fun a1 => funext fun a2 => funext fun a3 => funext fun a4 => funext fun a5 => q189_0 k k (a0, a1, a2, a3, a4, a5)]
  rfl
theorem M189 (k : Nat) : Meets Try.prog 189 (S189 k) := meets_of Try.func189 (by kernel_rfl) tbOk (orc_cons (M128 k) (orc_cons (M139 k) (orc_cons (M172 k) (orc_cons (M116 k) orc_nil)))) mixOk (fun x y h => (e189 k x).trans h) rfl

/-! spec_l01DrawOf: function 190 -/
noncomputable def spec_l01DrawOf.s0 (k : Nat) (r0 : (List Int) → Int → Int → Int → (List Int) → Int → Option ((List Int) × ((List Int) × Int × Int))) (x0_0 : List Int) (x0_1 : Int) (x0_2 : Int) (x1 : Int) (x5_0 : List Int) (x6 : Int) : Option ((List Int) × ((List Int) × Int × Int)) := if x6 < x1 then ((spec_l01Pick.f (x0_0, x0_1, x0_2) [4, 8, 12, 40]).bind fun t1 => (spec_l01Next.f (t1.2.1, t1.2.2.1, t1.2.2.2) t1.1).bind fun t2 => if x5_0.length + 1 ≤ 1099511627776 then (r0 t2.2.1 t2.2.2.1 t2.2.2.2 x1 (x5_0 ++ [(wrap64 (1 + t2.1))]) (wrap64 (x6 + 1))) else (none)) else (some (x5_0, x0_0, x0_1, x0_2))
noncomputable def spec_l01DrawOf.l0 (k : Nat) : Nat → (List Int) → Int → Int → Int → (List Int) → Int → Option ((List Int) × ((List Int) × Int × Int))
  | 0, _, _, _, _, _, _ => none
  | n + 1, x0, x1, x2, x3, x4, x5 => spec_l01DrawOf.s0 k (spec_l01DrawOf.l0 k n) x0 x1 x2 x3 x4 x5
noncomputable def spec_l01DrawOf.g (k : Nat) (r0 : (List Int) → Int → Int → Int → (List Int) → Int → Option ((List Int) × ((List Int) × Int × Int))) (a0 : (List Int) × Int × Int) (a1 : Int) : Option ((List Int) × ((List Int) × Int × Int)) := r0 a0.1 a0.2.1 a0.2.2 a1 [] 0
noncomputable def spec_l01DrawOf.f (k : Nat) (a0 : (List Int) × Int × Int) (a1 : Int) : Option ((List Int) × ((List Int) × Int × Int)) := spec_l01DrawOf.g k (spec_l01DrawOf.l0 k k) a0 a1
noncomputable def S190 (k : Nat) : Does := ⟨[(false, [.cel (.struct (.pair (.list (.int .u8)) (.pair (.int .i64) (.int .u64))))]), (false, [.dat (.int .i64)])], [(true, [.own 2 (.int .i64)])], fun x => spec_l01DrawOf.f k x.1 x.2⟩
noncomputable def E190 (k : Nat) : En := ⟨tb, orcOf [(128, S128 k), (139, S139 k)], lvOf [(0, [(0, []), (1, []), (4, []), (5, []), (6, [])])], k, 1, lvOf [], [1074069504, 1074070720]⟩
noncomputable def n190_0 (x0_0 : List Int) (x0_1 : Int) (x0_2 : Int) (x1 : Int) (x5_0 : List Int) (x6 : Int) : St := ⟨26, lookA [(0, .box 0 0), (1, .dat (.int .i64) x1), (4, .box 1 0), (5, .box 2 0), (6, .dat (.int .i64) x6)], Go.V.look [(0, .cells [.dat (.list (.int .u8)) x0_0, .dat (.int .i64) x0_1, .dat (.int .u64) x0_2]), (1, .cells [.nil]), (2, .cells [.own 3]), (3, .flat 2 (.int .i64) x5_0)]⟩
def p190_0 : List Bool := [true, true, false, true, false]
theorem r190_0 (k : Nat) (rec : St → Option ((List Int) × ((List Int) × Int × Int))) (v : (List Int) × Int × Int × Int × (List Int) × Int) : roundF (E190 k) (S190 k) Try.f190 p190_0 [] rec (n190_0 v.1 v.2.1 v.2.2.1 v.2.2.2.1 v.2.2.2.2.1 v.2.2.2.2.2) = spec_l01DrawOf.s0 k (fun a0 a1 a2 a3 a4 a5 => rec (n190_0 a0 a1 a2 a3 a4 a5)) v.1 v.2.1 v.2.2.1 v.2.2.2.1 v.2.2.2.2.1 v.2.2.2.2.2 := by
  kernel_rfl
theorem q190_0 (k : Nat) (n : Nat) : ∀ v : (List Int) × Int × Int × Int × (List Int) × Int, loopF (E190 k) (S190 k) Try.f190 p190_0 [] n (n190_0 v.1 v.2.1 v.2.2.1 v.2.2.2.1 v.2.2.2.2.1 v.2.2.2.2.2) = spec_l01DrawOf.l0 k n v.1 v.2.1 v.2.2.1 v.2.2.2.1 v.2.2.2.2.1 v.2.2.2.2.2 :=
  loopF_eq (E190 k) (S190 k) Try.f190 p190_0 [] (fun v : (List Int) × Int × Int × Int × (List Int) × Int => n190_0 v.1 v.2.1 v.2.2.1 v.2.2.2.1 v.2.2.2.2.1 v.2.2.2.2.2) (fun rec v => spec_l01DrawOf.s0 k (fun a0 a1 a2 a3 a4 a5 => rec (a0, a1, a2, a3, a4, a5)) v.1 v.2.1 v.2.2.1 v.2.2.2.1 v.2.2.2.2.1 v.2.2.2.2.2) (fun n v => spec_l01DrawOf.l0 k n v.1 v.2.1 v.2.2.1 v.2.2.2.1 v.2.2.2.2.1 v.2.2.2.2.2) (fun _ => rfl) (fun _ _ => rfl) (fun rec v => r190_0 k rec v) n
theorem e190 (k : Nat) (x : dens (flatC (S190 k).ps)) : funK (E190 k) (S190 k) Try.f190 x = (S190 k).fn x := by
  have h : funK (E190 k) (S190 k) Try.f190 x = spec_l01DrawOf.g k (fun a0 a1 a2 a3 a4 a5 => loopF (E190 k) (S190 k) Try.f190 p190_0 [] k (n190_0 a0 a1 a2 a3 a4 a5)) x.1 x.2 := by kernel_rfl
  rw [h]
  rw [show (fun a0 a1 a2 a3 a4 a5 => loopF (E190 k) (S190 k) Try.f190 p190_0 [] k (n190_0 a0 a1 a2 a3 a4 a5)) = spec_l01DrawOf.l0 k k from funext fun a0 => funext fun a1 => funext fun a2 => funext fun a3 => funext fun a4 => funext fun a5 => q190_0 k k (a0, a1, a2, a3, a4, a5)]
  rfl
theorem M190 (k : Nat) : Meets Try.prog 190 (S190 k) := meets_of Try.func190 (by kernel_rfl) tbOk (orc_cons (M128 k) (orc_cons (M139 k) orc_nil)) mixOk (fun x y h => (e190 k x).trans h) rfl

/-! spec_l01Draw: function 181 -/
noncomputable def spec_l01Draw.f (k : Nat) (a0 : (List Int) × Int × Int) : Option ((List Int) × ((List Int) × Int × Int)) := (spec_l01Next.f (a0.1, a0.2.1, a0.2.2) 2).bind fun t1 => if t1.1 = 0 then ((spec_l01DrawServed.f k (t1.2.1, t1.2.2.1, t1.2.2.2)).bind fun t2 => some (t2.1, t2.2.2.1, t2.2.2.2.1, t2.2.2.2.2)) else ((spec_l01Pick.f (t1.2.1, t1.2.2.1, t1.2.2.2) [3, 5, 8]).bind fun t3 => (spec_l01Next.f (t3.2.1, t3.2.2.1, t3.2.2.2) t3.1).bind fun t4 => (spec_l01DrawOf.f k (t4.2.1, t4.2.2.1, t4.2.2.2) (wrap64 (1 + t4.1))).bind fun t5 => some (t5.1, t5.2.1, t5.2.2.1, t5.2.2.2))
noncomputable def S181 (k : Nat) : Does := ⟨[(false, [.cel (.struct (.pair (.list (.int .u8)) (.pair (.int .i64) (.int .u64))))])], [(true, [.own 2 (.int .i64)])], fun x => spec_l01Draw.f k x⟩
noncomputable def E181 (k : Nat) : En := ⟨tb, orcOf [(139, S139 k), (189, S189 k), (128, S128 k), (190, S190 k)], lvOf [], k, 1, lvOf [], []⟩
theorem e181 (k : Nat) (x : dens (flatC (S181 k).ps)) : funK (E181 k) (S181 k) Try.f181 x = (S181 k).fn x := by
  kernel_rfl
theorem M181 (k : Nat) : Meets Try.prog 181 (S181 k) := meets_of Try.func181 (by kernel_rfl) tbOk (orc_cons (M139 k) (orc_cons (M189 k) (orc_cons (M128 k) (orc_cons (M190 k) orc_nil)))) mixOk (fun x y h => (e181 k x).trans h) rfl

/-! spec_l01K: function 182 -/
noncomputable def spec_l01K.f (l0_0 : List Int) : Option (Int) := some (l0_0.length : Int)
noncomputable def S182 (k : Nat) : Does := ⟨[(true, [.dat (.list (.int .i64))])], [(false, [.dat (.int .i64)])], fun x => spec_l01K.f x⟩
noncomputable def E182 (k : Nat) : En := ⟨tb, orcOf [], lvOf [], k, 0, lvOf [], []⟩
theorem e182 (k : Nat) (x : dens (flatC (S182 k).ps)) : funK (E182 k) (S182 k) Try.f182 x = (S182 k).fn x := by
  kernel_rfl
theorem M182 (k : Nat) : Meets Try.prog 182 (S182 k) := meets_of Try.func182 (by kernel_rfl) tbOk orc_nil mixOk (fun x y h => (e182 k x).trans h) rfl

/-! spec_l01Bad: function 180 -/
noncomputable def spec_l01Bad.s0 (k : Nat) (r0 : (List Int) → (List Int) → Int → Int → Option ((List Int) × ((List Int) × Int × Int))) (x5_0 : List Int) (b0_0 : List Int) (b0_1 : Int) (b0_2 : Int) : Option ((List Int) × ((List Int) × Int × Int)) := if (x5_0.length : Int) ≤ 8 then (if x5_0.length + 1 ≤ 1099511627776 then (r0 (x5_0 ++ [9]) b0_0 b0_1 b0_2) else (none)) else (some (x5_0, b0_0, b0_1, b0_2))
noncomputable def spec_l01Bad.l0 (k : Nat) : Nat → (List Int) → (List Int) → Int → Int → Option ((List Int) × ((List Int) × Int × Int))
  | 0, _, _, _, _ => none
  | n + 1, x0, x1, x2, x3 => spec_l01Bad.s0 k (spec_l01Bad.l0 k n) x0 x1 x2 x3
noncomputable def spec_l01Bad.g (k : Nat) (r0 : (List Int) → (List Int) → Int → Int → Option ((List Int) × ((List Int) × Int × Int))) (a0 : (List Int) × Int × Int) (l1_0 : List Int) : Option ((List Int) × ((List Int) × Int × Int)) := (spec_l01Own.f l1_0).bind fun t1 => (spec_l01Next.f (a0.1, a0.2.1, a0.2.2) 50).bind fun t2 => if (decide (t2.1 = 0)) = true then (some ([], t2.2.1, t2.2.2.1, t2.2.2.2)) else (if (decide (t2.1 = 1)) = true then ((spec_l01K.f l1_0).bind fun t3 => (spec_l01Next.f (t2.2.1, t2.2.2.1, t2.2.2.2) t3).bind fun t4 => (spec_l01Pick.f (t4.2.1, t4.2.2.1, t4.2.2.2) [0, 41, (-1), 1099511627776]).bind fun t5 => if 0 ≤ t4.1 then (if t4.1 < (t1.length : Int) then (some ((t1.set t4.1.toNat t5.1), t5.2.1, t5.2.2.1, t5.2.2.2)) else (none)) else (none)) else (if (decide (t2.1 = 2)) = true then (r0 t1 t2.2.1 t2.2.2.1 t2.2.2.2) else (some (l1_0, t2.2.1, t2.2.2.1, t2.2.2.2))))
noncomputable def spec_l01Bad.f (k : Nat) (a0 : (List Int) × Int × Int) (l1_0 : List Int) : Option ((List Int) × ((List Int) × Int × Int)) := spec_l01Bad.g k (spec_l01Bad.l0 k k) a0 l1_0
noncomputable def S180 (k : Nat) : Does := ⟨[(false, [.cel (.struct (.pair (.list (.int .u8)) (.pair (.int .i64) (.int .u64))))]), (true, [.dat (.list (.int .i64))])], [(true, [.dat (.list (.int .i64))])], fun x => spec_l01Bad.f k x.1 x.2⟩
noncomputable def E180 (k : Nat) : En := ⟨tb, orcOf [(155, S155 k), (139, S139 k), (182, S182 k), (128, S128 k)], lvOf [(1, [(4, []), (5, [])])], k, 1, lvOf [], [1074135040, 1074136640]⟩
noncomputable def n180_0 (x5_0 : List Int) (b0_0 : List Int) (b0_1 : Int) (b0_2 : Int) : St := ⟨41, lookA [(4, .box 1 0), (5, .box 2 0)], Go.V.look [(0, .cells [.dat (.list (.int .u8)) b0_0, .dat (.int .i64) b0_1, .dat (.int .u64) b0_2]), (1, .cells [.nil]), (2, .cells [.own 3]), (3, .flat 2 (.int .i64) x5_0)]⟩
def p180_0 : List Bool := [true, true, false, true, false, true, true, true, true, true, false, false, false]
theorem r180_0 (k : Nat) (rec : St → Option ((List Int) × ((List Int) × Int × Int))) (v : (List Int) × (List Int) × Int × Int) : roundF (E180 k) (S180 k) Try.f180 p180_0 [] rec (n180_0 v.1 v.2.1 v.2.2.1 v.2.2.2) = spec_l01Bad.s0 k (fun a0 a1 a2 a3 => rec (n180_0 a0 a1 a2 a3)) v.1 v.2.1 v.2.2.1 v.2.2.2 := by
  kernel_rfl
theorem q180_0 (k : Nat) (n : Nat) : ∀ v : (List Int) × (List Int) × Int × Int, loopF (E180 k) (S180 k) Try.f180 p180_0 [] n (n180_0 v.1 v.2.1 v.2.2.1 v.2.2.2) = spec_l01Bad.l0 k n v.1 v.2.1 v.2.2.1 v.2.2.2 :=
  loopF_eq (E180 k) (S180 k) Try.f180 p180_0 [] (fun v : (List Int) × (List Int) × Int × Int => n180_0 v.1 v.2.1 v.2.2.1 v.2.2.2) (fun rec v => spec_l01Bad.s0 k (fun a0 a1 a2 a3 => rec (a0, a1, a2, a3)) v.1 v.2.1 v.2.2.1 v.2.2.2) (fun n v => spec_l01Bad.l0 k n v.1 v.2.1 v.2.2.1 v.2.2.2) (fun _ => rfl) (fun _ _ => rfl) (fun rec v => r180_0 k rec v) n
theorem e180 (k : Nat) (x : dens (flatC (S180 k).ps)) : funK (E180 k) (S180 k) Try.f180 x = (S180 k).fn x := by
  have h : funK (E180 k) (S180 k) Try.f180 x = spec_l01Bad.g k (fun a0 a1 a2 a3 => loopF (E180 k) (S180 k) Try.f180 p180_0 [] k (n180_0 a0 a1 a2 a3)) x.1 x.2 := by kernel_rfl
  rw [h]
  rw [show (fun a0 a1 a2 a3 => loopF (E180 k) (S180 k) Try.f180 p180_0 [] k (n180_0 a0 a1 a2 a3)) = spec_l01Bad.l0 k k from funext fun a0 => funext fun a1 => funext fun a2 => funext fun a3 => q180_0 k k (a0, a1, a2, a3)]
  rfl
theorem M180 (k : Nat) : Meets Try.prog 180 (S180 k) := meets_of Try.func180 (by kernel_rfl) tbOk (orc_cons (M155 k) (orc_cons (M139 k) (orc_cons (M182 k) (orc_cons (M128 k) orc_nil)))) mixOk (fun x y h => (e180 k x).trans h) rfl

/-! spec_l01Spoil: function 151 -/
noncomputable def spec_l01Spoil.f (k : Nat) (a0 : (List Int) × Int × Int) : Option ((List Int) × ((List Int) × Int × Int)) := (spec_l01Draw.f k (a0.1, a0.2.1, a0.2.2)).bind fun t1 => (spec_l01Bad.f k (t1.2.1, t1.2.2.1, t1.2.2.2) t1.1).bind fun t2 => some (t2.1, t2.2.1, t2.2.2.1, t2.2.2.2)
noncomputable def S151 (k : Nat) : Does := ⟨[(false, [.cel (.struct (.pair (.list (.int .u8)) (.pair (.int .i64) (.int .u64))))])], [(true, [.dat (.list (.int .i64))])], fun x => spec_l01Spoil.f k x⟩
noncomputable def E151 (k : Nat) : En := ⟨tb, orcOf [(181, S181 k), (180, S180 k)], lvOf [], k, 1, lvOf [], []⟩
theorem e151 (k : Nat) (x : dens (flatC (S151 k).ps)) : funK (E151 k) (S151 k) Try.f151 x = (S151 k).fn x := by
  kernel_rfl
theorem M151 (k : Nat) : Meets Try.prog 151 (S151 k) := meets_of Try.func151 (by kernel_rfl) tbOk (orc_cons (M181 k) (orc_cons (M180 k) orc_nil)) mixOk (fun x y h => (e151 k x).trans h) rfl

/-! spec_DrawJobsOfTasks: function 86 -/
noncomputable def spec_DrawJobsOfTasks.f (k : Nat) (l0 : List Int) : Option ((List Int)) := (spec_l01From.f k l0).bind fun t1 => (spec_l01Spoil.f k (t1.1, t1.2.1, t1.2.2)).bind fun t2 => some t2.1
noncomputable def S86 (k : Nat) : Does := ⟨[(false, [.dat (.list (.int .u8))])], [(true, [.dat (.list (.int .i64))])], fun x => spec_DrawJobsOfTasks.f k x⟩
noncomputable def E86 (k : Nat) : En := ⟨tb, orcOf [(126, S126 k), (151, S151 k)], lvOf [], k, 0, lvOf [], []⟩
theorem e86 (k : Nat) (x : dens (flatC (S86 k).ps)) : funK (E86 k) (S86 k) Try.f86 x = (S86 k).fn x := by
  kernel_rfl
theorem M86 (k : Nat) : Meets Try.prog 86 (S86 k) := meets_of Try.func86 (by kernel_rfl) tbOk (orc_cons (M126 k) (orc_cons (M151 k) orc_nil)) mixOk (fun x y h => (e86 k x).trans h) rfl

/-! impl_JobsOfTasks: function 87 -/
noncomputable def impl_JobsOfTasks.s0 (k : Nat) (r0 : (List Int) → (List Int) → (List Int) → (List Int) → Int → Int → Option ((List Int) × (List Int) × (List Int) × Int)) (x4_0 : List Int) (x4_1 : List Int) (x4_2 : List Int) (x12 : List Int) (x13 : Int) (x14 : Int) : Option ((List Int) × (List Int) × (List Int) × Int) := if x14 < x13 then (if 0 ≤ x14 then (if x14 < (x12.length : Int) then (if x4_0.length + 1 ≤ 1099511627776 then (if x4_1.length + 1 ≤ 1099511627776 then (if x4_2.length + 1 ≤ 1099511627776 then (r0 (x4_0 ++ [1]) (x4_1 ++ [(wrap64 (Int.tdiv (wrap64 ((rd x12 x14) + 1)) 2))]) (x4_2 ++ [(wrap64 (Int.tdiv (wrap64 ((rd x12 x14) + 1)) 2))]) x12 x13 (wrap64 (x14 + 1))) else (none)) else (none)) else (none)) else (none)) else (none)) else (some (x4_0, x4_1, x4_2, 0))
noncomputable def impl_JobsOfTasks.l0 (k : Nat) : Nat → (List Int) → (List Int) → (List Int) → (List Int) → Int → Int → Option ((List Int) × (List Int) × (List Int) × Int)
  | 0, _, _, _, _, _, _ => none
  | n + 1, x0, x1, x2, x3, x4, x5 => impl_JobsOfTasks.s0 k (impl_JobsOfTasks.l0 k n) x0 x1 x2 x3 x4 x5
noncomputable def impl_JobsOfTasks.g (k : Nat) (r0 : (List Int) → (List Int) → (List Int) → (List Int) → Int → Int → Option ((List Int) × (List Int) × (List Int) × Int)) (l0_0 : List Int) : Option ((List Int) × (List Int) × (List Int) × Int) := (impl_IsTasks.f k l0_0).bind fun t1 => if t1 = true then (r0 [] [] [] l0_0 (l0_0.length : Int) 0) else (some ([], [], [], 1))
noncomputable def impl_JobsOfTasks.f (k : Nat) (l0_0 : List Int) : Option ((List Int) × (List Int) × (List Int) × Int) := impl_JobsOfTasks.g k (impl_JobsOfTasks.l0 k k) l0_0
noncomputable def S87 (k : Nat) : Does := ⟨[(true, [.dat (.list (.int .i64))])], [(true, [.own 2 (.int .i64), .own 2 (.int .i64), .own 2 (.int .i64)]), (false, [.dat (.int .i64)])], fun x => impl_JobsOfTasks.f k x⟩
noncomputable def E87 (k : Nat) : En := ⟨tb, orcOf [(119, S119 k)], lvOf [(0, [(2, []), (4, [.cell 0 2 (.int .i64), .cell 1 2 (.int .i64), .cell 2 2 (.int .i64)]), (12, []), (13, []), (14, [])])], k, 0, lvOf [], []⟩
noncomputable def n87_0 (x4_0 : List Int) (x4_1 : List Int) (x4_2 : List Int) (x12 : List Int) (x13 : Int) (x14 : Int) : St := ⟨41, lookA [(2, .box 0 0), (4, .box 1 0), (12, .dat (.list (.int .i64)) x12), (13, .dat (.int .i64) x13), (14, .dat (.int .i64) x14)], Go.V.look [(0, .cells [.nil, .nil, .nil]), (1, .cells [.own 2, .own 3, .own 4]), (2, .flat 2 (.int .i64) x4_0), (3, .flat 2 (.int .i64) x4_1), (4, .flat 2 (.int .i64) x4_2)]⟩
def p87_0 : List Bool := [true, true, true, false, true, false]
theorem r87_0 (k : Nat) (rec : St → Option ((List Int) × (List Int) × (List Int) × Int)) (v : (List Int) × (List Int) × (List Int) × (List Int) × Int × Int) : roundF (E87 k) (S87 k) Try.f87 p87_0 [] rec (n87_0 v.1 v.2.1 v.2.2.1 v.2.2.2.1 v.2.2.2.2.1 v.2.2.2.2.2) = impl_JobsOfTasks.s0 k (fun a0 a1 a2 a3 a4 a5 => rec (n87_0 a0 a1 a2 a3 a4 a5)) v.1 v.2.1 v.2.2.1 v.2.2.2.1 v.2.2.2.2.1 v.2.2.2.2.2 := by
  kernel_rfl
theorem q87_0 (k : Nat) (n : Nat) : ∀ v : (List Int) × (List Int) × (List Int) × (List Int) × Int × Int, loopF (E87 k) (S87 k) Try.f87 p87_0 [] n (n87_0 v.1 v.2.1 v.2.2.1 v.2.2.2.1 v.2.2.2.2.1 v.2.2.2.2.2) = impl_JobsOfTasks.l0 k n v.1 v.2.1 v.2.2.1 v.2.2.2.1 v.2.2.2.2.1 v.2.2.2.2.2 :=
  loopF_eq (E87 k) (S87 k) Try.f87 p87_0 [] (fun v : (List Int) × (List Int) × (List Int) × (List Int) × Int × Int => n87_0 v.1 v.2.1 v.2.2.1 v.2.2.2.1 v.2.2.2.2.1 v.2.2.2.2.2) (fun rec v => impl_JobsOfTasks.s0 k (fun a0 a1 a2 a3 a4 a5 => rec (a0, a1, a2, a3, a4, a5)) v.1 v.2.1 v.2.2.1 v.2.2.2.1 v.2.2.2.2.1 v.2.2.2.2.2) (fun n v => impl_JobsOfTasks.l0 k n v.1 v.2.1 v.2.2.1 v.2.2.2.1 v.2.2.2.2.1 v.2.2.2.2.2) (fun _ => rfl) (fun _ _ => rfl) (fun rec v => r87_0 k rec v) n
theorem e87 (k : Nat) (x : dens (flatC (S87 k).ps)) : funK (E87 k) (S87 k) Try.f87 x = (S87 k).fn x := by
  have h : funK (E87 k) (S87 k) Try.f87 x = impl_JobsOfTasks.g k (fun a0 a1 a2 a3 a4 a5 => loopF (E87 k) (S87 k) Try.f87 p87_0 [] k (n87_0 a0 a1 a2 a3 a4 a5)) x := by kernel_rfl
  rw [h]
  rw [show (fun a0 a1 a2 a3 a4 a5 => loopF (E87 k) (S87 k) Try.f87 p87_0 [] k (n87_0 a0 a1 a2 a3 a4 a5)) = impl_JobsOfTasks.l0 k k from funext fun a0 => funext fun a1 => funext fun a2 => funext fun a3 => funext fun a4 => funext fun a5 => q87_0 k k (a0, a1, a2, a3, a4, a5)]
  rfl
theorem M87 (k : Nat) : Meets Try.prog 87 (S87 k) := meets_of Try.func87 (by kernel_rfl) tbOk (orc_cons (M119 k) orc_nil) mixOk (fun x y h => (e87 k x).trans h) rfl

/-! spec_l01Is: function 152 -/
noncomputable def spec_l01Is.s0 (k : Nat) (r0 : (List Int) → Int → Option (Bool)) (x1_0 : List Int) (x3 : Int) : Option (Bool) := if x3 < (x1_0.length : Int) then (if 0 ≤ x3 then (if x3 < (x1_0.length : Int) then ((spec_l01In.f (rd x1_0 x3) 1 40).bind fun t1 => if t1 = true then (r0 x1_0 (wrap64 (x3 + 1))) else (some false)) else (none)) else (none)) else ((spec_l01K.f x1_0).bind fun t2 => (spec_l01In.f t2 1 8).bind fun t3 => some t3)
noncomputable def spec_l01Is.l0 (k : Nat) : Nat → (List Int) → Int → Option (Bool)
  | 0, _, _ => none
  | n + 1, x0, x1 => spec_l01Is.s0 k (spec_l01Is.l0 k n) x0 x1
noncomputable def spec_l01Is.g (k : Nat) (r0 : (List Int) → Int → Option (Bool)) (l0_0 : List Int) : Option (Bool) := r0 l0_0 0
noncomputable def spec_l01Is.f (k : Nat) (l0_0 : List Int) : Option (Bool) := spec_l01Is.g k (spec_l01Is.l0 k k) l0_0
noncomputable def S152 (k : Nat) : Does := ⟨[(true, [.dat (.list (.int .i64))])], [(false, [.dat .bool])], fun x => spec_l01Is.f k x⟩
noncomputable def E152 (k : Nat) : En := ⟨tb, orcOf [(99, S99 k), (182, S182 k)], lvOf [(0, [(1, []), (3, [])])], k, 0, lvOf [], []⟩
noncomputable def n152_0 (x1_0 : List Int) (x3 : Int) : St := ⟨21, lookA [(1, .box 0 0), (3, .dat (.int .i64) x3)], Go.V.look [(0, .cells [.dat (.list (.int .i64)) x1_0])]⟩
def p152_0 : List Bool := [true, false, true, false]
theorem r152_0 (k : Nat) (rec : St → Option (Bool)) (v : (List Int) × Int) : roundF (E152 k) (S152 k) Try.f152 p152_0 [] rec (n152_0 v.1 v.2) = spec_l01Is.s0 k (fun a0 a1 => rec (n152_0 a0 a1)) v.1 v.2 := by
  kernel_rfl
theorem q152_0 (k : Nat) (n : Nat) : ∀ v : (List Int) × Int, loopF (E152 k) (S152 k) Try.f152 p152_0 [] n (n152_0 v.1 v.2) = spec_l01Is.l0 k n v.1 v.2 :=
  loopF_eq (E152 k) (S152 k) Try.f152 p152_0 [] (fun v : (List Int) × Int => n152_0 v.1 v.2) (fun rec v => spec_l01Is.s0 k (fun a0 a1 => rec (a0, a1)) v.1 v.2) (fun n v => spec_l01Is.l0 k n v.1 v.2) (fun _ => rfl) (fun _ _ => rfl) (fun rec v => r152_0 k rec v) n
theorem e152 (k : Nat) (x : dens (flatC (S152 k).ps)) : funK (E152 k) (S152 k) Try.f152 x = (S152 k).fn x := by
  have h : funK (E152 k) (S152 k) Try.f152 x = spec_l01Is.g k (fun a0 a1 => loopF (E152 k) (S152 k) Try.f152 p152_0 [] k (n152_0 a0 a1)) x := by kernel_rfl
  rw [h]
  rw [show (fun a0 a1 => loopF (E152 k) (S152 k) Try.f152 p152_0 [] k (n152_0 a0 a1)) = spec_l01Is.l0 k k from funext fun a0 => funext fun a1 => q152_0 k k (a0, a1)]
  rfl
theorem M152 (k : Nat) : Meets Try.prog 152 (S152 k) := meets_of Try.func152 (by kernel_rfl) tbOk (orc_cons (M99 k) (orc_cons (M182 k) orc_nil)) mixOk (fun x y h => (e152 k x).trans h) rfl

/-! spec_JobsOfTasks: function 88 -/
noncomputable def spec_JobsOfTasks.s0 (k : Nat) (r0 : (List Int) → (List Int) → (List Int) → (List Int) → Int → Option ((List Int) × (List Int) × (List Int) × Int)) (x1_0 : List Int) (x4_0 : List Int) (x4_1 : List Int) (x4_2 : List Int) (x5 : Int) : Option ((List Int) × (List Int) × (List Int) × Int) := if x5 < (x1_0.length : Int) then (if 0 ≤ x5 then (if x5 < (x1_0.length : Int) then (if x4_0.length + 1 ≤ 1099511627776 then (if x4_1.length + 1 ≤ 1099511627776 then (if x4_2.length + 1 ≤ 1099511627776 then (r0 x1_0 (x4_0 ++ [1]) (x4_1 ++ [(wrap64 (Int.tdiv (wrap64 ((rd x1_0 x5) + 1)) 2))]) (x4_2 ++ [(wrap64 (Int.tdiv (wrap64 ((rd x1_0 x5) + 1)) 2))]) (wrap64 (x5 + 1))) else (none)) else (none)) else (none)) else (none)) else (none)) else (some (x4_0, x4_1, x4_2, 0))
noncomputable def spec_JobsOfTasks.l0 (k : Nat) : Nat → (List Int) → (List Int) → (List Int) → (List Int) → Int → Option ((List Int) × (List Int) × (List Int) × Int)
  | 0, _, _, _, _, _ => none
  | n + 1, x0, x1, x2, x3, x4 => spec_JobsOfTasks.s0 k (spec_JobsOfTasks.l0 k n) x0 x1 x2 x3 x4
noncomputable def spec_JobsOfTasks.g (k : Nat) (r0 : (List Int) → (List Int) → (List Int) → (List Int) → Int → Option ((List Int) × (List Int) × (List Int) × Int)) (l0_0 : List Int) : Option ((List Int) × (List Int) × (List Int) × Int) := (spec_l01Is.f k l0_0).bind fun t1 => if t1 = true then (r0 l0_0 [] [] [] 0) else (some ([], [], [], 1))
noncomputable def spec_JobsOfTasks.f (k : Nat) (l0_0 : List Int) : Option ((List Int) × (List Int) × (List Int) × Int) := spec_JobsOfTasks.g k (spec_JobsOfTasks.l0 k k) l0_0
noncomputable def S88 (k : Nat) : Does := ⟨[(true, [.dat (.list (.int .i64))])], [(true, [.own 2 (.int .i64), .own 2 (.int .i64), .own 2 (.int .i64)]), (false, [.dat (.int .i64)])], fun x => spec_JobsOfTasks.f k x⟩
noncomputable def E88 (k : Nat) : En := ⟨tb, orcOf [(152, S152 k)], lvOf [(0, [(1, []), (2, []), (4, []), (5, [])])], k, 0, lvOf [], []⟩
noncomputable def n88_0 (x1_0 : List Int) (x4_0 : List Int) (x4_1 : List Int) (x4_2 : List Int) (x5 : Int) : St := ⟨47, lookA [(1, .box 0 0), (2, .box 1 0), (4, .box 2 0), (5, .dat (.int .i64) x5)], Go.V.look [(0, .cells [.dat (.list (.int .i64)) x1_0]), (1, .cells [.nil, .nil, .nil]), (2, .cells [.own 3, .own 4, .own 5]), (3, .flat 2 (.int .i64) x4_0), (4, .flat 2 (.int .i64) x4_1), (5, .flat 2 (.int .i64) x4_2)]⟩
def p88_0 : List Bool := [true, true, true, false, true, false]
theorem r88_0 (k : Nat) (rec : St → Option ((List Int) × (List Int) × (List Int) × Int)) (v : (List Int) × (List Int) × (List Int) × (List Int) × Int) : roundF (E88 k) (S88 k) Try.f88 p88_0 [] rec (n88_0 v.1 v.2.1 v.2.2.1 v.2.2.2.1 v.2.2.2.2) = spec_JobsOfTasks.s0 k (fun a0 a1 a2 a3 a4 => rec (n88_0 a0 a1 a2 a3 a4)) v.1 v.2.1 v.2.2.1 v.2.2.2.1 v.2.2.2.2 := by
  kernel_rfl
theorem q88_0 (k : Nat) (n : Nat) : ∀ v : (List Int) × (List Int) × (List Int) × (List Int) × Int, loopF (E88 k) (S88 k) Try.f88 p88_0 [] n (n88_0 v.1 v.2.1 v.2.2.1 v.2.2.2.1 v.2.2.2.2) = spec_JobsOfTasks.l0 k n v.1 v.2.1 v.2.2.1 v.2.2.2.1 v.2.2.2.2 :=
  loopF_eq (E88 k) (S88 k) Try.f88 p88_0 [] (fun v : (List Int) × (List Int) × (List Int) × (List Int) × Int => n88_0 v.1 v.2.1 v.2.2.1 v.2.2.2.1 v.2.2.2.2) (fun rec v => spec_JobsOfTasks.s0 k (fun a0 a1 a2 a3 a4 => rec (a0, a1, a2, a3, a4)) v.1 v.2.1 v.2.2.1 v.2.2.2.1 v.2.2.2.2) (fun n v => spec_JobsOfTasks.l0 k n v.1 v.2.1 v.2.2.1 v.2.2.2.1 v.2.2.2.2) (fun _ => rfl) (fun _ _ => rfl) (fun rec v => r88_0 k rec v) n
theorem e88 (k : Nat) (x : dens (flatC (S88 k).ps)) : funK (E88 k) (S88 k) Try.f88 x = (S88 k).fn x := by
  have h : funK (E88 k) (S88 k) Try.f88 x = spec_JobsOfTasks.g k (fun a0 a1 a2 a3 a4 => loopF (E88 k) (S88 k) Try.f88 p88_0 [] k (n88_0 a0 a1 a2 a3 a4)) x := by kernel_rfl
  rw [h]
  rw [show (fun a0 a1 a2 a3 a4 => loopF (E88 k) (S88 k) Try.f88 p88_0 [] k (n88_0 a0 a1 a2 a3 a4)) = spec_JobsOfTasks.l0 k k from funext fun a0 => funext fun a1 => funext fun a2 => funext fun a3 => funext fun a4 => q88_0 k k (a0, a1, a2, a3, a4)]
  rfl
theorem M88 (k : Nat) : Meets Try.prog 88 (S88 k) := meets_of Try.func88 (by kernel_rfl) tbOk (orc_cons (M152 k) orc_nil) mixOk (fun x y h => (e88 k x).trans h) rfl

/-! laws_jobs9: function 89 -/
noncomputable def laws_jobs9.f (k : Nat) (l0_0 : List Int) (l0_1 : List Int) (l0_2 : List Int) (l1_0 : List Int) (l1_1 : List Int) (l1_2 : List Int) : Option (Bool) := (laws_likeInts.f k l0_0 l1_0).bind fun t1 => if t1 = true then ((laws_likeInts.f k l0_1 l1_1).bind fun t2 => if t2 = true then ((laws_likeInts.f k l0_2 l1_2).bind fun t3 => some t3) else (some false)) else (some false)
noncomputable def S89 (k : Nat) : Does := ⟨[(true, [.dat (.list (.int .i64)), .dat (.list (.int .i64)), .dat (.list (.int .i64))]), (true, [.dat (.list (.int .i64)), .dat (.list (.int .i64)), .dat (.list (.int .i64))])], [(false, [.dat .bool])], fun x => laws_jobs9.f k x.1 x.2.1 x.2.2.1 x.2.2.2.1 x.2.2.2.2.1 x.2.2.2.2.2⟩
noncomputable def E89 (k : Nat) : En := ⟨tb, orcOf [(38, S38 k)], lvOf [], k, 0, lvOf [], []⟩
theorem e89 (k : Nat) (x : dens (flatC (S89 k).ps)) : funK (E89 k) (S89 k) Try.f89 x = (S89 k).fn x := by
  kernel_rfl
theorem M89 (k : Nat) : Meets Try.prog 89 (S89 k) := meets_of Try.func89 (by kernel_rfl) tbOk (orc_cons (M38 k) orc_nil) mixOk (fun x y h => (e89 k x).trans h) rfl

/-! impl_areTurns_1: function 177 -/
noncomputable def impl_areTurns_1.f (a0 : Int) (a1 : Int) : Option (Bool) := (impl_within.f a0 (-1) (wrap64 (a1 - 1))).bind fun t1 => some t1
noncomputable def S177 (k : Nat) : Does := ⟨[(false, [.dat (.int .i64)]), (false, [.dat (.ptr (.int .i64))])], [(false, [.dat .bool])], fun x => impl_areTurns_1.f x.1 x.2⟩
noncomputable def E177 (k : Nat) : En := ⟨tb, orcOf [(104, S104 k)], lvOf [], k, 0, lvOf [], []⟩
theorem e177 (k : Nat) (x : dens (flatC (S177 k).ps)) : funK (E177 k) (S177 k) Try.f177 x = (S177 k).fn x := by
  kernel_rfl
theorem M177 (k : Nat) : Meets Try.prog 177 (S177 k) := meets_of Try.func177 (by kernel_rfl) tbOk (orc_cons (M104 k) orc_nil) mixOk (fun x y h => (e177 k x).trans h) rfl

/-! impl_areAll_int64_1_impl_areTurns_1: function 185 -/
noncomputable def impl_areAll_int64_1_impl_areTurns_1.f (a0 : Int) (a1 : Int) : Option (Bool) := (impl_areTurns_1.f a0 a1).bind fun t1 => some (!decide (t1 = true))
noncomputable def S185_c177 (k : Nat) : Does := ⟨[(false, [.dat (.int .i64)]), (false, [.dat (.ptr (.clo 177 (.ptr (.int .i64))))])], [(false, [.dat .bool])], fun x => impl_areAll_int64_1_impl_areTurns_1.f x.1 x.2⟩
noncomputable def E185_c177 (k : Nat) : En := ⟨tb, orcOf [(177, S177 k)], lvOf [], k, 0, lvOf [], []⟩
theorem e185_c177 (k : Nat) (x : dens (flatC (S185_c177 k).ps)) : funK (E185_c177 k) (S185_c177 k) Try.f185 x = (S185_c177 k).fn x := by
  kernel_rfl
theorem M185_c177 (k : Nat) : Meets Try.prog 185 (S185_c177 k) := meets_of Try.func185 (by kernel_rfl) tbOk (orc_cons (M177 k) orc_nil) mixOk (fun x y h => (e185_c177 k x).trans h) rfl

/-! slices_IndexFunc_int64_int64_impl_areAll_int64_1_impl_areTurns_1: function 191 -/
noncomputable def slices_IndexFunc_int64_int64_impl_areAll_int64_1_impl_areTurns_1.s0 (k : Nat) (r0 : (List Int) → Int → Int → Int → Option (Int)) (x0 : List Int) (x1 : Int) (x7 : Int) (x8 : Int) : Option (Int) := if x8 < x7 then (if 0 ≤ x8 then (if x8 < (x0.length : Int) then ((impl_areAll_int64_1_impl_areTurns_1.f (rd x0 x8) x1).bind fun t1 => if t1 = true then (some x8) else (r0 x0 x1 x7 (wrap64 (x8 + 1)))) else (none)) else (none)) else (some (-1))
noncomputable def slices_IndexFunc_int64_int64_impl_areAll_int64_1_impl_areTurns_1.l0 (k : Nat) : Nat → (List Int) → Int → Int → Int → Option (Int)
  | 0, _, _, _, _ => none
  | n + 1, x0, x1, x2, x3 => slices_IndexFunc_int64_int64_impl_areAll_int64_1_impl_areTurns_1.s0 k (slices_IndexFunc_int64_int64_impl_areAll_int64_1_impl_areTurns_1.l0 k n) x0 x1 x2 x3
noncomputable def slices_IndexFunc_int64_int64_impl_areAll_int64_1_impl_areTurns_1.g (k : Nat) (r0 : (List Int) → Int → Int → Int → Option (Int)) (l0 : List Int) (a1 : Int) : Option (Int) := r0 l0 a1 (l0.length : Int) 0
noncomputable def slices_IndexFunc_int64_int64_impl_areAll_int64_1_impl_areTurns_1.f (k : Nat) (l0 : List Int) (a1 : Int) : Option (Int) := slices_IndexFunc_int64_int64_impl_areAll_int64_1_impl_areTurns_1.g k (slices_IndexFunc_int64_int64_impl_areAll_int64_1_impl_areTurns_1.l0 k k) l0 a1
noncomputable def S191_c185c177 (k : Nat) : Does := ⟨[(false, [.dat (.list (.int .i64))]), (false, [.dat (.clo 185 (.ptr (.clo 177 (.ptr (.int .i64)))))])], [(false, [.dat (.int .i64)])], fun x => slices_IndexFunc_int64_int64_impl_areAll_int64_1_impl_areTurns_1.f k x.1 x.2⟩
noncomputable def E191_c185c177 (k : Nat) : En := ⟨tb, orcOf [(185, S185_c177 k)], lvOf [(0, [(0, []), (1, []), (7, []), (8, [])])], k, 0, lvOf [], []⟩
noncomputable def n191_c185c177_0 (x0 : List Int) (x1 : Int) (x7 : Int) (x8 : Int) : St := ⟨19, lookA [(0, .dat (.list (.int .i64)) x0), (1, .dat (.clo 185 (.ptr (.clo 177 (.ptr (.int .i64))))) x1), (7, .dat (.int .i64) x7), (8, .dat (.int .i64) x8)], Go.V.look []⟩
def p191_c185c177_0 : List Bool := [true, false, true, false]
theorem r191_c185c177_0 (k : Nat) (rec : St → Option (Int)) (v : (List Int) × Int × Int × Int) : roundF (E191_c185c177 k) (S191_c185c177 k) Try.f191 p191_c185c177_0 [] rec (n191_c185c177_0 v.1 v.2.1 v.2.2.1 v.2.2.2) = slices_IndexFunc_int64_int64_impl_areAll_int64_1_impl_areTurns_1.s0 k (fun a0 a1 a2 a3 => rec (n191_c185c177_0 a0 a1 a2 a3)) v.1 v.2.1 v.2.2.1 v.2.2.2 := by
  kernel_rfl
theorem q191_c185c177_0 (k : Nat) (n : Nat) : ∀ v : (List Int) × Int × Int × Int, loopF (E191_c185c177 k) (S191_c185c177 k) Try.f191 p191_c185c177_0 [] n (n191_c185c177_0 v.1 v.2.1 v.2.2.1 v.2.2.2) = slices_IndexFunc_int64_int64_impl_areAll_int64_1_impl_areTurns_1.l0 k n v.1 v.2.1 v.2.2.1 v.2.2.2 :=
  loopF_eq (E191_c185c177 k) (S191_c185c177 k) Try.f191 p191_c185c177_0 [] (fun v : (List Int) × Int × Int × Int => n191_c185c177_0 v.1 v.2.1 v.2.2.1 v.2.2.2) (fun rec v => slices_IndexFunc_int64_int64_impl_areAll_int64_1_impl_areTurns_1.s0 k (fun a0 a1 a2 a3 => rec (a0, a1, a2, a3)) v.1 v.2.1 v.2.2.1 v.2.2.2) (fun n v => slices_IndexFunc_int64_int64_impl_areAll_int64_1_impl_areTurns_1.l0 k n v.1 v.2.1 v.2.2.1 v.2.2.2) (fun _ => rfl) (fun _ _ => rfl) (fun rec v => r191_c185c177_0 k rec v) n
theorem e191_c185c177 (k : Nat) (x : dens (flatC (S191_c185c177 k).ps)) : funK (E191_c185c177 k) (S191_c185c177 k) Try.f191 x = (S191_c185c177 k).fn x := by
  have h : funK (E191_c185c177 k) (S191_c185c177 k) Try.f191 x = slices_IndexFunc_int64_int64_impl_areAll_int64_1_impl_areTurns_1.g k (fun a0 a1 a2 a3 => loopF (E191_c185c177 k) (S191_c185c177 k) Try.f191 p191_c185c177_0 [] k (n191_c185c177_0 a0 a1 a2 a3)) x.1 x.2 := by kernel_rfl
  rw [h]
  rw [show (fun a0 a1 a2 a3 => loopF (E191_c185c177 k) (S191_c185c177 k) Try.f191 p191_c185c177_0 [] k (n191_c185c177_0 a0 a1 a2 a3)) = slices_IndexFunc_int64_int64_impl_areAll_int64_1_impl_areTurns_1.l0 k k from funext fun a0 => funext fun a1 => funext fun a2 => funext fun a3 => q191_c185c177_0 k k (a0, a1, a2, a3)]
  rfl
theorem M191_c185c177 (k : Nat) : Meets Try.prog 191 (S191_c185c177 k) := meets_of Try.func191 (by kernel_rfl) tbOk (orc_cons (M185_c177 k) orc_nil) mixOk (fun x y h => (e191_c185c177 k x).trans h) rfl

/-! slices_ContainsFunc_int64_int64_impl_areAll_int64_1_impl_areTurns_1: function 184 -/
noncomputable def slices_ContainsFunc_int64_int64_impl_areAll_int64_1_impl_areTurns_1.f (k : Nat) (l0 : List Int) (a1 : Int) : Option (Bool) := (slices_IndexFunc_int64_int64_impl_areAll_int64_1_impl_areTurns_1.f k l0 a1).bind fun t1 => some (decide (0 ≤ t1))
noncomputable def S184_c185c177 (k : Nat) : Does := ⟨[(false, [.dat (.list (.int .i64))]), (false, [.dat (.clo 185 (.ptr (.clo 177 (.ptr (.int .i64)))))])], [(false, [.dat .bool])], fun x => slices_ContainsFunc_int64_int64_impl_areAll_int64_1_impl_areTurns_1.f k x.1 x.2⟩
noncomputable def E184_c185c177 (k : Nat) : En := ⟨tb, orcOf [(191, S191_c185c177 k)], lvOf [], k, 0, lvOf [], []⟩
theorem e184_c185c177 (k : Nat) (x : dens (flatC (S184_c185c177 k).ps)) : funK (E184_c185c177 k) (S184_c185c177 k) Try.f184 x = (S184_c185c177 k).fn x := by
  kernel_rfl
theorem M184_c185c177 (k : Nat) : Meets Try.prog 184 (S184_c185c177 k) := meets_of Try.func184 (by kernel_rfl) tbOk (orc_cons (M191_c185c177 k) orc_nil) mixOk (fun x y h => (e184_c185c177 k x).trans h) rfl

/-! impl_areAll_int64_impl_areTurns_1: function 157 -/
noncomputable def impl_areAll_int64_impl_areTurns_1.f (k : Nat) (l0 : List Int) (a1 : Int) : Option (Bool) := (slices_ContainsFunc_int64_int64_impl_areAll_int64_1_impl_areTurns_1.f k l0 a1).bind fun t1 => some (!decide (t1 = true))
noncomputable def S157_c177 (k : Nat) : Does := ⟨[(false, [.dat (.list (.int .i64))]), (false, [.dat (.clo 177 (.ptr (.int .i64)))])], [(false, [.dat .bool])], fun x => impl_areAll_int64_impl_areTurns_1.f k x.1 x.2⟩
noncomputable def E157_c177 (k : Nat) : En := ⟨tb, orcOf [(184, S184_c185c177 k)], lvOf [], k, 0, lvOf [], []⟩
theorem e157_c177 (k : Nat) (x : dens (flatC (S157_c177 k).ps)) : funK (E157_c177 k) (S157_c177 k) Try.f157 x = (S157_c177 k).fn x := by
  kernel_rfl
theorem M157_c177 (k : Nat) : Meets Try.prog 157 (S157_c177 k) := meets_of Try.func157 (by kernel_rfl) tbOk (orc_cons (M184_c185c177 k) orc_nil) mixOk (fun x y h => (e157_c177 k x).trans h) rfl

/-! impl_areTurns: function 145 -/
noncomputable def impl_areTurns.f (k : Nat) (l0 : List Int) (a1 : Int) : Option (Bool) := (impl_length_int64.f l0).bind fun t1 => (impl_within.f t1 1 120).bind fun t2 => if t2 = true then ((impl_areAll_int64_impl_areTurns_1.f k l0 a1).bind fun t3 => some t3) else (some false)
noncomputable def S145 (k : Nat) : Does := ⟨[(false, [.dat (.list (.int .i64))]), (false, [.dat (.int .i64)])], [(false, [.dat .bool])], fun x => impl_areTurns.f k x.1 x.2⟩
noncomputable def E145 (k : Nat) : En := ⟨tb, orcOf [(101, S101 k), (104, S104 k), (157, S157_c177 k)], lvOf [], k, 0, lvOf [], []⟩
theorem e145 (k : Nat) (x : dens (flatC (S145 k).ps)) : funK (E145 k) (S145 k) Try.f145 x = (S145 k).fn x := by
  kernel_rfl
theorem M145 (k : Nat) : Meets Try.prog 145 (S145 k) := meets_of Try.func145 (by kernel_rfl) tbOk (orc_cons (M101 k) (orc_cons (M104 k) (orc_cons (M157_c177 k) orc_nil))) mixOk (fun x y h => (e145 k x).trans h) rfl

/-! impl_tasksCode: function 183 -/
noncomputable def impl_tasksCode.f (k : Nat) (l0_0 : List Int) (a1 : Bool) : Option (Int) := (impl_IsTasks.f k l0_0).bind fun t1 => if (!decide (t1 = true)) = true then (some 1) else (if (!decide (a1 = true)) = true then (some 2) else (some 0))
noncomputable def S183 (k : Nat) : Does := ⟨[(true, [.dat (.list (.int .i64))]), (false, [.dat .bool])], [(false, [.dat (.int .i64)])], fun x => impl_tasksCode.f k x.1 x.2⟩
noncomputable def E183 (k : Nat) : En := ⟨tb, orcOf [(119, S119 k)], lvOf [], k, 0, lvOf [], []⟩
theorem e183 (k : Nat) (x : dens (flatC (S183 k).ps)) : funK (E183 k) (S183 k) Try.f183 x = (S183 k).fn x := by
  kernel_rfl
theorem M183 (k : Nat) : Meets Try.prog 183 (S183 k) := meets_of Try.func183 (by kernel_rfl) tbOk (orc_cons (M119 k) orc_nil) mixOk (fun x y h => (e183 k x).trans h) rfl

/-! impl_turnsCode: function 153 -/
noncomputable def impl_turnsCode.f (k : Nat) (l0_0 : List Int) (l1 : List Int) : Option (Int) := (impl_Tasks_many.f l0_0).bind fun t1 => (impl_areTurns.f k l1 t1).bind fun t2 => (impl_tasksCode.f k l0_0 t2).bind fun t3 => some t3
noncomputable def S153 (k : Nat) : Does := ⟨[(true, [.dat (.list (.int .i64))]), (false, [.dat (.list (.int .i64))])], [(false, [.dat (.int .i64)])], fun x => impl_turnsCode.f k x.1 x.2⟩
noncomputable def E153 (k : Nat) : En := ⟨tb, orcOf [(162, S162 k), (145, S145 k), (183, S183 k)], lvOf [], k, 0, lvOf [], []⟩
theorem e153 (k : Nat) (x : dens (flatC (S153 k).ps)) : funK (E153 k) (S153 k) Try.f153 x = (S153 k).fn x := by
  kernel_rfl
theorem M153 (k : Nat) : Meets Try.prog 153 (S153 k) := meets_of Try.func153 (by kernel_rfl) tbOk (orc_cons (M162 k) (orc_cons (M145 k) (orc_cons (M183 k) orc_nil))) mixOk (fun x y h => (e153 k x).trans h) rfl

/-! impl_Tasks_serves: function 154 -/
noncomputable def impl_Tasks_serves.s0 (k : Nat) (r0 : (List Int) → (List Int) → Int → Int → Option (Bool)) (x1 : List Int) (x9 : List Int) (x10 : Int) (x11 : Int) : Option (Bool) := if x11 < x10 then (if 0 ≤ x11 then (if x11 < (x9.length : Int) then ((impl_waits.f k x1 x11).bind fun t1 => if (t1.length : Int) = 0 then (some false) else ((impl_greatest.f k t1).bind fun t2 => if (rd x9 x11) < t2 then (some false) else (r0 x1 x9 x10 (wrap64 (x11 + 1))))) else (none)) else (none)) else (some true)
noncomputable def impl_Tasks_serves.l0 (k : Nat) : Nat → (List Int) → (List Int) → Int → Int → Option (Bool)
  | 0, _, _, _, _ => none
  | n + 1, x0, x1, x2, x3 => impl_Tasks_serves.s0 k (impl_Tasks_serves.l0 k n) x0 x1 x2 x3
noncomputable def impl_Tasks_serves.g (k : Nat) (r0 : (List Int) → (List Int) → Int → Int → Option (Bool)) (l0_0 : List Int) (l1 : List Int) : Option (Bool) := r0 l1 l0_0 (l0_0.length : Int) 0
noncomputable def impl_Tasks_serves.f (k : Nat) (l0_0 : List Int) (l1 : List Int) : Option (Bool) := impl_Tasks_serves.g k (impl_Tasks_serves.l0 k k) l0_0 l1
noncomputable def S154 (k : Nat) : Does := ⟨[(true, [.dat (.list (.int .i64))]), (false, [.dat (.list (.int .i64))])], [(false, [.dat .bool])], fun x => impl_Tasks_serves.f k x.1 x.2⟩
noncomputable def E154 (k : Nat) : En := ⟨tb, orcOf [(118, S118 k), (117, S117 k)], lvOf [(0, [(1, []), (9, []), (10, []), (11, [])])], k, 0, lvOf [], []⟩
noncomputable def n154_0 (x1 : List Int) (x9 : List Int) (x10 : Int) (x11 : Int) : St := ⟨29, lookA [(1, .dat (.list (.int .i64)) x1), (9, .dat (.list (.int .i64)) x9), (10, .dat (.int .i64) x10), (11, .dat (.int .i64) x11)], Go.V.look []⟩
def p154_0 : List Bool := [true, false, true, false]
theorem r154_0 (k : Nat) (rec : St → Option (Bool)) (v : (List Int) × (List Int) × Int × Int) : roundF (E154 k) (S154 k) Try.f154 p154_0 [] rec (n154_0 v.1 v.2.1 v.2.2.1 v.2.2.2) = impl_Tasks_serves.s0 k (fun a0 a1 a2 a3 => rec (n154_0 a0 a1 a2 a3)) v.1 v.2.1 v.2.2.1 v.2.2.2 := by
  kernel_rfl
theorem q154_0 (k : Nat) (n : Nat) : ∀ v : (List Int) × (List Int) × Int × Int, loopF (E154 k) (S154 k) Try.f154 p154_0 [] n (n154_0 v.1 v.2.1 v.2.2.1 v.2.2.2) = impl_Tasks_serves.l0 k n v.1 v.2.1 v.2.2.1 v.2.2.2 :=
  loopF_eq (E154 k) (S154 k) Try.f154 p154_0 [] (fun v : (List Int) × (List Int) × Int × Int => n154_0 v.1 v.2.1 v.2.2.1 v.2.2.2) (fun rec v => impl_Tasks_serves.s0 k (fun a0 a1 a2 a3 => rec (a0, a1, a2, a3)) v.1 v.2.1 v.2.2.1 v.2.2.2) (fun n v => impl_Tasks_serves.l0 k n v.1 v.2.1 v.2.2.1 v.2.2.2) (fun _ => rfl) (fun _ _ => rfl) (fun rec v => r154_0 k rec v) n
theorem e154 (k : Nat) (x : dens (flatC (S154 k).ps)) : funK (E154 k) (S154 k) Try.f154 x = (S154 k).fn x := by
  have h : funK (E154 k) (S154 k) Try.f154 x = impl_Tasks_serves.g k (fun a0 a1 a2 a3 => loopF (E154 k) (S154 k) Try.f154 p154_0 [] k (n154_0 a0 a1 a2 a3)) x.1 x.2 := by kernel_rfl
  rw [h]
  rw [show (fun a0 a1 a2 a3 => loopF (E154 k) (S154 k) Try.f154 p154_0 [] k (n154_0 a0 a1 a2 a3)) = impl_Tasks_serves.l0 k k from funext fun a0 => funext fun a1 => funext fun a2 => funext fun a3 => q154_0 k k (a0, a1, a2, a3)]
  rfl
theorem M154 (k : Nat) : Meets Try.prog 154 (S154 k) := meets_of Try.func154 (by kernel_rfl) tbOk (orc_cons (M118 k) (orc_cons (M117 k) orc_nil)) mixOk (fun x y h => (e154 k x).trans h) rfl

/-! impl_DoServe: function 90 -/
noncomputable def impl_DoServe.f (k : Nat) (l0_0 : List Int) (l1 : List Int) : Option (Bool × Int) := (impl_turnsCode.f k l0_0 l1).bind fun t1 => if t1 = 0 then ((impl_Tasks_serves.f k l0_0 l1).bind fun t2 => some (t2, 0)) else (some (false, t1))
noncomputable def S90 (k : Nat) : Does := ⟨[(true, [.dat (.list (.int .i64))]), (false, [.dat (.list (.int .i64))])], [(false, [.dat .bool]), (false, [.dat (.int .i64)])], fun x => impl_DoServe.f k x.1 x.2⟩
noncomputable def E90 (k : Nat) : En := ⟨tb, orcOf [(153, S153 k), (154, S154 k)], lvOf [], k, 0, lvOf [], []⟩
theorem e90 (k : Nat) (x : dens (flatC (S90 k).ps)) : funK (E90 k) (S90 k) Try.f90 x = (S90 k).fn x := by
  kernel_rfl
theorem M90 (k : Nat) : Meets Try.prog 90 (S90 k) := meets_of Try.func90 (by kernel_rfl) tbOk (orc_cons (M153 k) (orc_cons (M154 k) orc_nil)) mixOk (fun x y h => (e90 k x).trans h) rfl

/-! impl_Jobs_load: function 123 -/
noncomputable def impl_Jobs_load.s0 (k : Nat) (r0 : (List Int) → (List Int) → (List Int) → Int → Int → (List Int) → Int → Int → Option (Int × Int)) (x1_0 : List Int) (x1_1 : List Int) (x1_2 : List Int) (x4 : Int) (x5 : Int) (x12 : List Int) (x13 : Int) (x14 : Int) : Option (Int × Int) := if x14 < x13 then (if 0 ≤ x14 then (if x14 < (x12.length : Int) then (if 0 ≤ x14 then (if x14 < (x1_0.length : Int) then (if (rd x12 x14) = 0 then (none) else (r0 x1_0 x1_1 x1_2 x4 (wrap64 (x5 + (wrap64 ((rd x1_0 x14) * (wrap64 (Int.tdiv x4 (rd x12 x14))))))) x12 x13 (wrap64 (x14 + 1)))) else (none)) else (none)) else (none)) else (none)) else ((impl_divisor.f k x5 x4).bind fun t2 => if t2 = 0 then (none) else (if t2 = 0 then (none) else (some ((wrap64 (Int.tdiv x5 t2)), (wrap64 (Int.tdiv x4 t2))))))
noncomputable def impl_Jobs_load.l0 (k : Nat) : Nat → (List Int) → (List Int) → (List Int) → Int → Int → (List Int) → Int → Int → Option (Int × Int)
  | 0, _, _, _, _, _, _, _, _ => none
  | n + 1, x0, x1, x2, x3, x4, x5, x6, x7 => impl_Jobs_load.s0 k (impl_Jobs_load.l0 k n) x0 x1 x2 x3 x4 x5 x6 x7
noncomputable def impl_Jobs_load.g (k : Nat) (r0 : (List Int) → (List Int) → (List Int) → Int → Int → (List Int) → Int → Int → Option (Int × Int)) (l0_0 : List Int) (l0_1 : List Int) (l0_2 : List Int) : Option (Int × Int) := (impl_Jobs_whole.f k l0_0 l0_1 l0_2).bind fun t1 => r0 l0_0 l0_1 l0_2 t1 0 l0_1 (l0_1.length : Int) 0
noncomputable def impl_Jobs_load.f (k : Nat) (l0_0 : List Int) (l0_1 : List Int) (l0_2 : List Int) : Option (Int × Int) := impl_Jobs_load.g k (impl_Jobs_load.l0 k k) l0_0 l0_1 l0_2
noncomputable def S123 (k : Nat) : Does := ⟨[(true, [.dat (.list (.int .i64)), .dat (.list (.int .i64)), .dat (.list (.int .i64))])], [(false, [.dat (.int .i64)]), (false, [.dat (.int .i64)])], fun x => impl_Jobs_load.f k x.1 x.2.1 x.2.2⟩
noncomputable def E123 (k : Nat) : En := ⟨tb, orcOf [(114, S114 k), (169, S169 k)], lvOf [(0, [(1, []), (4, []), (5, []), (12, []), (13, []), (14, [])])], k, 0, lvOf [], []⟩
noncomputable def n123_0 (x1_0 : List Int) (x1_1 : List Int) (x1_2 : List Int) (x4 : Int) (x5 : Int) (x12 : List Int) (x13 : Int) (x14 : Int) : St := ⟨40, lookA [(1, .box 0 0), (4, .dat (.int .i64) x4), (5, .dat (.int .i64) x5), (12, .dat (.list (.int .i64)) x12), (13, .dat (.int .i64) x13), (14, .dat (.int .i64) x14)], Go.V.look [(0, .cells [.dat (.list (.int .i64)) x1_0, .dat (.list (.int .i64)) x1_1, .dat (.list (.int .i64)) x1_2])]⟩
def p123_0 : List Bool := [true, true, false, true, false]
theorem r123_0 (k : Nat) (rec : St → Option (Int × Int)) (v : (List Int) × (List Int) × (List Int) × Int × Int × (List Int) × Int × Int) : roundF (E123 k) (S123 k) Try.f123 p123_0 [] rec (n123_0 v.1 v.2.1 v.2.2.1 v.2.2.2.1 v.2.2.2.2.1 v.2.2.2.2.2.1 v.2.2.2.2.2.2.1 v.2.2.2.2.2.2.2) = impl_Jobs_load.s0 k (fun a0 a1 a2 a3 a4 a5 a6 a7 => rec (n123_0 a0 a1 a2 a3 a4 a5 a6 a7)) v.1 v.2.1 v.2.2.1 v.2.2.2.1 v.2.2.2.2.1 v.2.2.2.2.2.1 v.2.2.2.2.2.2.1 v.2.2.2.2.2.2.2 := by
  kernel_rfl
theorem q123_0 (k : Nat) (n : Nat) : ∀ v : (List Int) × (List Int) × (List Int) × Int × Int × (List Int) × Int × Int, loopF (E123 k) (S123 k) Try.f123 p123_0 [] n (n123_0 v.1 v.2.1 v.2.2.1 v.2.2.2.1 v.2.2.2.2.1 v.2.2.2.2.2.1 v.2.2.2.2.2.2.1 v.2.2.2.2.2.2.2) = impl_Jobs_load.l0 k n v.1 v.2.1 v.2.2.1 v.2.2.2.1 v.2.2.2.2.1 v.2.2.2.2.2.1 v.2.2.2.2.2.2.1 v.2.2.2.2.2.2.2 :=
  loopF_eq (E123 k) (S123 k) Try.f123 p123_0 [] (fun v : (List Int) × (List Int) × (List Int) × Int × Int × (List Int) × Int × Int => n123_0 v.1 v.2.1 v.2.2.1 v.2.2.2.1 v.2.2.2.2.1 v.2.2.2.2.2.1 v.2.2.2.2.2.2.1 v.2.2.2.2.2.2.2) (fun rec v => impl_Jobs_load.s0 k (fun a0 a1 a2 a3 a4 a5 a6 a7 => rec (a0, a1, a2, a3, a4, a5, a6, a7)) v.1 v.2.1 v.2.2.1 v.2.2.2.1 v.2.2.2.2.1 v.2.2.2.2.2.1 v.2.2.2.2.2.2.1 v.2.2.2.2.2.2.2) (fun n v => impl_Jobs_load.l0 k n v.1 v.2.1 v.2.2.1 v.2.2.2.1 v.2.2.2.2.1 v.2.2.2.2.2.1 v.2.2.2.2.2.2.1 v.2.2.2.2.2.2.2) (fun _ => rfl) (fun _ _ => rfl) (fun rec v => r123_0 k rec v) n
theorem e123 (k : Nat) (x : dens (flatC (S123 k).ps)) : funK (E123 k) (S123 k) Try.f123 x = (S123 k).fn x := by
  have h : funK (E123 k) (S123 k) Try.f123 x = impl_Jobs_load.g k (fun a0 a1 a2 a3 a4 a5 a6 a7 => loopF (E123 k) (S123 k) Try.f123 p123_0 [] k (n123_0 a0 a1 a2 a3 a4 a5 a6 a7)) x.1 x.2.1 x.2.2 := by kernel_rfl
  rw [h]
  rw [show (fun a0 a1 a2 a3 a4 a5 a6 a7 => loopF (E123 k) (S123 k) Try.f123 p123_0 [] k (n123_0 a0 a1 a2 a3 a4 a5 a6 a7)) = impl_Jobs_load.l0 k k from funext fun a0 => funext fun a1 => funext fun a2 => funext fun a3 => funext fun a4 => funext fun a5 => funext fun a6 => funext fun a7 => q123_0 k k (a0, a1, a2, a3, a4, a5, a6, a7)]
  rfl
theorem M123 (k : Nat) : Meets Try.prog 123 (S123 k) := meets_of Try.func123 (by kernel_rfl) tbOk (orc_cons (M114 k) (orc_cons (M169 k) orc_nil)) mixOk (fun x y h => (e123 k x).trans h) rfl

/-! impl_Jobs_demand: function 129 -/
noncomputable def impl_Jobs_demand.s0 (k : Nat) (r0 : Int → (List Int) → (List Int) → (List Int) → Int → (List Int) → Int → Int → Option (Int)) (x1 : Int) (x2_0 : List Int) (x2_1 : List Int) (x2_2 : List Int) (x5 : Int) (x9 : List Int) (x10 : Int) (x11 : Int) : Option (Int) := if x11 < x10 then (if 0 ≤ x11 then (if x11 < (x9.length : Int) then (if (rd x9 x11) ≤ x1 then (if 0 ≤ x11 then (if x11 < (x2_0.length : Int) then (if 0 ≤ x11 then (if x11 < (x2_1.length : Int) then (if (rd x2_1 x11) = 0 then (none) else (r0 x1 x2_0 x2_1 x2_2 (wrap64 (x5 + (wrap64 ((rd x2_0 x11) * (wrap64 ((wrap64 (Int.tdiv (wrap64 (x1 - (rd x9 x11))) (rd x2_1 x11))) + 1)))))) x9 x10 (wrap64 (x11 + 1)))) else (none)) else (none)) else (none)) else (none)) else (r0 x1 x2_0 x2_1 x2_2 x5 x9 x10 (wrap64 (x11 + 1)))) else (none)) else (none)) else (some x5)
noncomputable def impl_Jobs_demand.l0 (k : Nat) : Nat → Int → (List Int) → (List Int) → (List Int) → Int → (List Int) → Int → Int → Option (Int)
  | 0, _, _, _, _, _, _, _, _ => none
  | n + 1, x0, x1, x2, x3, x4, x5, x6, x7 => impl_Jobs_demand.s0 k (impl_Jobs_demand.l0 k n) x0 x1 x2 x3 x4 x5 x6 x7
noncomputable def impl_Jobs_demand.g (k : Nat) (r0 : Int → (List Int) → (List Int) → (List Int) → Int → (List Int) → Int → Int → Option (Int)) (l0_0 : List Int) (l0_1 : List Int) (l0_2 : List Int) (a1 : Int) : Option (Int) := r0 a1 l0_0 l0_1 l0_2 0 l0_2 (l0_2.length : Int) 0
noncomputable def impl_Jobs_demand.f (k : Nat) (l0_0 : List Int) (l0_1 : List Int) (l0_2 : List Int) (a1 : Int) : Option (Int) := impl_Jobs_demand.g k (impl_Jobs_demand.l0 k k) l0_0 l0_1 l0_2 a1
noncomputable def S129 (k : Nat) : Does := ⟨[(true, [.dat (.list (.int .i64)), .dat (.list (.int .i64)), .dat (.list (.int .i64))]), (false, [.dat (.int .i64)])], [(false, [.dat (.int .i64)])], fun x => impl_Jobs_demand.f k x.1 x.2.1 x.2.2.1 x.2.2.2⟩
noncomputable def E129 (k : Nat) : En := ⟨tb, orcOf [], lvOf [(0, [(1, []), (2, []), (5, []), (9, []), (10, []), (11, [])])], k, 0, lvOf [], []⟩
noncomputable def n129_0 (x1 : Int) (x2_0 : List Int) (x2_1 : List Int) (x2_2 : List Int) (x5 : Int) (x9 : List Int) (x10 : Int) (x11 : Int) : St := ⟨39, lookA [(1, .dat (.int .i64) x1), (2, .box 0 0), (5, .dat (.int .i64) x5), (9, .dat (.list (.int .i64)) x9), (10, .dat (.int .i64) x10), (11, .dat (.int .i64) x11)], Go.V.look [(0, .cells [.dat (.list (.int .i64)) x2_0, .dat (.list (.int .i64)) x2_1, .dat (.list (.int .i64)) x2_2])]⟩
def p129_0 : List Bool := [true, true, false, true, false]
theorem r129_0 (k : Nat) (rec : St → Option (Int)) (v : Int × (List Int) × (List Int) × (List Int) × Int × (List Int) × Int × Int) : roundF (E129 k) (S129 k) Try.f129 p129_0 [] rec (n129_0 v.1 v.2.1 v.2.2.1 v.2.2.2.1 v.2.2.2.2.1 v.2.2.2.2.2.1 v.2.2.2.2.2.2.1 v.2.2.2.2.2.2.2) = impl_Jobs_demand.s0 k (fun a0 a1 a2 a3 a4 a5 a6 a7 => rec (n129_0 a0 a1 a2 a3 a4 a5 a6 a7)) v.1 v.2.1 v.2.2.1 v.2.2.2.1 v.2.2.2.2.1 v.2.2.2.2.2.1 v.2.2.2.2.2.2.1 v.2.2.2.2.2.2.2 := by
  kernel_rfl
theorem q129_0 (k : Nat) (n : Nat) : ∀ v : Int × (List Int) × (List Int) × (List Int) × Int × (List Int) × Int × Int, loopF (E129 k) (S129 k) Try.f129 p129_0 [] n (n129_0 v.1 v.2.1 v.2.2.1 v.2.2.2.1 v.2.2.2.2.1 v.2.2.2.2.2.1 v.2.2.2.2.2.2.1 v.2.2.2.2.2.2.2) = impl_Jobs_demand.l0 k n v.1 v.2.1 v.2.2.1 v.2.2.2.1 v.2.2.2.2.1 v.2.2.2.2.2.1 v.2.2.2.2.2.2.1 v.2.2.2.2.2.2.2 :=
  loopF_eq (E129 k) (S129 k) Try.f129 p129_0 [] (fun v : Int × (List Int) × (List Int) × (List Int) × Int × (List Int) × Int × Int => n129_0 v.1 v.2.1 v.2.2.1 v.2.2.2.1 v.2.2.2.2.1 v.2.2.2.2.2.1 v.2.2.2.2.2.2.1 v.2.2.2.2.2.2.2) (fun rec v => impl_Jobs_demand.s0 k (fun a0 a1 a2 a3 a4 a5 a6 a7 => rec (a0, a1, a2, a3, a4, a5, a6, a7)) v.1 v.2.1 v.2.2.1 v.2.2.2.1 v.2.2.2.2.1 v.2.2.2.2.2.1 v.2.2.2.2.2.2.1 v.2.2.2.2.2.2.2) (fun n v => impl_Jobs_demand.l0 k n v.1 v.2.1 v.2.2.1 v.2.2.2.1 v.2.2.2.2.1 v.2.2.2.2.2.1 v.2.2.2.2.2.2.1 v.2.2.2.2.2.2.2) (fun _ => rfl) (fun _ _ => rfl) (fun rec v => r129_0 k rec v) n
theorem e129 (k : Nat) (x : dens (flatC (S129 k).ps)) : funK (E129 k) (S129 k) Try.f129 x = (S129 k).fn x := by
  have h : funK (E129 k) (S129 k) Try.f129 x = impl_Jobs_demand.g k (fun a0 a1 a2 a3 a4 a5 a6 a7 => loopF (E129 k) (S129 k) Try.f129 p129_0 [] k (n129_0 a0 a1 a2 a3 a4 a5 a6 a7)) x.1 x.2.1 x.2.2.1 x.2.2.2 := by kernel_rfl
  rw [h]
  rw [show (fun a0 a1 a2 a3 a4 a5 a6 a7 => loopF (E129 k) (S129 k) Try.f129 p129_0 [] k (n129_0 a0 a1 a2 a3 a4 a5 a6 a7)) = impl_Jobs_demand.l0 k k from funext fun a0 => funext fun a1 => funext fun a2 => funext fun a3 => funext fun a4 => funext fun a5 => funext fun a6 => funext fun a7 => q129_0 k k (a0, a1, a2, a3, a4, a5, a6, a7)]
  rfl
theorem M129 (k : Nat) : Meets Try.prog 129 (S129 k) := meets_of Try.func129 (by kernel_rfl) tbOk orc_nil mixOk (fun x y h => (e129 k x).trans h) rfl

/-! impl_Jobs_room: function 121 -/
noncomputable def impl_Jobs_room.s0 (k : Nat) (r0 : (List Int) → (List Int) → (List Int) → Int → Int → Option (Int)) (x1_0 : List Int) (x1_1 : List Int) (x1_2 : List Int) (x3 : Int) (x4 : Int) : Option (Int) := (impl_Jobs_whole.f k x1_0 x1_1 x1_2).bind fun t2 => if x4 ≤ t2 then ((impl_Jobs_demand.f k x1_0 x1_1 x1_2 x4).bind fun t3 => r0 x1_0 x1_1 x1_2 (minV x3 (wrap64 (x4 - t3))) (wrap64 (x4 + 1))) else (some x3)
noncomputable def impl_Jobs_room.l0 (k : Nat) : Nat → (List Int) → (List Int) → (List Int) → Int → Int → Option (Int)
  | 0, _, _, _, _, _ => none
  | n + 1, x0, x1, x2, x3, x4 => impl_Jobs_room.s0 k (impl_Jobs_room.l0 k n) x0 x1 x2 x3 x4
noncomputable def impl_Jobs_room.g (k : Nat) (r0 : (List Int) → (List Int) → (List Int) → Int → Int → Option (Int)) (l0_0 : List Int) (l0_1 : List Int) (l0_2 : List Int) : Option (Int) := (impl_Jobs_demand.f k l0_0 l0_1 l0_2 1).bind fun t1 => r0 l0_0 l0_1 l0_2 (wrap64 (1 - t1)) 2
noncomputable def impl_Jobs_room.f (k : Nat) (l0_0 : List Int) (l0_1 : List Int) (l0_2 : List Int) : Option (Int) := impl_Jobs_room.g k (impl_Jobs_room.l0 k k) l0_0 l0_1 l0_2
noncomputable def S121 (k : Nat) : Does := ⟨[(true, [.dat (.list (.int .i64)), .dat (.list (.int .i64)), .dat (.list (.int .i64))])], [(false, [.dat (.int .i64)])], fun x => impl_Jobs_room.f k x.1 x.2.1 x.2.2⟩
noncomputable def E121 (k : Nat) : En := ⟨tb, orcOf [(129, S129 k), (114, S114 k)], lvOf [(0, [(1, []), (3, []), (4, [])])], k, 0, lvOf [], []⟩
noncomputable def n121_0 (x1_0 : List Int) (x1_1 : List Int) (x1_2 : List Int) (x3 : Int) (x4 : Int) : St := ⟨22, lookA [(1, .box 0 0), (3, .dat (.int .i64) x3), (4, .dat (.int .i64) x4)], Go.V.look [(0, .cells [.dat (.list (.int .i64)) x1_0, .dat (.list (.int .i64)) x1_1, .dat (.list (.int .i64)) x1_2])]⟩
def p121_0 : List Bool := [true, true, false, true, false]
theorem r121_0 (k : Nat) (rec : St → Option (Int)) (v : (List Int) × (List Int) × (List Int) × Int × Int) : roundF (E121 k) (S121 k) Try.f121 p121_0 [] rec (n121_0 v.1 v.2.1 v.2.2.1 v.2.2.2.1 v.2.2.2.2) = impl_Jobs_room.s0 k (fun a0 a1 a2 a3 a4 => rec (n121_0 a0 a1 a2 a3 a4)) v.1 v.2.1 v.2.2.1 v.2.2.2.1 v.2.2.2.2 := by
  kernel_rfl
theorem q121_0 (k : Nat) (n : Nat) : ∀ v : (List Int) × (List Int) × (List Int) × Int × Int, loopF (E121 k) (S121 k) Try.f121 p121_0 [] n (n121_0 v.1 v.2.1 v.2.2.1 v.2.2.2.1 v.2.2.2.2) = impl_Jobs_room.l0 k n v.1 v.2.1 v.2.2.1 v.2.2.2.1 v.2.2.2.2 :=
  loopF_eq (E121 k) (S121 k) Try.f121 p121_0 [] (fun v : (List Int) × (List Int) × (List Int) × Int × Int => n121_0 v.1 v.2.1 v.2.2.1 v.2.2.2.1 v.2.2.2.2) (fun rec v => impl_Jobs_room.s0 k (fun a0 a1 a2 a3 a4 => rec (a0, a1, a2, a3, a4)) v.1 v.2.1 v.2.2.1 v.2.2.2.1 v.2.2.2.2) (fun n v => impl_Jobs_room.l0 k n v.1 v.2.1 v.2.2.1 v.2.2.2.1 v.2.2.2.2) (fun _ => rfl) (fun _ _ => rfl) (fun rec v => r121_0 k rec v) n
theorem e121 (k : Nat) (x : dens (flatC (S121 k).ps)) : funK (E121 k) (S121 k) Try.f121 x = (S121 k).fn x := by
  have h : funK (E121 k) (S121 k) Try.f121 x = impl_Jobs_room.g k (fun a0 a1 a2 a3 a4 => loopF (E121 k) (S121 k) Try.f121 p121_0 [] k (n121_0 a0 a1 a2 a3 a4)) x.1 x.2.1 x.2.2 := by kernel_rfl
  rw [h]
  rw [show (fun a0 a1 a2 a3 a4 => loopF (E121 k) (S121 k) Try.f121 p121_0 [] k (n121_0 a0 a1 a2 a3 a4)) = impl_Jobs_room.l0 k k from funext fun a0 => funext fun a1 => funext fun a2 => funext fun a3 => funext fun a4 => q121_0 k k (a0, a1, a2, a3, a4)]
  rfl
theorem M121 (k : Nat) : Meets Try.prog 121 (S121 k) := meets_of Try.func121 (by kernel_rfl) tbOk (orc_cons (M129 k) (orc_cons (M114 k) orc_nil)) mixOk (fun x y h => (e121 k x).trans h) rfl

/-! impl_CanMeet: function 43 -/
noncomputable def impl_CanMeet.f (k : Nat) (l0_0 : List Int) (l0_1 : List Int) (l0_2 : List Int) : Option (Bool × Int) := (impl_jobsCode.f k l0_0 l0_1 l0_2 true true).bind fun t1 => if t1 = 0 then ((impl_Jobs_load.f k l0_0 l0_1 l0_2).bind fun t2 => (impl_Jobs_room.f k l0_0 l0_1 l0_2).bind fun t3 => if 0 ≤ t3 then (some ((decide (t2.1 ≤ t2.2)), 0)) else (some (false, 0))) else (some (false, t1))
noncomputable def S43 (k : Nat) : Does := ⟨[(true, [.dat (.list (.int .i64)), .dat (.list (.int .i64)), .dat (.list (.int .i64))])], [(false, [.dat .bool]), (false, [.dat (.int .i64)])], fun x => impl_CanMeet.f k x.1 x.2.1 x.2.2⟩
noncomputable def E43 (k : Nat) : En := ⟨tb, orcOf [(94, S94 k), (123, S123 k), (121, S121 k)], lvOf [], k, 0, lvOf [], []⟩
theorem e43 (k : Nat) (x : dens (flatC (S43 k).ps)) : funK (E43 k) (S43 k) Try.f43 x = (S43 k).fn x := by
  kernel_rfl
theorem M43 (k : Nat) : Meets Try.prog 43 (S43 k) := meets_of Try.func43 (by kernel_rfl) tbOk (orc_cons (M94 k) (orc_cons (M123 k) (orc_cons (M121 k) orc_nil))) mixOk (fun x y h => (e43 k x).trans h) rfl


end Go.Proofs.Ytmgdobiloapelaa.Vf
