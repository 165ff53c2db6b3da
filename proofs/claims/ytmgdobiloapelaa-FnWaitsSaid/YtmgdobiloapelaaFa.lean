/- What the functions of program, reference and laws give, as plain functions, and that they meet them (part 1). Conditions: none. Written by a program of my own (vp.py). -/
import Derived.Test.YtmgdobiloapelaaVc
import Derived.Test.YtmgdobiloapelaaProg
set_option linter.unusedVariables false
set_option maxRecDepth 100000
namespace Go.Proofs.Ytmgdobiloapelaa.Vf
open Go Go.V Go.RowKit Go.Proofs
def tbl : List (Nat × TI) := [(1, ⟨.fn, 1, 8, [.nilFunc]⟩), (2, ⟨.int .i64, 1, 8, [.int .i64 0]⟩), (3, ⟨.int .i64, 1, 8, [.int .i64 0]⟩), (4, ⟨.bool, 1, 1, [.bool false]⟩), (5, ⟨.int .u8, 1, 1, [.int .u8 0]⟩), (6, ⟨.int .u8, 1, 1, [.int .u8 0]⟩), (7, ⟨.struct [(0, 2), (1, 3), (2, 4), (3, 6)], 4, 24, [.int .i64 0, .int .i64 0, .bool false, .int .u8 0]⟩), (8, ⟨.struct [(0, 2), (1, 3), (2, 4), (3, 6)], 4, 24, [.int .i64 0, .int .i64 0, .bool false, .int .u8 0]⟩), (9, ⟨.str, 1, 16, [.string ByteArray.empty]⟩), (10, ⟨.str, 1, 16, [.string ByteArray.empty]⟩), (11, ⟨.str, 1, 16, [.string ByteArray.empty]⟩), (12, ⟨.int .u64, 1, 8, [.int .u64 0]⟩), (13, ⟨.struct [(0, 9), (1, 12)], 2, 24, [.string ByteArray.empty, .int .u64 0]⟩), (14, ⟨.struct [(0, 9), (1, 12)], 2, 24, [.string ByteArray.empty, .int .u64 0]⟩), (15, ⟨.ptr 147, 1, 8, [.pointer none]⟩), (16, ⟨.ptr 150, 1, 8, [.pointer none]⟩), (17, ⟨.ptr 159, 1, 8, [.pointer none]⟩), (18, ⟨.struct [(0, 17)], 1, 8, [.pointer none]⟩), (19, ⟨.struct [(0, 17)], 1, 8, [.pointer none]⟩), (21, ⟨.int .i32, 1, 4, [.int .i32 0]⟩), (22, ⟨.slice 2, 1, 24, [.slice none 0 0]⟩), (23, ⟨.struct [(0, 22), (1, 22), (2, 22)], 3, 72, [.slice none 0 0, .slice none 0 0, .slice none 0 0]⟩), (24, ⟨.struct [(0, 22), (1, 22), (2, 22)], 3, 72, [.slice none 0 0, .slice none 0 0, .slice none 0 0]⟩), (25, ⟨.fn, 1, 8, [.nilFunc]⟩), (27, ⟨.fn, 1, 8, [.nilFunc]⟩), (28, ⟨.struct [(0, 22), (1, 22), (2, 22)], 3, 72, [.slice none 0 0, .slice none 0 0, .slice none 0 0]⟩), (29, ⟨.fn, 1, 8, [.nilFunc]⟩), (30, ⟨.fn, 1, 8, [.nilFunc]⟩), (31, ⟨.fn, 1, 8, [.nilFunc]⟩), (32, ⟨.fn, 1, 8, [.nilFunc]⟩), (33, ⟨.fn, 1, 8, [.nilFunc]⟩), (34, ⟨.fn, 1, 8, [.nilFunc]⟩), (35, ⟨.fn, 1, 8, [.nilFunc]⟩), (36, ⟨.fn, 1, 8, [.nilFunc]⟩), (37, ⟨.fn, 1, 8, [.nilFunc]⟩), (38, ⟨.fn, 1, 8, [.nilFunc]⟩), (39, ⟨.fn, 1, 8, [.nilFunc]⟩), (40, ⟨.struct [(0, 22)], 1, 24, [.slice none 0 0]⟩), (41, ⟨.struct [(0, 22)], 1, 24, [.slice none 0 0]⟩), (43, ⟨.fn, 1, 8, [.nilFunc]⟩), (44, ⟨.fn, 1, 8, [.nilFunc]⟩), (45, ⟨.fn, 1, 8, [.nilFunc]⟩), (46, ⟨.slice 5, 1, 24, [.slice none 0 0]⟩), (47, ⟨.fn, 1, 8, [.nilFunc]⟩), (48, ⟨.fn, 1, 8, [.nilFunc]⟩), (50, ⟨.fn, 1, 8, [.nilFunc]⟩), (52, ⟨.fn, 1, 8, [.nilFunc]⟩), (54, ⟨.fn, 1, 8, [.nilFunc]⟩), (55, ⟨.fn, 1, 8, [.nilFunc]⟩), (57, ⟨.fn, 1, 8, [.nilFunc]⟩), (58, ⟨.fn, 1, 8, [.nilFunc]⟩), (59, ⟨.fn, 1, 8, [.nilFunc]⟩), (60, ⟨.fn, 1, 8, [.nilFunc]⟩), (62, ⟨.fn, 1, 8, [.nilFunc]⟩), (63, ⟨.fn, 1, 8, [.nilFunc]⟩), (64, ⟨.fn, 1, 8, [.nilFunc]⟩), (66, ⟨.fn, 1, 8, [.nilFunc]⟩), (67, ⟨.fn, 1, 8, [.nilFunc]⟩), (69, ⟨.fn, 1, 8, [.nilFunc]⟩), (70, ⟨.fn, 1, 8, [.nilFunc]⟩), (71, ⟨.fn, 1, 8, [.nilFunc]⟩), (72, ⟨.fn, 1, 8, [.nilFunc]⟩), (73, ⟨.fn, 1, 8, [.nilFunc]⟩), (74, ⟨.fn, 1, 8, [.nilFunc]⟩), (76, ⟨.fn, 1, 8, [.nilFunc]⟩), (77, ⟨.fn, 1, 8, [.nilFunc]⟩), (78, ⟨.fn, 1, 8, [.nilFunc]⟩), (79, ⟨.fn, 1, 8, [.nilFunc]⟩), (80, ⟨.fn, 1, 8, [.nilFunc]⟩), (81, ⟨.fn, 1, 8, [.nilFunc]⟩), (82, ⟨.fn, 1, 8, [.nilFunc]⟩), (83, ⟨.fn, 1, 8, [.nilFunc]⟩), (84, ⟨.fn, 1, 8, [.nilFunc]⟩), (85, ⟨.fn, 1, 8, [.nilFunc]⟩), (86, ⟨.fn, 1, 8, [.nilFunc]⟩), (87, ⟨.fn, 1, 8, [.nilFunc]⟩), (88, ⟨.fn, 1, 8, [.nilFunc]⟩), (89, ⟨.fn, 1, 8, [.nilFunc]⟩), (90, ⟨.fn, 1, 8, [.nilFunc]⟩), (91, ⟨.fn, 1, 8, [.nilFunc]⟩), (92, ⟨.fn, 1, 8, [.nilFunc]⟩), (93, ⟨.fn, 1, 8, [.nilFunc]⟩), (94, ⟨.fn, 1, 8, [.nilFunc]⟩), (95, ⟨.fn, 1, 8, [.nilFunc]⟩), (96, ⟨.fn, 1, 8, [.nilFunc]⟩), (97, ⟨.fn, 1, 8, [.nilFunc]⟩), (98, ⟨.ptr 125, 1, 8, [.pointer none]⟩), (99, ⟨.fn, 1, 8, [.nilFunc]⟩), (100, ⟨.fn, 1, 8, [.nilFunc]⟩), (101, ⟨.fn, 1, 8, [.nilFunc]⟩), (102, ⟨.fn, 1, 8, [.nilFunc]⟩), (103, ⟨.fn, 1, 8, [.nilFunc]⟩), (104, ⟨.fn, 1, 8, [.nilFunc]⟩), (105, ⟨.fn, 1, 8, [.nilFunc]⟩), (106, ⟨.fn, 1, 8, [.nilFunc]⟩), (107, ⟨.fn, 1, 8, [.nilFunc]⟩), (108, ⟨.fn, 1, 8, [.nilFunc]⟩), (109, ⟨.fn, 1, 8, [.nilFunc]⟩), (110, ⟨.fn, 1, 8, [.nilFunc]⟩), (111, ⟨.fn, 1, 8, [.nilFunc]⟩), (112, ⟨.fn, 1, 8, [.nilFunc]⟩), (113, ⟨.slice 4, 1, 24, [.slice none 0 0]⟩), (114, ⟨.map 2 4, 1, 8, [.map none]⟩), (115, ⟨.fn, 1, 8, [.nilFunc]⟩), (116, ⟨.fn, 1, 8, [.nilFunc]⟩), (117, ⟨.fn, 1, 8, [.nilFunc]⟩), (118, ⟨.fn, 1, 8, [.nilFunc]⟩), (119, ⟨.fn, 1, 8, [.nilFunc]⟩), (120, ⟨.fn, 1, 8, [.nilFunc]⟩), (121, ⟨.fn, 1, 8, [.nilFunc]⟩), (122, ⟨.fn, 1, 8, [.nilFunc]⟩), (123, ⟨.int .u64, 1, 8, [.int .u64 0]⟩), (124, ⟨.struct [(0, 46), (1, 3), (2, 123)], 3, 40, [.slice none 0 0, .int .i64 0, .int .u64 0]⟩), (125, ⟨.struct [(0, 46), (1, 3), (2, 123)], 3, 40, [.slice none 0 0, .int .i64 0, .int .u64 0]⟩), (126, ⟨.fn, 1, 8, [.nilFunc]⟩), (127, ⟨.int .u64, 1, 8, [.int .u64 0]⟩), (129, ⟨.fn, 1, 8, [.nilFunc]⟩), (130, ⟨.fn, 1, 8, [.nilFunc]⟩), (131, ⟨.fn, 1, 8, [.nilFunc]⟩), (132, ⟨.fn, 1, 8, [.nilFunc]⟩), (133, ⟨.fn, 1, 8, [.nilFunc]⟩), (134, ⟨.int .u32, 1, 4, [.int .u32 0]⟩), (136, ⟨.fn, 1, 8, [.nilFunc]⟩), (138, ⟨.fn, 1, 8, [.nilFunc]⟩), (140, ⟨.fn, 1, 8, [.nilFunc]⟩), (141, ⟨.fn, 1, 8, [.nilFunc]⟩), (142, ⟨.fn, 1, 8, [.nilFunc]⟩), (143, ⟨.fn, 1, 8, [.nilFunc]⟩), (144, ⟨.fn, 1, 8, [.nilFunc]⟩), (145, ⟨.fn, 1, 8, [.nilFunc]⟩), (146, ⟨.struct [(0, 17), (1, 17), (2, 17), (3, 9)], 4, 40, [.pointer none, .pointer none, .pointer none, .string ByteArray.empty]⟩), (147, ⟨.struct [(0, 17), (1, 17), (2, 17), (3, 9)], 4, 40, [.pointer none, .pointer none, .pointer none, .string ByteArray.empty]⟩), (149, ⟨.struct [(0, 148)], 0, 0, []⟩), (150, ⟨.struct [(0, 148)], 0, 0, []⟩), (151, ⟨.fn, 1, 8, [.nilFunc]⟩), (152, ⟨.int .u8, 1, 1, [.int .u8 0]⟩), (153, ⟨.int .u8, 1, 1, [.int .u8 0]⟩), (154, ⟨.fn, 1, 8, [.nilFunc]⟩), (155, ⟨.ptr 5, 1, 8, [.pointer none]⟩), (156, ⟨.int .i32, 1, 4, [.int .i32 0]⟩), (157, ⟨.int .i32, 1, 4, [.int .i32 0]⟩), (158, ⟨.struct [(0, 12), (1, 12), (2, 134), (3, 152), (4, 5), (5, 5), (6, 153), (7, 154), (8, 155), (9, 156), (10, 157)], 11, 48, [.int .u64 0, .int .u64 0, .int .u32 0, .int .u8 0, .int .u8 0, .int .u8 0, .int .u8 0, .nilFunc, .pointer none, .int .i32 0, .int .i32 0]⟩), (159, ⟨.struct [(0, 12), (1, 12), (2, 134), (3, 152), (4, 5), (5, 5), (6, 153), (7, 154), (8, 155), (9, 156), (10, 157)], 11, 48, [.int .u64 0, .int .u64 0, .int .u32 0, .int .u8 0, .int .u8 0, .int .u8 0, .int .u8 0, .nilFunc, .pointer none, .int .i32 0, .int .i32 0]⟩), (160, ⟨.fn, 1, 8, [.nilFunc]⟩)]
def tb : TypeId → Option TI := Go.V.look tbl
theorem tbEq : tbl.map (fun p => entryOf Try.prog p.1) = tbl.map (fun p => some p.2) := by kernel_rfl
theorem tbOk : TbOK Try.prog tb := tb_of tbEq
theorem mixOk : Try.prog.follows .mixedOrders = true := by kernel_rfl

/-! laws_big: function 36 -/
noncomputable def laws_big.f (l0 : List Int) : Option (Bool) := some (decide (4096 < (l0.length : Int)))
noncomputable def S36 (k : Nat) : Does := ⟨[(false, [.dat (.list (.int .u8))])], [(false, [.dat .bool])], fun x => laws_big.f x⟩
noncomputable def E36 (k : Nat) : En := ⟨tb, orcOf [], lvOf [], k, 0, lvOf [], []⟩
theorem e36 (k : Nat) (x : dens (flatC (S36 k).ps)) : funK (E36 k) (S36 k) Try.f36 x = (S36 k).fn x := by
  kernel_rfl
theorem M36 (k : Nat) : Meets Try.prog 36 (S36 k) := meets_of Try.func36 (by kernel_rfl) tbOk orc_nil mixOk (fun x y h => (e36 k x).trans h) rfl

/-! spec_l01From: function 126 -/
noncomputable def spec_l01From.s0 (k : Nat) (r0 : (List Int) → (List Int) → Int → Int → Int → Option (((List Int) × Int × Int))) (x0 : List Int) (x3_0 : List Int) (x3_1 : Int) (x3_2 : Int) (x4 : Int) : Option (((List Int) × Int × Int)) := if x4 < (x0.length : Int) then (if x4 < 4096 then (if 0 ≤ x4 then (if x4 < (x0.length : Int) then (r0 x0 x3_0 x3_1 (IntKind.wrap .u64 ((IntKind.wrap .u64 ((IntKind.wrap .u64 (x3_2 * 1099511628211)) + (IntKind.wrap .u64 ((rd x0 x4))))) + 241)) (wrap64 (x4 + 1))) else (none)) else (none)) else (some (x3_0, x3_1, x3_2))) else (some (x3_0, x3_1, x3_2))
noncomputable def spec_l01From.l0 (k : Nat) : Nat → (List Int) → (List Int) → Int → Int → Int → Option (((List Int) × Int × Int))
  | 0, _, _, _, _, _ => none
  | n + 1, x0, x1, x2, x3, x4 => spec_l01From.s0 k (spec_l01From.l0 k n) x0 x1 x2 x3 x4
noncomputable def spec_l01From.g (k : Nat) (r0 : (List Int) → (List Int) → Int → Int → Int → Option (((List Int) × Int × Int))) (l0 : List Int) : Option (((List Int) × Int × Int)) := r0 l0 l0 0 (IntKind.wrap .u64 (14041 + (IntKind.wrap .u64 ((l0.length : Int))))) 0
noncomputable def spec_l01From.f (k : Nat) (l0 : List Int) : Option (((List Int) × Int × Int)) := spec_l01From.g k (spec_l01From.l0 k k) l0
noncomputable def S126 (k : Nat) : Does := ⟨[(false, [.dat (.list (.int .u8))])], [(false, [.cel (.struct (.pair (.list (.int .u8)) (.pair (.int .i64) (.int .u64))))])], fun x => spec_l01From.f k x⟩
noncomputable def E126 (k : Nat) : En := ⟨tb, orcOf [], lvOf [(0, [(0, []), (3, []), (4, [])])], k, 0, lvOf [], []⟩
noncomputable def n126_0 (x0 : List Int) (x3_0 : List Int) (x3_1 : Int) (x3_2 : Int) (x4 : Int) : St := ⟨38, lookA [(0, .dat (.list (.int .u8)) x0), (3, .box 0 0), (4, .dat (.int .i64) x4)], Go.V.look [(0, .cells [.dat (.list (.int .u8)) x3_0, .dat (.int .i64) x3_1, .dat (.int .u64) x3_2])]⟩
def p126_0 : List Bool := [true, true, false, true, false]
theorem r126_0 (k : Nat) (rec : St → Option (((List Int) × Int × Int))) (v : (List Int) × (List Int) × Int × Int × Int) : roundF (E126 k) (S126 k) Try.f126 p126_0 [] rec (n126_0 v.1 v.2.1 v.2.2.1 v.2.2.2.1 v.2.2.2.2) = spec_l01From.s0 k (fun a0 a1 a2 a3 a4 => rec (n126_0 a0 a1 a2 a3 a4)) v.1 v.2.1 v.2.2.1 v.2.2.2.1 v.2.2.2.2 := by
  kernel_rfl
theorem q126_0 (k : Nat) (n : Nat) : ∀ v : (List Int) × (List Int) × Int × Int × Int, loopF (E126 k) (S126 k) Try.f126 p126_0 [] n (n126_0 v.1 v.2.1 v.2.2.1 v.2.2.2.1 v.2.2.2.2) = spec_l01From.l0 k n v.1 v.2.1 v.2.2.1 v.2.2.2.1 v.2.2.2.2 :=
  loopF_eq (E126 k) (S126 k) Try.f126 p126_0 [] (fun v : (List Int) × (List Int) × Int × Int × Int => n126_0 v.1 v.2.1 v.2.2.1 v.2.2.2.1 v.2.2.2.2) (fun rec v => spec_l01From.s0 k (fun a0 a1 a2 a3 a4 => rec (a0, a1, a2, a3, a4)) v.1 v.2.1 v.2.2.1 v.2.2.2.1 v.2.2.2.2) (fun n v => spec_l01From.l0 k n v.1 v.2.1 v.2.2.1 v.2.2.2.1 v.2.2.2.2) (fun _ => rfl) (fun _ _ => rfl) (fun rec v => r126_0 k rec v) n
theorem e126 (k : Nat) (x : dens (flatC (S126 k).ps)) : funK (E126 k) (S126 k) Try.f126 x = (S126 k).fn x := by
  have h : funK (E126 k) (S126 k) Try.f126 x = spec_l01From.g k (fun a0 a1 a2 a3 a4 => loopF (E126 k) (S126 k) Try.f126 p126_0 [] k (n126_0 a0 a1 a2 a3 a4)) x := by kernel_rfl
  rw [h]
  rw [show (fun a0 a1 a2 a3 a4 => loopF (E126 k) (S126 k) Try.f126 p126_0 [] k (n126_0 a0 a1 a2 a3 a4)) = spec_l01From.l0 k k from funext fun a0 => funext fun a1 => funext fun a2 => funext fun a3 => funext fun a4 => q126_0 k k (a0, a1, a2, a3, a4)]
  rfl
theorem M126 (k : Nat) : Meets Try.prog 126 (S126 k) := meets_of Try.func126 (by kernel_rfl) tbOk orc_nil mixOk (fun x y h => (e126 k x).trans h) rfl

/-! spec_l01Next: function 139 -/
noncomputable def spec_l01Next.f (a0 : (List Int) × Int × Int) (a1 : Int) : Option (Int × ((List Int) × Int × Int)) := if a1 < 1 then (some (0, a0.1, a0.2.1, a0.2.2)) else (if a0.2.1 < (a0.1.length : Int) then (if 0 ≤ a0.2.1 then (if a0.2.1 < (a0.1.length : Int) then (if a1 = 0 then (none) else (some ((Int.tmod (wrap64 ((wrap64 ((andV .u64 (shrV .u64 (IntKind.wrap .u64 ((IntKind.wrap .u64 (a0.2.2 * 6364136223846793005)) + 1442695040888963407)) 33) 16777215))) + (wrap64 ((rd a0.1 a0.2.1))))) a1), a0.1, (wrap64 (a0.2.1 + 1)), (IntKind.wrap .u64 ((IntKind.wrap .u64 (a0.2.2 * 6364136223846793005)) + 1442695040888963407))))) else (none)) else (none)) else (if a1 = 0 then (none) else (some ((Int.tmod (wrap64 ((andV .u64 (shrV .u64 (IntKind.wrap .u64 ((IntKind.wrap .u64 (a0.2.2 * 6364136223846793005)) + 1442695040888963407)) 33) 16777215))) a1), a0.1, a0.2.1, (IntKind.wrap .u64 ((IntKind.wrap .u64 (a0.2.2 * 6364136223846793005)) + 1442695040888963407))))))
noncomputable def S139 (k : Nat) : Does := ⟨[(false, [.cel (.struct (.pair (.list (.int .u8)) (.pair (.int .i64) (.int .u64))))]), (false, [.dat (.int .i64)])], [(false, [.dat (.int .i64)])], fun x => spec_l01Next.f x.1 x.2⟩
noncomputable def E139 (k : Nat) : En := ⟨tb, orcOf [], lvOf [], k, 1, lvOf [], []⟩
theorem e139 (k : Nat) (x : dens (flatC (S139 k).ps)) : funK (E139 k) (S139 k) Try.f139 x = (S139 k).fn x := by
  kernel_rfl
theorem M139 (k : Nat) : Meets Try.prog 139 (S139 k) := meets_of Try.func139 (by kernel_rfl) tbOk orc_nil mixOk (fun x y h => (e139 k x).trans h) rfl

/-! spec_l01Pick: function 128 -/
noncomputable def spec_l01Pick.f (a0 : (List Int) × Int × Int) (l1 : List Int) : Option (Int × ((List Int) × Int × Int)) := (spec_l01Next.f (a0.1, a0.2.1, a0.2.2) (l1.length : Int)).bind fun t1 => if 0 ≤ t1.1 then (if t1.1 < (l1.length : Int) then (some ((rd l1 t1.1), t1.2.1, t1.2.2.1, t1.2.2.2)) else (none)) else (none)
noncomputable def S128 (k : Nat) : Does := ⟨[(false, [.cel (.struct (.pair (.list (.int .u8)) (.pair (.int .i64) (.int .u64))))]), (false, [.dat (.list (.int .i64))])], [(false, [.dat (.int .i64)])], fun x => spec_l01Pick.f x.1 x.2⟩
noncomputable def E128 (k : Nat) : En := ⟨tb, orcOf [(139, S139 k)], lvOf [], k, 1, lvOf [], []⟩
theorem e128 (k : Nat) (x : dens (flatC (S128 k).ps)) : funK (E128 k) (S128 k) Try.f128 x = (S128 k).fn x := by
  kernel_rfl
theorem M128 (k : Nat) : Meets Try.prog 128 (S128 k) := meets_of Try.func128 (by kernel_rfl) tbOk (orc_cons (M139 k) orc_nil) mixOk (fun x y h => (e128 k x).trans h) rfl

/-! spec_l01DrawTurns: function 172 -/
noncomputable def spec_l01DrawTurns.s0 (k : Nat) (r0 : (List Int) → Int → Int → Int → (List Int) → Int → Int → Option ((List Int) × ((List Int) × Int × Int))) (x0_0 : List Int) (x0_1 : Int) (x0_2 : Int) (x1 : Int) (x5 : List Int) (x6 : Int) (x7 : Int) : Option ((List Int) × ((List Int) × Int × Int)) := if 0 < x7 then ((spec_l01Next.f (x0_0, x0_1, x0_2) x1).bind fun t4 => (spec_l01Next.f (t4.2.1, t4.2.2.1, t4.2.2.2) (wrap64 (x6 + 3))).bind fun t5 => if t5.1 = 0 then (if x5.length + 1 ≤ 1099511627776 then (r0 t5.2.1 t5.2.2.1 t5.2.2.2 x1 (x5 ++ [(-1)]) x6 (wrap64 (x7 - 1))) else (none)) else (if x5.length + 1 ≤ 1099511627776 then (r0 t5.2.1 t5.2.2.1 t5.2.2.2 x1 (x5 ++ [t4.1]) x6 (wrap64 (x7 - 1))) else (none))) else (some (x5, x0_0, x0_1, x0_2))
noncomputable def spec_l01DrawTurns.l0 (k : Nat) : Nat → (List Int) → Int → Int → Int → (List Int) → Int → Int → Option ((List Int) × ((List Int) × Int × Int))
  | 0, _, _, _, _, _, _, _ => none
  | n + 1, x0, x1, x2, x3, x4, x5, x6 => spec_l01DrawTurns.s0 k (spec_l01DrawTurns.l0 k n) x0 x1 x2 x3 x4 x5 x6
noncomputable def spec_l01DrawTurns.g (k : Nat) (r0 : (List Int) → Int → Int → Int → (List Int) → Int → Int → Option ((List Int) × ((List Int) × Int × Int))) (a0 : (List Int) × Int × Int) (a1 : Int) : Option ((List Int) × ((List Int) × Int × Int)) := (spec_l01Pick.f (a0.1, a0.2.1, a0.2.2) [1, 4, 20]).bind fun t1 => (spec_l01Pick.f (t1.2.1, t1.2.2.1, t1.2.2.2) [6, 12, 40, 120]).bind fun t2 => (spec_l01Next.f (t2.2.1, t2.2.2.1, t2.2.2.2) t2.1).bind fun t3 => r0 t3.2.1 t3.2.2.1 t3.2.2.2 a1 [] t1.1 (wrap64 (1 + t3.1))
noncomputable def spec_l01DrawTurns.f (k : Nat) (a0 : (List Int) × Int × Int) (a1 : Int) : Option ((List Int) × ((List Int) × Int × Int)) := spec_l01DrawTurns.g k (spec_l01DrawTurns.l0 k k) a0 a1
noncomputable def S172 (k : Nat) : Does := ⟨[(false, [.cel (.struct (.pair (.list (.int .u8)) (.pair (.int .i64) (.int .u64))))]), (false, [.dat (.int .i64)])], [(false, [.own 2 (.int .i64)])], fun x => spec_l01DrawTurns.f k x.1 x.2⟩
noncomputable def E172 (k : Nat) : En := ⟨tb, orcOf [(128, S128 k), (139, S139 k)], lvOf [(0, [(0, []), (1, []), (5, []), (6, []), (7, [])])], k, 1, lvOf [], []⟩
noncomputable def n172_0 (x0_0 : List Int) (x0_1 : Int) (x0_2 : Int) (x1 : Int) (x5 : List Int) (x6 : Int) (x7 : Int) : St := ⟨36, lookA [(0, .box 0 0), (1, .dat (.int .i64) x1), (5, .own 1), (6, .dat (.int .i64) x6), (7, .dat (.int .i64) x7)], Go.V.look [(0, .cells [.dat (.list (.int .u8)) x0_0, .dat (.int .i64) x0_1, .dat (.int .u64) x0_2]), (1, .flat 2 (.int .i64) x5)]⟩
def p172_0 : List Bool := [true, true, false, true, false]
theorem r172_0 (k : Nat) (rec : St → Option ((List Int) × ((List Int) × Int × Int))) (v : (List Int) × Int × Int × Int × (List Int) × Int × Int) : roundF (E172 k) (S172 k) Try.f172 p172_0 [] rec (n172_0 v.1 v.2.1 v.2.2.1 v.2.2.2.1 v.2.2.2.2.1 v.2.2.2.2.2.1 v.2.2.2.2.2.2) = spec_l01DrawTurns.s0 k (fun a0 a1 a2 a3 a4 a5 a6 => rec (n172_0 a0 a1 a2 a3 a4 a5 a6)) v.1 v.2.1 v.2.2.1 v.2.2.2.1 v.2.2.2.2.1 v.2.2.2.2.2.1 v.2.2.2.2.2.2 := by
  kernel_rfl
theorem q172_0 (k : Nat) (n : Nat) : ∀ v : (List Int) × Int × Int × Int × (List Int) × Int × Int, loopF (E172 k) (S172 k) Try.f172 p172_0 [] n (n172_0 v.1 v.2.1 v.2.2.1 v.2.2.2.1 v.2.2.2.2.1 v.2.2.2.2.2.1 v.2.2.2.2.2.2) = spec_l01DrawTurns.l0 k n v.1 v.2.1 v.2.2.1 v.2.2.2.1 v.2.2.2.2.1 v.2.2.2.2.2.1 v.2.2.2.2.2.2 :=
  loopF_eq (E172 k) (S172 k) Try.f172 p172_0 [] (fun v : (List Int) × Int × Int × Int × (List Int) × Int × Int => n172_0 v.1 v.2.1 v.2.2.1 v.2.2.2.1 v.2.2.2.2.1 v.2.2.2.2.2.1 v.2.2.2.2.2.2) (fun rec v => spec_l01DrawTurns.s0 k (fun a0 a1 a2 a3 a4 a5 a6 => rec (a0, a1, a2, a3, a4, a5, a6)) v.1 v.2.1 v.2.2.1 v.2.2.2.1 v.2.2.2.2.1 v.2.2.2.2.2.1 v.2.2.2.2.2.2) (fun n v => spec_l01DrawTurns.l0 k n v.1 v.2.1 v.2.2.1 v.2.2.2.1 v.2.2.2.2.1 v.2.2.2.2.2.1 v.2.2.2.2.2.2) (fun _ => rfl) (fun _ _ => rfl) (fun rec v => r172_0 k rec v) n
theorem e172 (k : Nat) (x : dens (flatC (S172 k).ps)) : funK (E172 k) (S172 k) Try.f172 x = (S172 k).fn x := by
  have h : funK (E172 k) (S172 k) Try.f172 x = spec_l01DrawTurns.g k (fun a0 a1 a2 a3 a4 a5 a6 => loopF (E172 k) (S172 k) Try.f172 p172_0 [] k (n172_0 a0 a1 a2 a3 a4 a5 a6)) x.1 x.2 := by kernel_rfl
  rw [h]
  rw [show (fun a0 a1 a2 a3 a4 a5 a6 => loopF (E172 k) (S172 k) Try.f172 p172_0 [] k (n172_0 a0 a1 a2 a3 a4 a5 a6)) = spec_l01DrawTurns.l0 k k from funext fun a0 => funext fun a1 => funext fun a2 => funext fun a3 => funext fun a4 => funext fun a5 => funext fun a6 => q172_0 k k (a0, a1, a2, a3, a4, a5, a6)]
  rfl
theorem M172 (k : Nat) : Meets Try.prog 172 (S172 k) := meets_of Try.func172 (by kernel_rfl) tbOk (orc_cons (M128 k) (orc_cons (M139 k) orc_nil)) mixOk (fun x y h => (e172 k x).trans h) rfl

/-! spec_l01Near: function 127 -/
noncomputable def spec_l01Near.f (a0 : (List Int) × Int × Int) (a1 : Int) : Option (Int × ((List Int) × Int × Int)) := (spec_l01Next.f (a0.1, a0.2.1, a0.2.2) 14).bind fun t1 => if t1.1 = 0 then ((spec_l01Pick.f (t1.2.1, t1.2.2.1, t1.2.2.2) [(-1), (wrap64 (a1 + 1)), 1099511627776, (-4611686018427387904)]).bind fun t2 => some (t2.1, t2.2.1, t2.2.2.1, t2.2.2.2)) else ((spec_l01Next.f (t1.2.1, t1.2.2.1, t1.2.2.2) (wrap64 (a1 + 1))).bind fun t3 => some (t3.1, t3.2.1, t3.2.2.1, t3.2.2.2))
noncomputable def S127 (k : Nat) : Does := ⟨[(false, [.cel (.struct (.pair (.list (.int .u8)) (.pair (.int .i64) (.int .u64))))]), (false, [.dat (.int .i64)])], [(false, [.dat (.int .i64)])], fun x => spec_l01Near.f x.1 x.2⟩
noncomputable def E127 (k : Nat) : En := ⟨tb, orcOf [(139, S139 k), (128, S128 k)], lvOf [], k, 1, lvOf [], []⟩
theorem e127 (k : Nat) (x : dens (flatC (S127 k).ps)) : funK (E127 k) (S127 k) Try.f127 x = (S127 k).fn x := by
  kernel_rfl
theorem M127 (k : Nat) : Meets Try.prog 127 (S127 k) := meets_of Try.func127 (by kernel_rfl) tbOk (orc_cons (M139 k) (orc_cons (M128 k) orc_nil)) mixOk (fun x y h => (e127 k x).trans h) rfl

/-! spec_l01Own: function 155 -/
noncomputable def spec_l01Own.f (l0 : List Int) : Option ((List Int)) := if 0 + l0.length ≤ 1099511627776 then (some ([] ++ l0)) else (none)
noncomputable def S155 (k : Nat) : Does := ⟨[(false, [.dat (.list (.int .i64))])], [(false, [.own 2 (.int .i64)])], fun x => spec_l01Own.f x⟩
noncomputable def E155 (k : Nat) : En := ⟨tb, orcOf [], lvOf [], k, 0, lvOf [], []⟩
theorem e155 (k : Nat) (x : dens (flatC (S155 k).ps)) : funK (E155 k) (S155 k) Try.f155 x = (S155 k).fn x := by
  kernel_rfl
theorem M155 (k : Nat) : Meets Try.prog 155 (S155 k) := meets_of Try.func155 (by kernel_rfl) tbOk orc_nil mixOk (fun x y h => (e155 k x).trans h) rfl

/-! spec_l01BadTurns: function 173 -/
noncomputable def spec_l01BadTurns.s0 (k : Nat) (r0 : (List Int) → (List Int) → Int → Int → Option ((List Int) × ((List Int) × Int × Int))) (x5 : List Int) (b0_0 : List Int) (b0_1 : Int) (b0_2 : Int) : Option ((List Int) × ((List Int) × Int × Int)) := if (x5.length : Int) ≤ 120 then (if x5.length + 1 ≤ 1099511627776 then (r0 (x5 ++ [(-1)]) b0_0 b0_1 b0_2) else (none)) else (some (x5, b0_0, b0_1, b0_2))
noncomputable def spec_l01BadTurns.l0 (k : Nat) : Nat → (List Int) → (List Int) → Int → Int → Option ((List Int) × ((List Int) × Int × Int))
  | 0, _, _, _, _ => none
  | n + 1, x0, x1, x2, x3 => spec_l01BadTurns.s0 k (spec_l01BadTurns.l0 k n) x0 x1 x2 x3
noncomputable def spec_l01BadTurns.g (k : Nat) (r0 : (List Int) → (List Int) → Int → Int → Option ((List Int) × ((List Int) × Int × Int))) (a0 : (List Int) × Int × Int) (l1 : List Int) : Option ((List Int) × ((List Int) × Int × Int)) := (spec_l01Own.f l1).bind fun t1 => (spec_l01Next.f (a0.1, a0.2.1, a0.2.2) 40).bind fun t2 => if (decide (t2.1 = 0)) = true then (some ([], t2.2.1, t2.2.2.1, t2.2.2.2)) else (if (decide (t2.1 = 1)) = true then ((spec_l01Next.f (t2.2.1, t2.2.2.1, t2.2.2.2) (t1.length : Int)).bind fun t3 => (spec_l01Pick.f (t3.2.1, t3.2.2.1, t3.2.2.2) [(-2), 8, 1099511627776, 7]).bind fun t4 => if 0 ≤ t3.1 then (if t3.1 < (t1.length : Int) then (some ((t1.set t3.1.toNat t4.1), t4.2.1, t4.2.2.1, t4.2.2.2)) else (none)) else (none)) else (if (decide (t2.1 = 2)) = true then (r0 t1 t2.2.1 t2.2.2.1 t2.2.2.2) else (some (t1, t2.2.1, t2.2.2.1, t2.2.2.2))))
noncomputable def spec_l01BadTurns.f (k : Nat) (a0 : (List Int) × Int × Int) (l1 : List Int) : Option ((List Int) × ((List Int) × Int × Int)) := spec_l01BadTurns.g k (spec_l01BadTurns.l0 k k) a0 l1
noncomputable def S173 (k : Nat) : Does := ⟨[(false, [.cel (.struct (.pair (.list (.int .u8)) (.pair (.int .i64) (.int .u64))))]), (false, [.dat (.list (.int .i64))])], [(false, [.own 2 (.int .i64)])], fun x => spec_l01BadTurns.f k x.1 x.2⟩
noncomputable def E173 (k : Nat) : En := ⟨tb, orcOf [(155, S155 k), (139, S139 k), (128, S128 k)], lvOf [(1, [(5, [])])], k, 1, lvOf [], []⟩
noncomputable def n173_0 (x5 : List Int) (b0_0 : List Int) (b0_1 : Int) (b0_2 : Int) : St := ⟨33, lookA [(5, .own 1)], Go.V.look [(0, .cells [.dat (.list (.int .u8)) b0_0, .dat (.int .i64) b0_1, .dat (.int .u64) b0_2]), (1, .flat 2 (.int .i64) x5)]⟩
def p173_0 : List Bool := [true, true, false, true, false, true, true, true, true, true, false, false]
theorem r173_0 (k : Nat) (rec : St → Option ((List Int) × ((List Int) × Int × Int))) (v : (List Int) × (List Int) × Int × Int) : roundF (E173 k) (S173 k) Try.f173 p173_0 [] rec (n173_0 v.1 v.2.1 v.2.2.1 v.2.2.2) = spec_l01BadTurns.s0 k (fun a0 a1 a2 a3 => rec (n173_0 a0 a1 a2 a3)) v.1 v.2.1 v.2.2.1 v.2.2.2 := by
  kernel_rfl
theorem q173_0 (k : Nat) (n : Nat) : ∀ v : (List Int) × (List Int) × Int × Int, loopF (E173 k) (S173 k) Try.f173 p173_0 [] n (n173_0 v.1 v.2.1 v.2.2.1 v.2.2.2) = spec_l01BadTurns.l0 k n v.1 v.2.1 v.2.2.1 v.2.2.2 :=
  loopF_eq (E173 k) (S173 k) Try.f173 p173_0 [] (fun v : (List Int) × (List Int) × Int × Int => n173_0 v.1 v.2.1 v.2.2.1 v.2.2.2) (fun rec v => spec_l01BadTurns.s0 k (fun a0 a1 a2 a3 => rec (a0, a1, a2, a3)) v.1 v.2.1 v.2.2.1 v.2.2.2) (fun n v => spec_l01BadTurns.l0 k n v.1 v.2.1 v.2.2.1 v.2.2.2) (fun _ => rfl) (fun _ _ => rfl) (fun rec v => r173_0 k rec v) n
theorem e173 (k : Nat) (x : dens (flatC (S173 k).ps)) : funK (E173 k) (S173 k) Try.f173 x = (S173 k).fn x := by
  have h : funK (E173 k) (S173 k) Try.f173 x = spec_l01BadTurns.g k (fun a0 a1 a2 a3 => loopF (E173 k) (S173 k) Try.f173 p173_0 [] k (n173_0 a0 a1 a2 a3)) x.1 x.2 := by kernel_rfl
  rw [h]
  rw [show (fun a0 a1 a2 a3 => loopF (E173 k) (S173 k) Try.f173 p173_0 [] k (n173_0 a0 a1 a2 a3)) = spec_l01BadTurns.l0 k k from funext fun a0 => funext fun a1 => funext fun a2 => funext fun a3 => q173_0 k k (a0, a1, a2, a3)]
  rfl
theorem M173 (k : Nat) : Meets Try.prog 173 (S173 k) := meets_of Try.func173 (by kernel_rfl) tbOk (orc_cons (M155 k) (orc_cons (M139 k) (orc_cons (M128 k) orc_nil))) mixOk (fun x y h => (e173 k x).trans h) rfl

/-! spec_l10With: function 131 -/
noncomputable def spec_l10With.f (k : Nat) (l0 : List Int) : Option ((List Int) × Int) := (spec_l01From.f k l0).bind fun t1 => (spec_l01Next.f (t1.1, t1.2.1, t1.2.2) 5).bind fun t2 => (spec_l01DrawTurns.f k (t2.2.1, t2.2.2.1, t2.2.2.2) (wrap64 (1 + t2.1))).bind fun t3 => (spec_l01Next.f (t3.2.1, t3.2.2.1, t3.2.2.2) (t3.1.length : Int)).bind fun t4 => if 0 ≤ t4.1 then (if t4.1 < (t3.1.length : Int) then (if (rd t3.1 t4.1) < 0 then ((spec_l01Near.f (t4.2.1, t4.2.2.1, t4.2.2.2) 7).bind fun t5 => (spec_l01Pick.f (t5.2.1, t5.2.2.1, t5.2.2.2) [0, 1, t5.1]).bind fun t6 => (spec_l01BadTurns.f k (t6.2.1, t6.2.2.1, t6.2.2.2) t3.1).bind fun t7 => some (t7.1, t6.1)) else ((spec_l01Next.f (t4.2.1, t4.2.2.1, t4.2.2.2) 6).bind fun t8 => if t8.1 = 0 then ((spec_l01Near.f (t8.2.1, t8.2.2.1, t8.2.2.2) 7).bind fun t9 => (spec_l01Pick.f (t9.2.1, t9.2.2.1, t9.2.2.2) [0, 1, t9.1]).bind fun t10 => (spec_l01BadTurns.f k (t10.2.1, t10.2.2.1, t10.2.2.2) t3.1).bind fun t11 => some (t11.1, t10.1)) else ((spec_l01BadTurns.f k (t8.2.1, t8.2.2.1, t8.2.2.2) t3.1).bind fun t12 => some (t12.1, (rd t3.1 t4.1))))) else (none)) else (none)
noncomputable def S131 (k : Nat) : Does := ⟨[(false, [.dat (.list (.int .u8))])], [(false, [.own 2 (.int .i64)]), (false, [.dat (.int .i64)])], fun x => spec_l10With.f k x⟩
noncomputable def E131 (k : Nat) : En := ⟨tb, orcOf [(126, S126 k), (139, S139 k), (172, S172 k), (127, S127 k), (128, S128 k), (173, S173 k)], lvOf [], k, 0, lvOf [], []⟩
theorem e131 (k : Nat) (x : dens (flatC (S131 k).ps)) : funK (E131 k) (S131 k) Try.f131 x = (S131 k).fn x := by
  kernel_rfl
theorem M131 (k : Nat) : Meets Try.prog 131 (S131 k) := meets_of Try.func131 (by kernel_rfl) tbOk (orc_cons (M126 k) (orc_cons (M139 k) (orc_cons (M172 k) (orc_cons (M127 k) (orc_cons (M128 k) (orc_cons (M173 k) orc_nil)))))) mixOk (fun x y h => (e131 k x).trans h) rfl

/-! spec_DrawMeanWait: function 54 -/
noncomputable def spec_DrawMeanWait.f (k : Nat) (l0 : List Int) : Option ((List Int) × Int) := (spec_l10With.f k l0).bind fun t1 => some (t1.1, t1.2)
noncomputable def S54 (k : Nat) : Does := ⟨[(false, [.dat (.list (.int .u8))])], [(false, [.own 2 (.int .i64)]), (false, [.dat (.int .i64)])], fun x => spec_DrawMeanWait.f k x⟩
noncomputable def E54 (k : Nat) : En := ⟨tb, orcOf [(131, S131 k)], lvOf [], k, 0, lvOf [], []⟩
theorem e54 (k : Nat) (x : dens (flatC (S54 k).ps)) : funK (E54 k) (S54 k) Try.f54 x = (S54 k).fn x := by
  kernel_rfl
theorem M54 (k : Nat) : Meets Try.prog 54 (S54 k) := meets_of Try.func54 (by kernel_rfl) tbOk (orc_cons (M131 k) orc_nil) mixOk (fun x y h => (e54 k x).trans h) rfl

/-! impl_length_int64: function 101 -/
noncomputable def impl_length_int64.f (l0 : List Int) : Option (Int) := some (l0.length : Int)
noncomputable def S101 (k : Nat) : Does := ⟨[(false, [.dat (.list (.int .i64))])], [(false, [.dat (.int .i64)])], fun x => impl_length_int64.f x⟩
noncomputable def E101 (k : Nat) : En := ⟨tb, orcOf [], lvOf [], k, 0, lvOf [], []⟩
theorem e101 (k : Nat) (x : dens (flatC (S101 k).ps)) : funK (E101 k) (S101 k) Try.f101 x = (S101 k).fn x := by
  kernel_rfl
theorem M101 (k : Nat) : Meets Try.prog 101 (S101 k) := meets_of Try.func101 (by kernel_rfl) tbOk orc_nil mixOk (fun x y h => (e101 k x).trans h) rfl

/-! impl_within: function 104 -/
noncomputable def impl_within.f (a0 : Int) (a1 : Int) (a2 : Int) : Option (Bool) := if a1 ≤ a0 then (some (decide (a0 ≤ a2))) else (some false)
noncomputable def S104 (k : Nat) : Does := ⟨[(false, [.dat (.int .i64)]), (false, [.dat (.int .i64)]), (false, [.dat (.int .i64)])], [(false, [.dat .bool])], fun x => impl_within.f x.1 x.2.1 x.2.2⟩
noncomputable def E104 (k : Nat) : En := ⟨tb, orcOf [], lvOf [], k, 0, lvOf [], []⟩
theorem e104 (k : Nat) (x : dens (flatC (S104 k).ps)) : funK (E104 k) (S104 k) Try.f104 x = (S104 k).fn x := by
  kernel_rfl
theorem M104 (k : Nat) : Meets Try.prog 104 (S104 k) := meets_of Try.func104 (by kernel_rfl) tbOk orc_nil mixOk (fun x y h => (e104 k x).trans h) rfl

/-! impl_areTurns_1: function 177 -/
noncomputable def impl_areTurns_1.f (a0 : Int) (a1 : Int) : Option (Bool) := (impl_within.f a0 (-1) (wrap64 (a1 - 1))).bind fun t1 => some t1
noncomputable def S177 (k : Nat) : Does := ⟨[(false, [.dat (.int .i64)]), (false, [.dat (.ptr (.int .i64))])], [(false, [.dat .bool])], fun x => impl_areTurns_1.f x.1 x.2⟩
noncomputable def E177 (k : Nat) : En := ⟨tb, orcOf [(104, S104 k)], lvOf [], k, 0, lvOf [], []⟩
theorem e177 (k : Nat) (x : dens (flatC (S177 k).ps)) : funK (E177 k) (S177 k) Try.f177 x = (S177 k).fn x := by
  kernel_rfl
theorem M177 (k : Nat) : Meets Try.prog 177 (S177 k) := meets_of Try.func177 (by kernel_rfl) tbOk (orc_cons (M104 k) orc_nil) mixOk (fun x y h => (e177 k x).trans h) rfl

/-! impl_areAll_int64_1_impl_areTurns_1: function 185 -/
noncomputable def impl_areAll_int64_1_impl_areTurns_1.f (a0 : Int) (a1 : Int) : Option (Bool) := (impl_areTurns_1.f a0 a1).bind fun t1 => some (!decide (t1 = true))
noncomputable def S185_c177 (k : Nat) : Does := ⟨[(false, [.dat (.int .i64)]), (false, [.dat (.ptr (.clo 177 (.ptr (.int .i64))))])], [(false, [.dat .bool])], fun x => impl_areAll_int64_1_impl_areTurns_1.f x.1 x.2⟩
noncomputable def E185_c177 (k : Nat) : En := ⟨tb, orcOf [(177, S177 k)], lvOf [], k, 0, lvOf [], []⟩
theorem e185_c177 (k : Nat) (x : dens (flatC (S185_c177 k).ps)) : funK (E185_c177 k) (S185_c177 k) Try.f185 x = (S185_c177 k).fn x := by
  kernel_rfl
theorem M185_c177 (k : Nat) : Meets Try.prog 185 (S185_c177 k) := meets_of Try.func185 (by kernel_rfl) tbOk (orc_cons (M177 k) orc_nil) mixOk (fun x y h => (e185_c177 k x).trans h) rfl

/-! slices_IndexFunc_int64_int64_impl_areAll_int64_1_impl_areTurns_1: function 191 -/
noncomputable def slices_IndexFunc_int64_int64_impl_areAll_int64_1_impl_areTurns_1.s0 (k : Nat) (r0 : (List Int) → Int → Int → Int → Option (Int)) (x0 : List Int) (x1 : Int) (x7 : Int) (x8 : Int) : Option (Int) := if x8 < x7 then (if 0 ≤ x8 then (if x8 < (x0.length : Int) then ((impl_areAll_int64_1_impl_areTurns_1.f (rd x0 x8) x1).bind fun t1 => if t1 = true then (some x8) else (r0 x0 x1 x7 (wrap64 (x8 + 1)))) else (none)) else (none)) else (some (-1))
noncomputable def slices_IndexFunc_int64_int64_impl_areAll_int64_1_impl_areTurns_1.l0 (k : Nat) : Nat → (List Int) → Int → Int → Int → Option (Int)
  | 0, _, _, _, _ => none
  | n + 1, x0, x1, x2, x3 => slices_IndexFunc_int64_int64_impl_areAll_int64_1_impl_areTurns_1.s0 k (slices_IndexFunc_int64_int64_impl_areAll_int64_1_impl_areTurns_1.l0 k n) x0 x1 x2 x3
noncomputable def slices_IndexFunc_int64_int64_impl_areAll_int64_1_impl_areTurns_1.g (k : Nat) (r0 : (List Int) → Int → Int → Int → Option (Int)) (l0 : List Int) (a1 : Int) : Option (Int) := r0 l0 a1 (l0.length : Int) 0
noncomputable def slices_IndexFunc_int64_int64_impl_areAll_int64_1_impl_areTurns_1.f (k : Nat) (l0 : List Int) (a1 : Int) : Option (Int) := slices_IndexFunc_int64_int64_impl_areAll_int64_1_impl_areTurns_1.g k (slices_IndexFunc_int64_int64_impl_areAll_int64_1_impl_areTurns_1.l0 k k) l0 a1
noncomputable def S191_c185c177 (k : Nat) : Does := ⟨[(false, [.dat (.list (.int .i64))]), (false, [.dat (.clo 185 (.ptr (.clo 177 (.ptr (.int .i64)))))])], [(false, [.dat (.int .i64)])], fun x => slices_IndexFunc_int64_int64_impl_areAll_int64_1_impl_areTurns_1.f k x.1 x.2⟩
noncomputable def E191_c185c177 (k : Nat) : En := ⟨tb, orcOf [(185, S185_c177 k)], lvOf [(0, [(0, []), (1, []), (7, []), (8, [])])], k, 0, lvOf [], []⟩
noncomputable def n191_c185c177_0 (x0 : List Int) (x1 : Int) (x7 : Int) (x8 : Int) : St := ⟨19, lookA [(0, .dat (.list (.int .i64)) x0), (1, .dat (.clo 185 (.ptr (.clo 177 (.ptr (.int .i64))))) x1), (7, .dat (.int .i64) x7), (8, .dat (.int .i64) x8)], Go.V.look []⟩
def p191_c185c177_0 : List Bool := [true, false, true, false]
theorem r191_c185c177_0 (k : Nat) (rec : St → Option (Int)) (v : (List Int) × Int × Int × Int) : roundF (E191_c185c177 k) (S191_c185c177 k) Try.f191 p191_c185c177_0 [] rec (n191_c185c177_0 v.1 v.2.1 v.2.2.1 v.2.2.2) = slices_IndexFunc_int64_int64_impl_areAll_int64_1_impl_areTurns_1.s0 k (fun a0 a1 a2 a3 => rec (n191_c185c177_0 a0 a1 a2 a3)) v.1 v.2.1 v.2.2.1 v.2.2.2 := by
  kernel_rfl
theorem q191_c185c177_0 (k : Nat) (n : Nat) : ∀ v : (List Int) × Int × Int × Int, loopF (E191_c185c177 k) (S191_c185c177 k) Try.f191 p191_c185c177_0 [] n (n191_c185c177_0 v.1 v.2.1 v.2.2.1 v.2.2.2) = slices_IndexFunc_int64_int64_impl_areAll_int64_1_impl_areTurns_1.l0 k n v.1 v.2.1 v.2.2.1 v.2.2.2 :=
  loopF_eq (E191_c185c177 k) (S191_c185c177 k) Try.f191 p191_c185c177_0 [] (fun v : (List Int) × Int × Int × Int => n191_c185c177_0 v.1 v.2.1 v.2.2.1 v.2.2.2) (fun rec v => slices_IndexFunc_int64_int64_impl_areAll_int64_1_impl_areTurns_1.s0 k (fun a0 a1 a2 a3 => rec (a0, a1, a2, a3)) v.1 v.2.1 v.2.2.1 v.2.2.2) (fun n v => slices_IndexFunc_int64_int64_impl_areAll_int64_1_impl_areTurns_1.l0 k n v.1 v.2.1 v.2.2.1 v.2.2.2) (fun _ => rfl) (fun _ _ => rfl) (fun rec v => r191_c185c177_0 k rec v) n
theorem e191_c185c177 (k : Nat) (x : dens (flatC (S191_c185c177 k).ps)) : funK (E191_c185c177 k) (S191_c185c177 k) Try.f191 x = (S191_c185c177 k).fn x := by
  have h : funK (E191_c185c177 k) (S191_c185c177 k) Try.f191 x = slices_IndexFunc_int64_int64_impl_areAll_int64_1_impl_areTurns_1.g k (fun a0 a1 a2 a3 => loopF (E191_c185c177 k) (S191_c185c177 k) Try.f191 p191_c185c177_0 [] k (n191_c185c177_0 a0 a1 a2 a3)) x.1 x.2 := by kernel_rfl
  rw [h]
  rw [show (fun a0 a1 a2 a3 => loopF (E191_c185c177 k) (S191_c185c177 k) Try.f191 p191_c185c177_0 [] k (n191_c185c177_0 a0 a1 a2 a3)) = slices_IndexFunc_int64_int64_impl_areAll_int64_1_impl_areTurns_1.l0 k k from funext fun a0 => funext fun a1 => funext fun a2 => funext fun a3 => q191_c185c177_0 k k (a0, a1, a2, a3)]
  rfl
theorem M191_c185c177 (k : Nat) : Meets Try.prog 191 (S191_c185c177 k) := meets_of Try.func191 (by kernel_rfl) tbOk (orc_cons (M185_c177 k) orc_nil) mixOk (fun x y h => (e191_c185c177 k x).trans h) rfl

/-! slices_ContainsFunc_int64_int64_impl_areAll_int64_1_impl_areTurns_1: function 184 -/
noncomputable def slices_ContainsFunc_int64_int64_impl_areAll_int64_1_impl_areTurns_1.f (k : Nat) (l0 : List Int) (a1 : Int) : Option (Bool) := (slices_IndexFunc_int64_int64_impl_areAll_int64_1_impl_areTurns_1.f k l0 a1).bind fun t1 => some (decide (0 ≤ t1))
noncomputable def S184_c185c177 (k : Nat) : Does := ⟨[(false, [.dat (.list (.int .i64))]), (false, [.dat (.clo 185 (.ptr (.clo 177 (.ptr (.int .i64)))))])], [(false, [.dat .bool])], fun x => slices_ContainsFunc_int64_int64_impl_areAll_int64_1_impl_areTurns_1.f k x.1 x.2⟩
noncomputable def E184_c185c177 (k : Nat) : En := ⟨tb, orcOf [(191, S191_c185c177 k)], lvOf [], k, 0, lvOf [], []⟩
theorem e184_c185c177 (k : Nat) (x : dens (flatC (S184_c185c177 k).ps)) : funK (E184_c185c177 k) (S184_c185c177 k) Try.f184 x = (S184_c185c177 k).fn x := by
  kernel_rfl
theorem M184_c185c177 (k : Nat) : Meets Try.prog 184 (S184_c185c177 k) := meets_of Try.func184 (by kernel_rfl) tbOk (orc_cons (M191_c185c177 k) orc_nil) mixOk (fun x y h => (e184_c185c177 k x).trans h) rfl

/-! impl_areAll_int64_impl_areTurns_1: function 157 -/
noncomputable def impl_areAll_int64_impl_areTurns_1.f (k : Nat) (l0 : List Int) (a1 : Int) : Option (Bool) := (slices_ContainsFunc_int64_int64_impl_areAll_int64_1_impl_areTurns_1.f k l0 a1).bind fun t1 => some (!decide (t1 = true))
noncomputable def S157_c177 (k : Nat) : Does := ⟨[(false, [.dat (.list (.int .i64))]), (false, [.dat (.clo 177 (.ptr (.int .i64)))])], [(false, [.dat .bool])], fun x => impl_areAll_int64_impl_areTurns_1.f k x.1 x.2⟩
noncomputable def E157_c177 (k : Nat) : En := ⟨tb, orcOf [(184, S184_c185c177 k)], lvOf [], k, 0, lvOf [], []⟩
theorem e157_c177 (k : Nat) (x : dens (flatC (S157_c177 k).ps)) : funK (E157_c177 k) (S157_c177 k) Try.f157 x = (S157_c177 k).fn x := by
  kernel_rfl
theorem M157_c177 (k : Nat) : Meets Try.prog 157 (S157_c177 k) := meets_of Try.func157 (by kernel_rfl) tbOk (orc_cons (M184_c185c177 k) orc_nil) mixOk (fun x y h => (e157_c177 k x).trans h) rfl

/-! impl_areTurns: function 145 -/
noncomputable def impl_areTurns.f (k : Nat) (l0 : List Int) (a1 : Int) : Option (Bool) := (impl_length_int64.f l0).bind fun t1 => (impl_within.f t1 1 120).bind fun t2 => if t2 = true then ((impl_areAll_int64_impl_areTurns_1.f k l0 a1).bind fun t3 => some t3) else (some false)
noncomputable def S145 (k : Nat) : Does := ⟨[(false, [.dat (.list (.int .i64))]), (false, [.dat (.int .i64)])], [(false, [.dat .bool])], fun x => impl_areTurns.f k x.1 x.2⟩
noncomputable def E145 (k : Nat) : En := ⟨tb, orcOf [(101, S101 k), (104, S104 k), (157, S157_c177 k)], lvOf [], k, 0, lvOf [], []⟩
theorem e145 (k : Nat) (x : dens (flatC (S145 k).ps)) : funK (E145 k) (S145 k) Try.f145 x = (S145 k).fn x := by
  kernel_rfl
theorem M145 (k : Nat) : Meets Try.prog 145 (S145 k) := meets_of Try.func145 (by kernel_rfl) tbOk (orc_cons (M101 k) (orc_cons (M104 k) (orc_cons (M157_c177 k) orc_nil))) mixOk (fun x y h => (e145 k x).trans h) rfl

/-! impl_isAnyTask: function 174 -/
noncomputable def impl_isAnyTask.f (a0 : Int) : Option (Bool) := (impl_within.f a0 0 7).bind fun t1 => some t1
noncomputable def S174 (k : Nat) : Does := ⟨[(false, [.dat (.int .i64)])], [(false, [.dat .bool])], fun x => impl_isAnyTask.f x⟩
noncomputable def E174 (k : Nat) : En := ⟨tb, orcOf [(104, S104 k)], lvOf [], k, 0, lvOf [], []⟩
theorem e174 (k : Nat) (x : dens (flatC (S174 k).ps)) : funK (E174 k) (S174 k) Try.f174 x = (S174 k).fn x := by
  kernel_rfl
theorem M174 (k : Nat) : Meets Try.prog 174 (S174 k) := meets_of Try.func174 (by kernel_rfl) tbOk (orc_cons (M104 k) orc_nil) mixOk (fun x y h => (e174 k x).trans h) rfl

/-! impl_areAll_int64_1_impl_isAnyTask: function 185 -/
noncomputable def impl_areAll_int64_1_impl_isAnyTask.f (a0 : Int) (a1 : Unit) : Option (Bool) := (impl_isAnyTask.f a0).bind fun t1 => some (!decide (t1 = true))
noncomputable def S185_c174 (k : Nat) : Does := ⟨[(false, [.dat (.int .i64)]), (false, [.dat (.ptr (.clo 174 .unit))])], [(false, [.dat .bool])], fun x => impl_areAll_int64_1_impl_isAnyTask.f x.1 x.2⟩
noncomputable def E185_c174 (k : Nat) : En := ⟨tb, orcOf [(174, S174 k)], lvOf [], k, 0, lvOf [], []⟩
theorem e185_c174 (k : Nat) (x : dens (flatC (S185_c174 k).ps)) : funK (E185_c174 k) (S185_c174 k) Try.f185 x = (S185_c174 k).fn x := by
  kernel_rfl
theorem M185_c174 (k : Nat) : Meets Try.prog 185 (S185_c174 k) := meets_of Try.func185 (by kernel_rfl) tbOk (orc_cons (M174 k) orc_nil) mixOk (fun x y h => (e185_c174 k x).trans h) rfl

/-! slices_IndexFunc_int64_int64_impl_areAll_int64_1_impl_isAnyTask: function 191 -/
noncomputable def slices_IndexFunc_int64_int64_impl_areAll_int64_1_impl_isAnyTask.s0 (k : Nat) (r0 : (List Int) → Unit → Int → Int → Option (Int)) (x0 : List Int) (x1 : Unit) (x7 : Int) (x8 : Int) : Option (Int) := if x8 < x7 then (if 0 ≤ x8 then (if x8 < (x0.length : Int) then ((impl_areAll_int64_1_impl_isAnyTask.f (rd x0 x8) x1).bind fun t1 => if t1 = true then (some x8) else (r0 x0 x1 x7 (wrap64 (x8 + 1)))) else (none)) else (none)) else (some (-1))
noncomputable def slices_IndexFunc_int64_int64_impl_areAll_int64_1_impl_isAnyTask.l0 (k : Nat) : Nat → (List Int) → Unit → Int → Int → Option (Int)
  | 0, _, _, _, _ => none
  | n + 1, x0, x1, x2, x3 => slices_IndexFunc_int64_int64_impl_areAll_int64_1_impl_isAnyTask.s0 k (slices_IndexFunc_int64_int64_impl_areAll_int64_1_impl_isAnyTask.l0 k n) x0 x1 x2 x3
noncomputable def slices_IndexFunc_int64_int64_impl_areAll_int64_1_impl_isAnyTask.g (k : Nat) (r0 : (List Int) → Unit → Int → Int → Option (Int)) (l0 : List Int) (a1 : Unit) : Option (Int) := r0 l0 a1 (l0.length : Int) 0
noncomputable def slices_IndexFunc_int64_int64_impl_areAll_int64_1_impl_isAnyTask.f (k : Nat) (l0 : List Int) (a1 : Unit) : Option (Int) := slices_IndexFunc_int64_int64_impl_areAll_int64_1_impl_isAnyTask.g k (slices_IndexFunc_int64_int64_impl_areAll_int64_1_impl_isAnyTask.l0 k k) l0 a1
noncomputable def S191_c185c174 (k : Nat) : Does := ⟨[(false, [.dat (.list (.int .i64))]), (false, [.dat (.clo 185 (.ptr (.clo 174 .unit)))])], [(false, [.dat (.int .i64)])], fun x => slices_IndexFunc_int64_int64_impl_areAll_int64_1_impl_isAnyTask.f k x.1 x.2⟩
noncomputable def E191_c185c174 (k : Nat) : En := ⟨tb, orcOf [(185, S185_c174 k)], lvOf [(0, [(0, []), (1, []), (7, []), (8, [])])], k, 0, lvOf [], []⟩
noncomputable def n191_c185c174_0 (x0 : List Int) (x1 : Unit) (x7 : Int) (x8 : Int) : St := ⟨19, lookA [(0, .dat (.list (.int .i64)) x0), (1, .dat (.clo 185 (.ptr (.clo 174 .unit))) x1), (7, .dat (.int .i64) x7), (8, .dat (.int .i64) x8)], Go.V.look []⟩
def p191_c185c174_0 : List Bool := [true, false, true, false]
theorem r191_c185c174_0 (k : Nat) (rec : St → Option (Int)) (v : (List Int) × Unit × Int × Int) : roundF (E191_c185c174 k) (S191_c185c174 k) Try.f191 p191_c185c174_0 [] rec (n191_c185c174_0 v.1 v.2.1 v.2.2.1 v.2.2.2) = slices_IndexFunc_int64_int64_impl_areAll_int64_1_impl_isAnyTask.s0 k (fun a0 a1 a2 a3 => rec (n191_c185c174_0 a0 a1 a2 a3)) v.1 v.2.1 v.2.2.1 v.2.2.2 := by
  kernel_rfl
theorem q191_c185c174_0 (k : Nat) (n : Nat) : ∀ v : (List Int) × Unit × Int × Int, loopF (E191_c185c174 k) (S191_c185c174 k) Try.f191 p191_c185c174_0 [] n (n191_c185c174_0 v.1 v.2.1 v.2.2.1 v.2.2.2) = slices_IndexFunc_int64_int64_impl_areAll_int64_1_impl_isAnyTask.l0 k n v.1 v.2.1 v.2.2.1 v.2.2.2 :=
  loopF_eq (E191_c185c174 k) (S191_c185c174 k) Try.f191 p191_c185c174_0 [] (fun v : (List Int) × Unit × Int × Int => n191_c185c174_0 v.1 v.2.1 v.2.2.1 v.2.2.2) (fun rec v => slices_IndexFunc_int64_int64_impl_areAll_int64_1_impl_isAnyTask.s0 k (fun a0 a1 a2 a3 => rec (a0, a1, a2, a3)) v.1 v.2.1 v.2.2.1 v.2.2.2) (fun n v => slices_IndexFunc_int64_int64_impl_areAll_int64_1_impl_isAnyTask.l0 k n v.1 v.2.1 v.2.2.1 v.2.2.2) (fun _ => rfl) (fun _ _ => rfl) (fun rec v => r191_c185c174_0 k rec v) n
theorem e191_c185c174 (k : Nat) (x : dens (flatC (S191_c185c174 k).ps)) : funK (E191_c185c174 k) (S191_c185c174 k) Try.f191 x = (S191_c185c174 k).fn x := by
  have h : funK (E191_c185c174 k) (S191_c185c174 k) Try.f191 x = slices_IndexFunc_int64_int64_impl_areAll_int64_1_impl_isAnyTask.g k (fun a0 a1 a2 a3 => loopF (E191_c185c174 k) (S191_c185c174 k) Try.f191 p191_c185c174_0 [] k (n191_c185c174_0 a0 a1 a2 a3)) x.1 x.2 := by kernel_rfl
  rw [h]
  rw [show (fun a0 a1 a2 a3 => loopF (E191_c185c174 k) (S191_c185c174 k) Try.f191 p191_c185c174_0 [] k (n191_c185c174_0 a0 a1 a2 a3)) = slices_IndexFunc_int64_int64_impl_areAll_int64_1_impl_isAnyTask.l0 k k from funext fun a0 => funext fun a1 => funext fun a2 => funext fun a3 => q191_c185c174_0 k k (a0, a1, a2, a3)]
  rfl
theorem M191_c185c174 (k : Nat) : Meets Try.prog 191 (S191_c185c174 k) := meets_of Try.func191 (by kernel_rfl) tbOk (orc_cons (M185_c174 k) orc_nil) mixOk (fun x y h => (e191_c185c174 k x).trans h) rfl

/-! slices_ContainsFunc_int64_int64_impl_areAll_int64_1_impl_isAnyTask: function 184 -/
noncomputable def slices_ContainsFunc_int64_int64_impl_areAll_int64_1_impl_isAnyTask.f (k : Nat) (l0 : List Int) (a1 : Unit) : Option (Bool) := (slices_IndexFunc_int64_int64_impl_areAll_int64_1_impl_isAnyTask.f k l0 a1).bind fun t1 => some (decide (0 ≤ t1))
noncomputable def S184_c185c174 (k : Nat) : Does := ⟨[(false, [.dat (.list (.int .i64))]), (false, [.dat (.clo 185 (.ptr (.clo 174 .unit)))])], [(false, [.dat .bool])], fun x => slices_ContainsFunc_int64_int64_impl_areAll_int64_1_impl_isAnyTask.f k x.1 x.2⟩
noncomputable def E184_c185c174 (k : Nat) : En := ⟨tb, orcOf [(191, S191_c185c174 k)], lvOf [], k, 0, lvOf [], []⟩
theorem e184_c185c174 (k : Nat) (x : dens (flatC (S184_c185c174 k).ps)) : funK (E184_c185c174 k) (S184_c185c174 k) Try.f184 x = (S184_c185c174 k).fn x := by
  kernel_rfl
theorem M184_c185c174 (k : Nat) : Meets Try.prog 184 (S184_c185c174 k) := meets_of Try.func184 (by kernel_rfl) tbOk (orc_cons (M191_c185c174 k) orc_nil) mixOk (fun x y h => (e184_c185c174 k x).trans h) rfl

/-! impl_areAll_int64_impl_isAnyTask: function 157 -/
noncomputable def impl_areAll_int64_impl_isAnyTask.f (k : Nat) (l0 : List Int) (a1 : Unit) : Option (Bool) := (slices_ContainsFunc_int64_int64_impl_areAll_int64_1_impl_isAnyTask.f k l0 a1).bind fun t1 => some (!decide (t1 = true))
noncomputable def S157_c174 (k : Nat) : Does := ⟨[(false, [.dat (.list (.int .i64))]), (false, [.dat (.clo 174 .unit)])], [(false, [.dat .bool])], fun x => impl_areAll_int64_impl_isAnyTask.f k x.1 x.2⟩
noncomputable def E157_c174 (k : Nat) : En := ⟨tb, orcOf [(184, S184_c185c174 k)], lvOf [], k, 0, lvOf [], []⟩
theorem e157_c174 (k : Nat) (x : dens (flatC (S157_c174 k).ps)) : funK (E157_c174 k) (S157_c174 k) Try.f157 x = (S157_c174 k).fn x := by
  kernel_rfl
theorem M157_c174 (k : Nat) : Meets Try.prog 157 (S157_c174 k) := meets_of Try.func157 (by kernel_rfl) tbOk (orc_cons (M184_c185c174 k) orc_nil) mixOk (fun x y h => (e157_c174 k x).trans h) rfl

/-! slices_Index_int64_int64: function 159 -/
noncomputable def slices_Index_int64_int64.s0 (k : Nat) (r0 : (List Int) → Int → Int → Int → Option (Int)) (x0 : List Int) (x1 : Int) (x7 : Int) (x8 : Int) : Option (Int) := if x8 < x7 then (if 0 ≤ x8 then (if x8 < (x0.length : Int) then (if x1 = (rd x0 x8) then (some x8) else (r0 x0 x1 x7 (wrap64 (x8 + 1)))) else (none)) else (none)) else (some (-1))
noncomputable def slices_Index_int64_int64.l0 (k : Nat) : Nat → (List Int) → Int → Int → Int → Option (Int)
  | 0, _, _, _, _ => none
  | n + 1, x0, x1, x2, x3 => slices_Index_int64_int64.s0 k (slices_Index_int64_int64.l0 k n) x0 x1 x2 x3
noncomputable def slices_Index_int64_int64.g (k : Nat) (r0 : (List Int) → Int → Int → Int → Option (Int)) (l0 : List Int) (a1 : Int) : Option (Int) := r0 l0 a1 (l0.length : Int) 0
noncomputable def slices_Index_int64_int64.f (k : Nat) (l0 : List Int) (a1 : Int) : Option (Int) := slices_Index_int64_int64.g k (slices_Index_int64_int64.l0 k k) l0 a1
noncomputable def S159 (k : Nat) : Does := ⟨[(false, [.dat (.list (.int .i64))]), (false, [.dat (.int .i64)])], [(false, [.dat (.int .i64)])], fun x => slices_Index_int64_int64.f k x.1 x.2⟩
noncomputable def E159 (k : Nat) : En := ⟨tb, orcOf [], lvOf [(0, [(0, []), (1, []), (7, []), (8, [])])], k, 0, lvOf [], []⟩
noncomputable def n159_0 (x0 : List Int) (x1 : Int) (x7 : Int) (x8 : Int) : St := ⟨19, lookA [(0, .dat (.list (.int .i64)) x0), (1, .dat (.int .i64) x1), (7, .dat (.int .i64) x7), (8, .dat (.int .i64) x8)], Go.V.look []⟩
def p159_0 : List Bool := [true, false, true, false]
theorem r159_0 (k : Nat) (rec : St → Option (Int)) (v : (List Int) × Int × Int × Int) : roundF (E159 k) (S159 k) Try.f159 p159_0 [] rec (n159_0 v.1 v.2.1 v.2.2.1 v.2.2.2) = slices_Index_int64_int64.s0 k (fun a0 a1 a2 a3 => rec (n159_0 a0 a1 a2 a3)) v.1 v.2.1 v.2.2.1 v.2.2.2 := by
  kernel_rfl
theorem q159_0 (k : Nat) (n : Nat) : ∀ v : (List Int) × Int × Int × Int, loopF (E159 k) (S159 k) Try.f159 p159_0 [] n (n159_0 v.1 v.2.1 v.2.2.1 v.2.2.2) = slices_Index_int64_int64.l0 k n v.1 v.2.1 v.2.2.1 v.2.2.2 :=
  loopF_eq (E159 k) (S159 k) Try.f159 p159_0 [] (fun v : (List Int) × Int × Int × Int => n159_0 v.1 v.2.1 v.2.2.1 v.2.2.2) (fun rec v => slices_Index_int64_int64.s0 k (fun a0 a1 a2 a3 => rec (a0, a1, a2, a3)) v.1 v.2.1 v.2.2.1 v.2.2.2) (fun n v => slices_Index_int64_int64.l0 k n v.1 v.2.1 v.2.2.1 v.2.2.2) (fun _ => rfl) (fun _ _ => rfl) (fun rec v => r159_0 k rec v) n
theorem e159 (k : Nat) (x : dens (flatC (S159 k).ps)) : funK (E159 k) (S159 k) Try.f159 x = (S159 k).fn x := by
  have h : funK (E159 k) (S159 k) Try.f159 x = slices_Index_int64_int64.g k (fun a0 a1 a2 a3 => loopF (E159 k) (S159 k) Try.f159 p159_0 [] k (n159_0 a0 a1 a2 a3)) x.1 x.2 := by kernel_rfl
  rw [h]
  rw [show (fun a0 a1 a2 a3 => loopF (E159 k) (S159 k) Try.f159 p159_0 [] k (n159_0 a0 a1 a2 a3)) = slices_Index_int64_int64.l0 k k from funext fun a0 => funext fun a1 => funext fun a2 => funext fun a3 => q159_0 k k (a0, a1, a2, a3)]
  rfl
theorem M159 (k : Nat) : Meets Try.prog 159 (S159 k) := meets_of Try.func159 (by kernel_rfl) tbOk orc_nil mixOk (fun x y h => (e159 k x).trans h) rfl

/-! slices_Contains_int64_int64: function 103 -/
noncomputable def slices_Contains_int64_int64.f (k : Nat) (l0 : List Int) (a1 : Int) : Option (Bool) := (slices_Index_int64_int64.f k l0 a1).bind fun t1 => some (decide (0 ≤ t1))
noncomputable def S103 (k : Nat) : Does := ⟨[(false, [.dat (.list (.int .i64))]), (false, [.dat (.int .i64)])], [(false, [.dat .bool])], fun x => slices_Contains_int64_int64.f k x.1 x.2⟩
noncomputable def E103 (k : Nat) : En := ⟨tb, orcOf [(159, S159 k)], lvOf [], k, 0, lvOf [], []⟩
theorem e103 (k : Nat) (x : dens (flatC (S103 k).ps)) : funK (E103 k) (S103 k) Try.f103 x = (S103 k).fn x := by
  kernel_rfl
theorem M103 (k : Nat) : Meets Try.prog 103 (S103 k) := meets_of Try.func103 (by kernel_rfl) tbOk (orc_cons (M159 k) orc_nil) mixOk (fun x y h => (e103 k x).trans h) rfl

/-! impl_waitCode_1: function 175 -/
noncomputable def impl_waitCode_1.f (k : Nat) (a0 : Int) (a1 : List Int) : Option (Bool) := (slices_Contains_int64_int64.f k a1 a0).bind fun t1 => some t1
noncomputable def S175 (k : Nat) : Does := ⟨[(false, [.dat (.int .i64)]), (false, [.dat (.ptr (.list (.int .i64)))])], [(false, [.dat .bool])], fun x => impl_waitCode_1.f k x.1 x.2⟩
noncomputable def E175 (k : Nat) : En := ⟨tb, orcOf [(103, S103 k)], lvOf [], k, 0, lvOf [], []⟩
theorem e175 (k : Nat) (x : dens (flatC (S175 k).ps)) : funK (E175 k) (S175 k) Try.f175 x = (S175 k).fn x := by
  kernel_rfl
theorem M175 (k : Nat) : Meets Try.prog 175 (S175 k) := meets_of Try.func175 (by kernel_rfl) tbOk (orc_cons (M103 k) orc_nil) mixOk (fun x y h => (e175 k x).trans h) rfl

/-! impl_areAll_int64_1_impl_waitCode_1: function 185 -/
noncomputable def impl_areAll_int64_1_impl_waitCode_1.f (k : Nat) (a0 : Int) (a1 : List Int) : Option (Bool) := (impl_waitCode_1.f k a0 a1).bind fun t1 => some (!decide (t1 = true))
noncomputable def S185_c175 (k : Nat) : Does := ⟨[(false, [.dat (.int .i64)]), (false, [.dat (.ptr (.clo 175 (.ptr (.list (.int .i64)))))])], [(false, [.dat .bool])], fun x => impl_areAll_int64_1_impl_waitCode_1.f k x.1 x.2⟩
noncomputable def E185_c175 (k : Nat) : En := ⟨tb, orcOf [(175, S175 k)], lvOf [], k, 0, lvOf [], []⟩
theorem e185_c175 (k : Nat) (x : dens (flatC (S185_c175 k).ps)) : funK (E185_c175 k) (S185_c175 k) Try.f185 x = (S185_c175 k).fn x := by
  kernel_rfl
theorem M185_c175 (k : Nat) : Meets Try.prog 185 (S185_c175 k) := meets_of Try.func185 (by kernel_rfl) tbOk (orc_cons (M175 k) orc_nil) mixOk (fun x y h => (e185_c175 k x).trans h) rfl

/-! slices_IndexFunc_int64_int64_impl_areAll_int64_1_impl_waitCode_1: function 191 -/
noncomputable def slices_IndexFunc_int64_int64_impl_areAll_int64_1_impl_waitCode_1.s0 (k : Nat) (r0 : (List Int) → (List Int) → Int → Int → Option (Int)) (x0 : List Int) (x1 : List Int) (x7 : Int) (x8 : Int) : Option (Int) := if x8 < x7 then (if 0 ≤ x8 then (if x8 < (x0.length : Int) then ((impl_areAll_int64_1_impl_waitCode_1.f k (rd x0 x8) x1).bind fun t1 => if t1 = true then (some x8) else (r0 x0 x1 x7 (wrap64 (x8 + 1)))) else (none)) else (none)) else (some (-1))
noncomputable def slices_IndexFunc_int64_int64_impl_areAll_int64_1_impl_waitCode_1.l0 (k : Nat) : Nat → (List Int) → (List Int) → Int → Int → Option (Int)
  | 0, _, _, _, _ => none
  | n + 1, x0, x1, x2, x3 => slices_IndexFunc_int64_int64_impl_areAll_int64_1_impl_waitCode_1.s0 k (slices_IndexFunc_int64_int64_impl_areAll_int64_1_impl_waitCode_1.l0 k n) x0 x1 x2 x3
noncomputable def slices_IndexFunc_int64_int64_impl_areAll_int64_1_impl_waitCode_1.g (k : Nat) (r0 : (List Int) → (List Int) → Int → Int → Option (Int)) (l0 : List Int) (a1 : List Int) : Option (Int) := r0 l0 a1 (l0.length : Int) 0
noncomputable def slices_IndexFunc_int64_int64_impl_areAll_int64_1_impl_waitCode_1.f (k : Nat) (l0 : List Int) (a1 : List Int) : Option (Int) := slices_IndexFunc_int64_int64_impl_areAll_int64_1_impl_waitCode_1.g k (slices_IndexFunc_int64_int64_impl_areAll_int64_1_impl_waitCode_1.l0 k k) l0 a1
noncomputable def S191_c185c175 (k : Nat) : Does := ⟨[(false, [.dat (.list (.int .i64))]), (false, [.dat (.clo 185 (.ptr (.clo 175 (.ptr (.list (.int .i64))))))])], [(false, [.dat (.int .i64)])], fun x => slices_IndexFunc_int64_int64_impl_areAll_int64_1_impl_waitCode_1.f k x.1 x.2⟩
noncomputable def E191_c185c175 (k : Nat) : En := ⟨tb, orcOf [(185, S185_c175 k)], lvOf [(0, [(0, []), (1, []), (7, []), (8, [])])], k, 0, lvOf [], []⟩
noncomputable def n191_c185c175_0 (x0 : List Int) (x1 : List Int) (x7 : Int) (x8 : Int) : St := ⟨19, lookA [(0, .dat (.list (.int .i64)) x0), (1, .dat (.clo 185 (.ptr (.clo 175 (.ptr (.list (.int .i64)))))) x1), (7, .dat (.int .i64) x7), (8, .dat (.int .i64) x8)], Go.V.look []⟩
def p191_c185c175_0 : List Bool := [true, false, true, false]
theorem r191_c185c175_0 (k : Nat) (rec : St → Option (Int)) (v : (List Int) × (List Int) × Int × Int) : roundF (E191_c185c175 k) (S191_c185c175 k) Try.f191 p191_c185c175_0 [] rec (n191_c185c175_0 v.1 v.2.1 v.2.2.1 v.2.2.2) = slices_IndexFunc_int64_int64_impl_areAll_int64_1_impl_waitCode_1.s0 k (fun a0 a1 a2 a3 => rec (n191_c185c175_0 a0 a1 a2 a3)) v.1 v.2.1 v.2.2.1 v.2.2.2 := by
  kernel_rfl
theorem q191_c185c175_0 (k : Nat) (n : Nat) : ∀ v : (List Int) × (List Int) × Int × Int, loopF (E191_c185c175 k) (S191_c185c175 k) Try.f191 p191_c185c175_0 [] n (n191_c185c175_0 v.1 v.2.1 v.2.2.1 v.2.2.2) = slices_IndexFunc_int64_int64_impl_areAll_int64_1_impl_waitCode_1.l0 k n v.1 v.2.1 v.2.2.1 v.2.2.2 :=
  loopF_eq (E191_c185c175 k) (S191_c185c175 k) Try.f191 p191_c185c175_0 [] (fun v : (List Int) × (List Int) × Int × Int => n191_c185c175_0 v.1 v.2.1 v.2.2.1 v.2.2.2) (fun rec v => slices_IndexFunc_int64_int64_impl_areAll_int64_1_impl_waitCode_1.s0 k (fun a0 a1 a2 a3 => rec (a0, a1, a2, a3)) v.1 v.2.1 v.2.2.1 v.2.2.2) (fun n v => slices_IndexFunc_int64_int64_impl_areAll_int64_1_impl_waitCode_1.l0 k n v.1 v.2.1 v.2.2.1 v.2.2.2) (fun _ => rfl) (fun _ _ => rfl) (fun rec v => r191_c185c175_0 k rec v) n
theorem e191_c185c175 (k : Nat) (x : dens (flatC (S191_c185c175 k).ps)) : funK (E191_c185c175 k) (S191_c185c175 k) Try.f191 x = (S191_c185c175 k).fn x := by
  have h : funK (E191_c185c175 k) (S191_c185c175 k) Try.f191 x = slices_IndexFunc_int64_int64_impl_areAll_int64_1_impl_waitCode_1.g k (fun a0 a1 a2 a3 => loopF (E191_c185c175 k) (S191_c185c175 k) Try.f191 p191_c185c175_0 [] k (n191_c185c175_0 a0 a1 a2 a3)) x.1 x.2 := by kernel_rfl
  rw [h]
  rw [show (fun a0 a1 a2 a3 => loopF (E191_c185c175 k) (S191_c185c175 k) Try.f191 p191_c185c175_0 [] k (n191_c185c175_0 a0 a1 a2 a3)) = slices_IndexFunc_int64_int64_impl_areAll_int64_1_impl_waitCode_1.l0 k k from funext fun a0 => funext fun a1 => funext fun a2 => funext fun a3 => q191_c185c175_0 k k (a0, a1, a2, a3)]
  rfl
theorem M191_c185c175 (k : Nat) : Meets Try.prog 191 (S191_c185c175 k) := meets_of Try.func191 (by kernel_rfl) tbOk (orc_cons (M185_c175 k) orc_nil) mixOk (fun x y h => (e191_c185c175 k x).trans h) rfl

/-! slices_ContainsFunc_int64_int64_impl_areAll_int64_1_impl_waitCode_1: function 184 -/
noncomputable def slices_ContainsFunc_int64_int64_impl_areAll_int64_1_impl_waitCode_1.f (k : Nat) (l0 : List Int) (a1 : List Int) : Option (Bool) := (slices_IndexFunc_int64_int64_impl_areAll_int64_1_impl_waitCode_1.f k l0 a1).bind fun t1 => some (decide (0 ≤ t1))
noncomputable def S184_c185c175 (k : Nat) : Does := ⟨[(false, [.dat (.list (.int .i64))]), (false, [.dat (.clo 185 (.ptr (.clo 175 (.ptr (.list (.int .i64))))))])], [(false, [.dat .bool])], fun x => slices_ContainsFunc_int64_int64_impl_areAll_int64_1_impl_waitCode_1.f k x.1 x.2⟩
noncomputable def E184_c185c175 (k : Nat) : En := ⟨tb, orcOf [(191, S191_c185c175 k)], lvOf [], k, 0, lvOf [], []⟩
theorem e184_c185c175 (k : Nat) (x : dens (flatC (S184_c185c175 k).ps)) : funK (E184_c185c175 k) (S184_c185c175 k) Try.f184 x = (S184_c185c175 k).fn x := by
  kernel_rfl
theorem M184_c185c175 (k : Nat) : Meets Try.prog 184 (S184_c185c175 k) := meets_of Try.func184 (by kernel_rfl) tbOk (orc_cons (M191_c185c175 k) orc_nil) mixOk (fun x y h => (e184_c185c175 k x).trans h) rfl

/-! impl_areAll_int64_impl_waitCode_1: function 157 -/
noncomputable def impl_areAll_int64_impl_waitCode_1.f (k : Nat) (l0 : List Int) (a1 : List Int) : Option (Bool) := (slices_ContainsFunc_int64_int64_impl_areAll_int64_1_impl_waitCode_1.f k l0 a1).bind fun t1 => some (!decide (t1 = true))
noncomputable def S157_c175 (k : Nat) : Does := ⟨[(false, [.dat (.list (.int .i64))]), (false, [.dat (.clo 175 (.ptr (.list (.int .i64))))])], [(false, [.dat .bool])], fun x => impl_areAll_int64_impl_waitCode_1.f k x.1 x.2⟩
noncomputable def E157_c175 (k : Nat) : En := ⟨tb, orcOf [(184, S184_c185c175 k)], lvOf [], k, 0, lvOf [], []⟩
theorem e157_c175 (k : Nat) (x : dens (flatC (S157_c175 k).ps)) : funK (E157_c175 k) (S157_c175 k) Try.f157 x = (S157_c175 k).fn x := by
  kernel_rfl
theorem M157_c175 (k : Nat) : Meets Try.prog 157 (S157_c175 k) := meets_of Try.func157 (by kernel_rfl) tbOk (orc_cons (M184_c185c175 k) orc_nil) mixOk (fun x y h => (e157_c175 k x).trans h) rfl

/-! impl_waitCode: function 132 -/
noncomputable def impl_waitCode.f (k : Nat) (l0 : List Int) (a1 : Bool) (l2 : List Int) : Option (Int) := (impl_areTurns.f k l0 8).bind fun t1 => if t1 = true then (if a1 = true then ((impl_areAll_int64_impl_isAnyTask.f k l2 ()).bind fun t2 => if (!decide (t2 = true)) = true then (some 2) else ((impl_areAll_int64_impl_waitCode_1.f k l2 l0).bind fun t3 => if (!decide (t3 = true)) = true then (some 4) else (some 0))) else (some 2)) else (some 2)
noncomputable def S132 (k : Nat) : Does := ⟨[(false, [.dat (.list (.int .i64))]), (false, [.dat .bool]), (false, [.dat (.list (.int .i64))])], [(false, [.dat (.int .i64)])], fun x => impl_waitCode.f k x.1 x.2.1 x.2.2⟩
noncomputable def E132 (k : Nat) : En := ⟨tb, orcOf [(145, S145 k), (157, S157_c174 k), (157, S157_c175 k)], lvOf [], k, 0, lvOf [], []⟩
theorem e132 (k : Nat) (x : dens (flatC (S132 k).ps)) : funK (E132 k) (S132 k) Try.f132 x = (S132 k).fn x := by
  kernel_rfl
theorem M132 (k : Nat) : Meets Try.prog 132 (S132 k) := meets_of Try.func132 (by kernel_rfl) tbOk (orc_cons (M145 k) (orc_cons (M157_c174 k) (orc_cons (M157_c175 k) orc_nil))) mixOk (fun x y h => (e132 k x).trans h) rfl

/-! impl_wait: function 137 -/
noncomputable def impl_wait.s0 (k : Nat) (r0 : (List Int) → Int → Int → Int → Option (Int)) (x0 : List Int) (x1 : Int) (x2 : Int) (x7 : Int) : Option (Int) := (impl_length_int64.f x0).bind fun t1 => if t1 = 0 then (none) else (if 0 ≤ (Int.tmod (wrap64 (x2 + x7)) t1) then (if (Int.tmod (wrap64 (x2 + x7)) t1) < (x0.length : Int) then (if (rd x0 (Int.tmod (wrap64 (x2 + x7)) t1)) = x1 then (some x7) else (r0 x0 x1 x2 (wrap64 (x7 + 1)))) else (none)) else (none))
noncomputable def impl_wait.l0 (k : Nat) : Nat → (List Int) → Int → Int → Int → Option (Int)
  | 0, _, _, _, _ => none
  | n + 1, x0, x1, x2, x3 => impl_wait.s0 k (impl_wait.l0 k n) x0 x1 x2 x3
noncomputable def impl_wait.g (k : Nat) (r0 : (List Int) → Int → Int → Int → Option (Int)) (l0 : List Int) (a1 : Int) (a2 : Int) : Option (Int) := r0 l0 a1 a2 0
noncomputable def impl_wait.f (k : Nat) (l0 : List Int) (a1 : Int) (a2 : Int) : Option (Int) := impl_wait.g k (impl_wait.l0 k k) l0 a1 a2
noncomputable def S137 (k : Nat) : Does := ⟨[(false, [.dat (.list (.int .i64))]), (false, [.dat (.int .i64)]), (false, [.dat (.int .i64)])], [(false, [.dat (.int .i64)])], fun x => impl_wait.f k x.1 x.2.1 x.2.2⟩
noncomputable def E137 (k : Nat) : En := ⟨tb, orcOf [(101, S101 k)], lvOf [(0, [(0, []), (1, []), (2, []), (7, [])])], k, 0, lvOf [], []⟩
noncomputable def n137_0 (x0 : List Int) (x1 : Int) (x2 : Int) (x7 : Int) : St := ⟨22, lookA [(0, .dat (.list (.int .i64)) x0), (1, .dat (.int .i64) x1), (2, .dat (.int .i64) x2), (7, .dat (.int .i64) x7)], Go.V.look []⟩
def p137_0 : List Bool := [true, true, false, false]
theorem r137_0 (k : Nat) (rec : St → Option (Int)) (v : (List Int) × Int × Int × Int) : roundF (E137 k) (S137 k) Try.f137 p137_0 [] rec (n137_0 v.1 v.2.1 v.2.2.1 v.2.2.2) = impl_wait.s0 k (fun a0 a1 a2 a3 => rec (n137_0 a0 a1 a2 a3)) v.1 v.2.1 v.2.2.1 v.2.2.2 := by
  kernel_rfl
theorem q137_0 (k : Nat) (n : Nat) : ∀ v : (List Int) × Int × Int × Int, loopF (E137 k) (S137 k) Try.f137 p137_0 [] n (n137_0 v.1 v.2.1 v.2.2.1 v.2.2.2) = impl_wait.l0 k n v.1 v.2.1 v.2.2.1 v.2.2.2 :=
  loopF_eq (E137 k) (S137 k) Try.f137 p137_0 [] (fun v : (List Int) × Int × Int × Int => n137_0 v.1 v.2.1 v.2.2.1 v.2.2.2) (fun rec v => impl_wait.s0 k (fun a0 a1 a2 a3 => rec (a0, a1, a2, a3)) v.1 v.2.1 v.2.2.1 v.2.2.2) (fun n v => impl_wait.l0 k n v.1 v.2.1 v.2.2.1 v.2.2.2) (fun _ => rfl) (fun _ _ => rfl) (fun rec v => r137_0 k rec v) n
theorem e137 (k : Nat) (x : dens (flatC (S137 k).ps)) : funK (E137 k) (S137 k) Try.f137 x = (S137 k).fn x := by
  have h : funK (E137 k) (S137 k) Try.f137 x = impl_wait.g k (fun a0 a1 a2 a3 => loopF (E137 k) (S137 k) Try.f137 p137_0 [] k (n137_0 a0 a1 a2 a3)) x.1 x.2.1 x.2.2 := by kernel_rfl
  rw [h]
  rw [show (fun a0 a1 a2 a3 => loopF (E137 k) (S137 k) Try.f137 p137_0 [] k (n137_0 a0 a1 a2 a3)) = impl_wait.l0 k k from funext fun a0 => funext fun a1 => funext fun a2 => funext fun a3 => q137_0 k k (a0, a1, a2, a3)]
  rfl
theorem M137 (k : Nat) : Meets Try.prog 137 (S137 k) := meets_of Try.func137 (by kernel_rfl) tbOk (orc_cons (M101 k) orc_nil) mixOk (fun x y h => (e137 k x).trans h) rfl

/-! impl_sumOfWaits: function 134 -/
noncomputable def impl_sumOfWaits.s0 (k : Nat) (r0 : (List Int) → Int → Int → Int → Int → Option (Int)) (x0 : List Int) (x1 : Int) (x5 : Int) (x8 : Int) (x9 : Int) : Option (Int) := if x9 < x8 then ((impl_wait.f k x0 x1 x9).bind fun t2 => r0 x0 x1 (wrap64 (x5 + t2)) x8 (wrap64 (x9 + 1))) else (some x5)
noncomputable def impl_sumOfWaits.l0 (k : Nat) : Nat → (List Int) → Int → Int → Int → Int → Option (Int)
  | 0, _, _, _, _, _ => none
  | n + 1, x0, x1, x2, x3, x4 => impl_sumOfWaits.s0 k (impl_sumOfWaits.l0 k n) x0 x1 x2 x3 x4
noncomputable def impl_sumOfWaits.g (k : Nat) (r0 : (List Int) → Int → Int → Int → Int → Option (Int)) (l0 : List Int) (a1 : Int) : Option (Int) := (impl_length_int64.f l0).bind fun t1 => r0 l0 a1 0 t1 0
noncomputable def impl_sumOfWaits.f (k : Nat) (l0 : List Int) (a1 : Int) : Option (Int) := impl_sumOfWaits.g k (impl_sumOfWaits.l0 k k) l0 a1
noncomputable def S134 (k : Nat) : Does := ⟨[(false, [.dat (.list (.int .i64))]), (false, [.dat (.int .i64)])], [(false, [.dat (.int .i64)])], fun x => impl_sumOfWaits.f k x.1 x.2⟩
noncomputable def E134 (k : Nat) : En := ⟨tb, orcOf [(101, S101 k), (137, S137 k)], lvOf [(0, [(0, []), (1, []), (5, []), (8, []), (9, [])])], k, 0, lvOf [], []⟩
noncomputable def n134_0 (x0 : List Int) (x1 : Int) (x5 : Int) (x8 : Int) (x9 : Int) : St := ⟨20, lookA [(0, .dat (.list (.int .i64)) x0), (1, .dat (.int .i64) x1), (5, .dat (.int .i64) x5), (8, .dat (.int .i64) x8), (9, .dat (.int .i64) x9)], Go.V.look []⟩
def p134_0 : List Bool := [true, true, false, true, false]
theorem r134_0 (k : Nat) (rec : St → Option (Int)) (v : (List Int) × Int × Int × Int × Int) : roundF (E134 k) (S134 k) Try.f134 p134_0 [] rec (n134_0 v.1 v.2.1 v.2.2.1 v.2.2.2.1 v.2.2.2.2) = impl_sumOfWaits.s0 k (fun a0 a1 a2 a3 a4 => rec (n134_0 a0 a1 a2 a3 a4)) v.1 v.2.1 v.2.2.1 v.2.2.2.1 v.2.2.2.2 := by
  kernel_rfl
theorem q134_0 (k : Nat) (n : Nat) : ∀ v : (List Int) × Int × Int × Int × Int, loopF (E134 k) (S134 k) Try.f134 p134_0 [] n (n134_0 v.1 v.2.1 v.2.2.1 v.2.2.2.1 v.2.2.2.2) = impl_sumOfWaits.l0 k n v.1 v.2.1 v.2.2.1 v.2.2.2.1 v.2.2.2.2 :=
  loopF_eq (E134 k) (S134 k) Try.f134 p134_0 [] (fun v : (List Int) × Int × Int × Int × Int => n134_0 v.1 v.2.1 v.2.2.1 v.2.2.2.1 v.2.2.2.2) (fun rec v => impl_sumOfWaits.s0 k (fun a0 a1 a2 a3 a4 => rec (a0, a1, a2, a3, a4)) v.1 v.2.1 v.2.2.1 v.2.2.2.1 v.2.2.2.2) (fun n v => impl_sumOfWaits.l0 k n v.1 v.2.1 v.2.2.1 v.2.2.2.1 v.2.2.2.2) (fun _ => rfl) (fun _ _ => rfl) (fun rec v => r134_0 k rec v) n
theorem e134 (k : Nat) (x : dens (flatC (S134 k).ps)) : funK (E134 k) (S134 k) Try.f134 x = (S134 k).fn x := by
  have h : funK (E134 k) (S134 k) Try.f134 x = impl_sumOfWaits.g k (fun a0 a1 a2 a3 a4 => loopF (E134 k) (S134 k) Try.f134 p134_0 [] k (n134_0 a0 a1 a2 a3 a4)) x.1 x.2 := by kernel_rfl
  rw [h]
  rw [show (fun a0 a1 a2 a3 a4 => loopF (E134 k) (S134 k) Try.f134 p134_0 [] k (n134_0 a0 a1 a2 a3 a4)) = impl_sumOfWaits.l0 k k from funext fun a0 => funext fun a1 => funext fun a2 => funext fun a3 => funext fun a4 => q134_0 k k (a0, a1, a2, a3, a4)]
  rfl
theorem M134 (k : Nat) : Meets Try.prog 134 (S134 k) := meets_of Try.func134 (by kernel_rfl) tbOk (orc_cons (M101 k) (orc_cons (M137 k) orc_nil)) mixOk (fun x y h => (e134 k x).trans h) rfl

/-! impl_divisor: function 169 -/
noncomputable def impl_divisor.s0 (k : Nat) (r0 : Int → Int → Option (Int)) (x0 : Int) (x1 : Int) : Option (Int) := if x1 = 0 then (some x0) else (if x1 = 0 then (none) else (r0 x1 (Int.tmod x0 x1)))
noncomputable def impl_divisor.l0 (k : Nat) : Nat → Int → Int → Option (Int)
  | 0, _, _ => none
  | n + 1, x0, x1 => impl_divisor.s0 k (impl_divisor.l0 k n) x0 x1
noncomputable def impl_divisor.g (k : Nat) (r0 : Int → Int → Option (Int)) (a0 : Int) (a1 : Int) : Option (Int) := r0 a0 a1
noncomputable def impl_divisor.f (k : Nat) (a0 : Int) (a1 : Int) : Option (Int) := impl_divisor.g k (impl_divisor.l0 k k) a0 a1
noncomputable def S169 (k : Nat) : Does := ⟨[(false, [.dat (.int .i64)]), (false, [.dat (.int .i64)])], [(false, [.dat (.int .i64)])], fun x => impl_divisor.f k x.1 x.2⟩
noncomputable def E169 (k : Nat) : En := ⟨tb, orcOf [], lvOf [(0, [(0, []), (1, [])])], k, 0, lvOf [], []⟩
noncomputable def n169_0 (x0 : Int) (x1 : Int) : St := ⟨12, lookA [(0, .dat (.int .i64) x0), (1, .dat (.int .i64) x1)], Go.V.look []⟩
def p169_0 : List Bool := [true, false, false]
theorem r169_0 (k : Nat) (rec : St → Option (Int)) (v : Int × Int) : roundF (E169 k) (S169 k) Try.f169 p169_0 [] rec (n169_0 v.1 v.2) = impl_divisor.s0 k (fun a0 a1 => rec (n169_0 a0 a1)) v.1 v.2 := by
  kernel_rfl
theorem q169_0 (k : Nat) (n : Nat) : ∀ v : Int × Int, loopF (E169 k) (S169 k) Try.f169 p169_0 [] n (n169_0 v.1 v.2) = impl_divisor.l0 k n v.1 v.2 :=
  loopF_eq (E169 k) (S169 k) Try.f169 p169_0 [] (fun v : Int × Int => n169_0 v.1 v.2) (fun rec v => impl_divisor.s0 k (fun a0 a1 => rec (a0, a1)) v.1 v.2) (fun n v => impl_divisor.l0 k n v.1 v.2) (fun _ => rfl) (fun _ _ => rfl) (fun rec v => r169_0 k rec v) n
theorem e169 (k : Nat) (x : dens (flatC (S169 k).ps)) : funK (E169 k) (S169 k) Try.f169 x = (S169 k).fn x := by
  have h : funK (E169 k) (S169 k) Try.f169 x = impl_divisor.g k (fun a0 a1 => loopF (E169 k) (S169 k) Try.f169 p169_0 [] k (n169_0 a0 a1)) x.1 x.2 := by kernel_rfl
  rw [h]
  rw [show (fun a0 a1 => loopF (E169 k) (S169 k) Try.f169 p169_0 [] k (n169_0 a0 a1)) = impl_divisor.l0 k k from funext fun a0 => funext fun a1 => q169_0 k k (a0, a1)]
  rfl
theorem M169 (k : Nat) : Meets Try.prog 169 (S169 k) := meets_of Try.func169 (by kernel_rfl) tbOk orc_nil mixOk (fun x y h => (e169 k x).trans h) rfl

/-! impl_fraction: function 133 -/
noncomputable def impl_fraction.f (k : Nat) (a0 : Int) (a1 : Int) : Option (Int × Int × Int) := (impl_divisor.f k a0 a1).bind fun t1 => if t1 = 0 then (none) else (if t1 = 0 then (none) else (some ((wrap64 (Int.tdiv a0 t1)), (wrap64 (Int.tdiv a1 t1)), 0)))
noncomputable def S133 (k : Nat) : Does := ⟨[(false, [.dat (.int .i64)]), (false, [.dat (.int .i64)])], [(false, [.dat (.int .i64)]), (false, [.dat (.int .i64)]), (false, [.dat (.int .i64)])], fun x => impl_fraction.f k x.1 x.2⟩
noncomputable def E133 (k : Nat) : En := ⟨tb, orcOf [(169, S169 k)], lvOf [], k, 0, lvOf [], []⟩
theorem e133 (k : Nat) (x : dens (flatC (S133 k).ps)) : funK (E133 k) (S133 k) Try.f133 x = (S133 k).fn x := by
  kernel_rfl
theorem M133 (k : Nat) : Meets Try.prog 133 (S133 k) := meets_of Try.func133 (by kernel_rfl) tbOk (orc_cons (M169 k) orc_nil) mixOk (fun x y h => (e133 k x).trans h) rfl

/-! impl_MeanWait: function 55 -/
noncomputable def impl_MeanWait.f (k : Nat) (l0 : List Int) (a1 : Int) : Option (Int × Int × Int) := (impl_waitCode.f k l0 true [a1]).bind fun t1 => if t1 = 0 then ((impl_sumOfWaits.f k l0 a1).bind fun t2 => (impl_length_int64.f l0).bind fun t3 => (impl_fraction.f k t2 t3).bind fun t4 => some (t4.1, t4.2.1, t4.2.2)) else (some (0, 0, t1))
noncomputable def S55 (k : Nat) : Does := ⟨[(false, [.dat (.list (.int .i64))]), (false, [.dat (.int .i64)])], [(false, [.dat (.int .i64)]), (false, [.dat (.int .i64)]), (false, [.dat (.int .i64)])], fun x => impl_MeanWait.f k x.1 x.2⟩
noncomputable def E55 (k : Nat) : En := ⟨tb, orcOf [(132, S132 k), (134, S134 k), (101, S101 k), (133, S133 k)], lvOf [], k, 0, lvOf [], []⟩
theorem e55 (k : Nat) (x : dens (flatC (S55 k).ps)) : funK (E55 k) (S55 k) Try.f55 x = (S55 k).fn x := by
  kernel_rfl
theorem M55 (k : Nat) : Meets Try.prog 55 (S55 k) := meets_of Try.func55 (by kernel_rfl) tbOk (orc_cons (M132 k) (orc_cons (M134 k) (orc_cons (M101 k) (orc_cons (M133 k) orc_nil)))) mixOk (fun x y h => (e55 k x).trans h) rfl

/-! spec_l01In: function 99 -/
noncomputable def spec_l01In.f (a0 : Int) (a1 : Int) (a2 : Int) : Option (Bool) := if a1 ≤ a0 then (some (decide (a0 ≤ a2))) else (some false)
noncomputable def S99 (k : Nat) : Does := ⟨[(false, [.dat (.int .i64)]), (false, [.dat (.int .i64)]), (false, [.dat (.int .i64)])], [(false, [.dat .bool])], fun x => spec_l01In.f x.1 x.2.1 x.2.2⟩
noncomputable def E99 (k : Nat) : En := ⟨tb, orcOf [], lvOf [], k, 0, lvOf [], []⟩
theorem e99 (k : Nat) (x : dens (flatC (S99 k).ps)) : funK (E99 k) (S99 k) Try.f99 x = (S99 k).fn x := by
  kernel_rfl
theorem M99 (k : Nat) : Meets Try.prog 99 (S99 k) := meets_of Try.func99 (by kernel_rfl) tbOk orc_nil mixOk (fun x y h => (e99 k x).trans h) rfl

/-! spec_l01Turns: function 176 -/
noncomputable def spec_l01Turns.s0 (k : Nat) (r0 : (List Int) → Int → Int → Option (Bool)) (x0 : List Int) (x1 : Int) (x5 : Int) : Option (Bool) := if x5 < (x0.length : Int) then (if 0 ≤ x5 then (if x5 < (x0.length : Int) then ((spec_l01In.f (rd x0 x5) (-1) (wrap64 (x1 - 1))).bind fun t1 => if t1 = true then (r0 x0 x1 (wrap64 (x5 + 1))) else (some false)) else (none)) else (none)) else ((spec_l01In.f (x0.length : Int) 1 120).bind fun t2 => some t2)
noncomputable def spec_l01Turns.l0 (k : Nat) : Nat → (List Int) → Int → Int → Option (Bool)
  | 0, _, _, _ => none
  | n + 1, x0, x1, x2 => spec_l01Turns.s0 k (spec_l01Turns.l0 k n) x0 x1 x2
noncomputable def spec_l01Turns.g (k : Nat) (r0 : (List Int) → Int → Int → Option (Bool)) (l0 : List Int) (a1 : Int) : Option (Bool) := r0 l0 a1 0
noncomputable def spec_l01Turns.f (k : Nat) (l0 : List Int) (a1 : Int) : Option (Bool) := spec_l01Turns.g k (spec_l01Turns.l0 k k) l0 a1
noncomputable def S176 (k : Nat) : Does := ⟨[(false, [.dat (.list (.int .i64))]), (false, [.dat (.int .i64)])], [(false, [.dat .bool])], fun x => spec_l01Turns.f k x.1 x.2⟩
noncomputable def E176 (k : Nat) : En := ⟨tb, orcOf [(99, S99 k)], lvOf [(0, [(0, []), (1, []), (5, [])])], k, 0, lvOf [], []⟩
noncomputable def n176_0 (x0 : List Int) (x1 : Int) (x5 : Int) : St := ⟨23, lookA [(0, .dat (.list (.int .i64)) x0), (1, .dat (.int .i64) x1), (5, .dat (.int .i64) x5)], Go.V.look []⟩
def p176_0 : List Bool := [true, false, true, false]
theorem r176_0 (k : Nat) (rec : St → Option (Bool)) (v : (List Int) × Int × Int) : roundF (E176 k) (S176 k) Try.f176 p176_0 [] rec (n176_0 v.1 v.2.1 v.2.2) = spec_l01Turns.s0 k (fun a0 a1 a2 => rec (n176_0 a0 a1 a2)) v.1 v.2.1 v.2.2 := by
  kernel_rfl
theorem q176_0 (k : Nat) (n : Nat) : ∀ v : (List Int) × Int × Int, loopF (E176 k) (S176 k) Try.f176 p176_0 [] n (n176_0 v.1 v.2.1 v.2.2) = spec_l01Turns.l0 k n v.1 v.2.1 v.2.2 :=
  loopF_eq (E176 k) (S176 k) Try.f176 p176_0 [] (fun v : (List Int) × Int × Int => n176_0 v.1 v.2.1 v.2.2) (fun rec v => spec_l01Turns.s0 k (fun a0 a1 a2 => rec (a0, a1, a2)) v.1 v.2.1 v.2.2) (fun n v => spec_l01Turns.l0 k n v.1 v.2.1 v.2.2) (fun _ => rfl) (fun _ _ => rfl) (fun rec v => r176_0 k rec v) n
theorem e176 (k : Nat) (x : dens (flatC (S176 k).ps)) : funK (E176 k) (S176 k) Try.f176 x = (S176 k).fn x := by
  have h : funK (E176 k) (S176 k) Try.f176 x = spec_l01Turns.g k (fun a0 a1 a2 => loopF (E176 k) (S176 k) Try.f176 p176_0 [] k (n176_0 a0 a1 a2)) x.1 x.2 := by kernel_rfl
  rw [h]
  rw [show (fun a0 a1 a2 => loopF (E176 k) (S176 k) Try.f176 p176_0 [] k (n176_0 a0 a1 a2)) = spec_l01Turns.l0 k k from funext fun a0 => funext fun a1 => funext fun a2 => q176_0 k k (a0, a1, a2)]
  rfl
theorem M176 (k : Nat) : Meets Try.prog 176 (S176 k) := meets_of Try.func176 (by kernel_rfl) tbOk (orc_cons (M99 k) orc_nil) mixOk (fun x y h => (e176 k x).trans h) rfl

/-! spec_l10Turns: function 143 -/
noncomputable def spec_l10Turns.s0 (k : Nat) (r0 : (List Int) → (List Int) → Int → Option (Bool)) (x0 : List Int) (x1 : List Int) (x5 : Int) : Option (Bool) := if x5 < (x1.length : Int) then (if 0 ≤ x5 then (if x5 < (x1.length : Int) then ((spec_l01In.f (rd x1 x5) 0 7).bind fun t1 => if t1 = true then (r0 x0 x1 (wrap64 (x5 + 1))) else (some false)) else (none)) else (none)) else ((spec_l01Turns.f k x0 8).bind fun t2 => some t2)
noncomputable def spec_l10Turns.l0 (k : Nat) : Nat → (List Int) → (List Int) → Int → Option (Bool)
  | 0, _, _, _ => none
  | n + 1, x0, x1, x2 => spec_l10Turns.s0 k (spec_l10Turns.l0 k n) x0 x1 x2
noncomputable def spec_l10Turns.g (k : Nat) (r0 : (List Int) → (List Int) → Int → Option (Bool)) (l0 : List Int) (l1 : List Int) : Option (Bool) := r0 l0 l1 0
noncomputable def spec_l10Turns.f (k : Nat) (l0 : List Int) (l1 : List Int) : Option (Bool) := spec_l10Turns.g k (spec_l10Turns.l0 k k) l0 l1
noncomputable def S143 (k : Nat) : Does := ⟨[(false, [.dat (.list (.int .i64))]), (false, [.dat (.list (.int .i64))])], [(false, [.dat .bool])], fun x => spec_l10Turns.f k x.1 x.2⟩
noncomputable def E143 (k : Nat) : En := ⟨tb, orcOf [(99, S99 k), (176, S176 k)], lvOf [(0, [(0, []), (1, []), (5, [])])], k, 0, lvOf [], []⟩
noncomputable def n143_0 (x0 : List Int) (x1 : List Int) (x5 : Int) : St := ⟨20, lookA [(0, .dat (.list (.int .i64)) x0), (1, .dat (.list (.int .i64)) x1), (5, .dat (.int .i64) x5)], Go.V.look []⟩
def p143_0 : List Bool := [true, false, true, false]
theorem r143_0 (k : Nat) (rec : St → Option (Bool)) (v : (List Int) × (List Int) × Int) : roundF (E143 k) (S143 k) Try.f143 p143_0 [] rec (n143_0 v.1 v.2.1 v.2.2) = spec_l10Turns.s0 k (fun a0 a1 a2 => rec (n143_0 a0 a1 a2)) v.1 v.2.1 v.2.2 := by
  kernel_rfl
theorem q143_0 (k : Nat) (n : Nat) : ∀ v : (List Int) × (List Int) × Int, loopF (E143 k) (S143 k) Try.f143 p143_0 [] n (n143_0 v.1 v.2.1 v.2.2) = spec_l10Turns.l0 k n v.1 v.2.1 v.2.2 :=
  loopF_eq (E143 k) (S143 k) Try.f143 p143_0 [] (fun v : (List Int) × (List Int) × Int => n143_0 v.1 v.2.1 v.2.2) (fun rec v => spec_l10Turns.s0 k (fun a0 a1 a2 => rec (a0, a1, a2)) v.1 v.2.1 v.2.2) (fun n v => spec_l10Turns.l0 k n v.1 v.2.1 v.2.2) (fun _ => rfl) (fun _ _ => rfl) (fun rec v => r143_0 k rec v) n
theorem e143 (k : Nat) (x : dens (flatC (S143 k).ps)) : funK (E143 k) (S143 k) Try.f143 x = (S143 k).fn x := by
  have h : funK (E143 k) (S143 k) Try.f143 x = spec_l10Turns.g k (fun a0 a1 a2 => loopF (E143 k) (S143 k) Try.f143 p143_0 [] k (n143_0 a0 a1 a2)) x.1 x.2 := by kernel_rfl
  rw [h]
  rw [show (fun a0 a1 a2 => loopF (E143 k) (S143 k) Try.f143 p143_0 [] k (n143_0 a0 a1 a2)) = spec_l10Turns.l0 k k from funext fun a0 => funext fun a1 => funext fun a2 => q143_0 k k (a0, a1, a2)]
  rfl
theorem M143 (k : Nat) : Meets Try.prog 143 (S143 k) := meets_of Try.func143 (by kernel_rfl) tbOk (orc_cons (M99 k) (orc_cons (M176 k) orc_nil)) mixOk (fun x y h => (e143 k x).trans h) rfl

/-! spec_l10Wait: function 138 -/
noncomputable def spec_l10Wait.s0 (k : Nat) (r0 : (List Int) → Int → Int → Int → Int → Option (Int)) (x0 : List Int) (x1 : Int) (x2 : Int) (x7 : Int) (x8 : Int) : Option (Int) := if x8 < x7 then (if x7 = 0 then (none) else (if 0 ≤ (Int.tmod (wrap64 (x2 + x8)) x7) then (if (Int.tmod (wrap64 (x2 + x8)) x7) < (x0.length : Int) then (if (rd x0 (Int.tmod (wrap64 (x2 + x8)) x7)) = x1 then (some x8) else (r0 x0 x1 x2 x7 (wrap64 (x8 + 1)))) else (none)) else (none))) else (some (-1))
noncomputable def spec_l10Wait.l0 (k : Nat) : Nat → (List Int) → Int → Int → Int → Int → Option (Int)
  | 0, _, _, _, _, _ => none
  | n + 1, x0, x1, x2, x3, x4 => spec_l10Wait.s0 k (spec_l10Wait.l0 k n) x0 x1 x2 x3 x4
noncomputable def spec_l10Wait.g (k : Nat) (r0 : (List Int) → Int → Int → Int → Int → Option (Int)) (l0 : List Int) (a1 : Int) (a2 : Int) : Option (Int) := r0 l0 a1 a2 (l0.length : Int) 0
noncomputable def spec_l10Wait.f (k : Nat) (l0 : List Int) (a1 : Int) (a2 : Int) : Option (Int) := spec_l10Wait.g k (spec_l10Wait.l0 k k) l0 a1 a2
noncomputable def S138 (k : Nat) : Does := ⟨[(false, [.dat (.list (.int .i64))]), (false, [.dat (.int .i64)]), (false, [.dat (.int .i64)])], [(false, [.dat (.int .i64)])], fun x => spec_l10Wait.f k x.1 x.2.1 x.2.2⟩
noncomputable def E138 (k : Nat) : En := ⟨tb, orcOf [], lvOf [(0, [(0, []), (1, []), (2, []), (7, []), (8, [])])], k, 0, lvOf [], []⟩
noncomputable def n138_0 (x0 : List Int) (x1 : Int) (x2 : Int) (x7 : Int) (x8 : Int) : St := ⟨27, lookA [(0, .dat (.list (.int .i64)) x0), (1, .dat (.int .i64) x1), (2, .dat (.int .i64) x2), (7, .dat (.int .i64) x7), (8, .dat (.int .i64) x8)], Go.V.look []⟩
def p138_0 : List Bool := [true, true, false, true, false]
theorem r138_0 (k : Nat) (rec : St → Option (Int)) (v : (List Int) × Int × Int × Int × Int) : roundF (E138 k) (S138 k) Try.f138 p138_0 [] rec (n138_0 v.1 v.2.1 v.2.2.1 v.2.2.2.1 v.2.2.2.2) = spec_l10Wait.s0 k (fun a0 a1 a2 a3 a4 => rec (n138_0 a0 a1 a2 a3 a4)) v.1 v.2.1 v.2.2.1 v.2.2.2.1 v.2.2.2.2 := by
  kernel_rfl
theorem q138_0 (k : Nat) (n : Nat) : ∀ v : (List Int) × Int × Int × Int × Int, loopF (E138 k) (S138 k) Try.f138 p138_0 [] n (n138_0 v.1 v.2.1 v.2.2.1 v.2.2.2.1 v.2.2.2.2) = spec_l10Wait.l0 k n v.1 v.2.1 v.2.2.1 v.2.2.2.1 v.2.2.2.2 :=
  loopF_eq (E138 k) (S138 k) Try.f138 p138_0 [] (fun v : (List Int) × Int × Int × Int × Int => n138_0 v.1 v.2.1 v.2.2.1 v.2.2.2.1 v.2.2.2.2) (fun rec v => spec_l10Wait.s0 k (fun a0 a1 a2 a3 a4 => rec (a0, a1, a2, a3, a4)) v.1 v.2.1 v.2.2.1 v.2.2.2.1 v.2.2.2.2) (fun n v => spec_l10Wait.l0 k n v.1 v.2.1 v.2.2.1 v.2.2.2.1 v.2.2.2.2) (fun _ => rfl) (fun _ _ => rfl) (fun rec v => r138_0 k rec v) n
theorem e138 (k : Nat) (x : dens (flatC (S138 k).ps)) : funK (E138 k) (S138 k) Try.f138 x = (S138 k).fn x := by
  have h : funK (E138 k) (S138 k) Try.f138 x = spec_l10Wait.g k (fun a0 a1 a2 a3 a4 => loopF (E138 k) (S138 k) Try.f138 p138_0 [] k (n138_0 a0 a1 a2 a3 a4)) x.1 x.2.1 x.2.2 := by kernel_rfl
  rw [h]
  rw [show (fun a0 a1 a2 a3 a4 => loopF (E138 k) (S138 k) Try.f138 p138_0 [] k (n138_0 a0 a1 a2 a3 a4)) = spec_l10Wait.l0 k k from funext fun a0 => funext fun a1 => funext fun a2 => funext fun a3 => funext fun a4 => q138_0 k k (a0, a1, a2, a3, a4)]
  rfl
theorem M138 (k : Nat) : Meets Try.prog 138 (S138 k) := meets_of Try.func138 (by kernel_rfl) tbOk orc_nil mixOk (fun x y h => (e138 k x).trans h) rfl

/-! spec_l10Code: function 135 -/
noncomputable def spec_l10Code.s0 (k : Nat) (r0 : (List Int) → (List Int) → Int → Option (Int)) (x0 : List Int) (x2 : List Int) (x7 : Int) : Option (Int) := if x7 < (x2.length : Int) then (if 0 ≤ x7 then (if x7 < (x2.length : Int) then ((spec_l10Wait.f k x0 (rd x2 x7) 0).bind fun t3 => if t3 < 0 then (some 4) else (r0 x0 x2 (wrap64 (x7 + 1)))) else (none)) else (none)) else (some 0)
noncomputable def spec_l10Code.l0 (k : Nat) : Nat → (List Int) → (List Int) → Int → Option (Int)
  | 0, _, _, _ => none
  | n + 1, x0, x1, x2 => spec_l10Code.s0 k (spec_l10Code.l0 k n) x0 x1 x2
noncomputable def spec_l10Code.g (k : Nat) (r0 : (List Int) → (List Int) → Int → Option (Int)) (l0 : List Int) (a1 : Int) (l2 : List Int) : Option (Int) := (spec_l10Turns.f k l0 l2).bind fun t1 => if t1 = true then ((spec_l01In.f a1 0 (wrap64 ((l0.length : Int) - 1))).bind fun t2 => if t2 = true then (r0 l0 l2 0) else (some 2)) else (some 2)
noncomputable def spec_l10Code.f (k : Nat) (l0 : List Int) (a1 : Int) (l2 : List Int) : Option (Int) := spec_l10Code.g k (spec_l10Code.l0 k k) l0 a1 l2
noncomputable def S135 (k : Nat) : Does := ⟨[(false, [.dat (.list (.int .i64))]), (false, [.dat (.int .i64)]), (false, [.dat (.list (.int .i64))])], [(false, [.dat (.int .i64)])], fun x => spec_l10Code.f k x.1 x.2.1 x.2.2⟩
noncomputable def E135 (k : Nat) : En := ⟨tb, orcOf [(143, S143 k), (99, S99 k), (138, S138 k)], lvOf [(0, [(0, []), (2, []), (7, [])])], k, 0, lvOf [], []⟩
noncomputable def n135_0 (x0 : List Int) (x2 : List Int) (x7 : Int) : St := ⟨33, lookA [(0, .dat (.list (.int .i64)) x0), (2, .dat (.list (.int .i64)) x2), (7, .dat (.int .i64) x7)], Go.V.look []⟩
def p135_0 : List Bool := [true, true, false, true, false]
theorem r135_0 (k : Nat) (rec : St → Option (Int)) (v : (List Int) × (List Int) × Int) : roundF (E135 k) (S135 k) Try.f135 p135_0 [] rec (n135_0 v.1 v.2.1 v.2.2) = spec_l10Code.s0 k (fun a0 a1 a2 => rec (n135_0 a0 a1 a2)) v.1 v.2.1 v.2.2 := by
  kernel_rfl
theorem q135_0 (k : Nat) (n : Nat) : ∀ v : (List Int) × (List Int) × Int, loopF (E135 k) (S135 k) Try.f135 p135_0 [] n (n135_0 v.1 v.2.1 v.2.2) = spec_l10Code.l0 k n v.1 v.2.1 v.2.2 :=
  loopF_eq (E135 k) (S135 k) Try.f135 p135_0 [] (fun v : (List Int) × (List Int) × Int => n135_0 v.1 v.2.1 v.2.2) (fun rec v => spec_l10Code.s0 k (fun a0 a1 a2 => rec (a0, a1, a2)) v.1 v.2.1 v.2.2) (fun n v => spec_l10Code.l0 k n v.1 v.2.1 v.2.2) (fun _ => rfl) (fun _ _ => rfl) (fun rec v => r135_0 k rec v) n
theorem e135 (k : Nat) (x : dens (flatC (S135 k).ps)) : funK (E135 k) (S135 k) Try.f135 x = (S135 k).fn x := by
  have h : funK (E135 k) (S135 k) Try.f135 x = spec_l10Code.g k (fun a0 a1 a2 => loopF (E135 k) (S135 k) Try.f135 p135_0 [] k (n135_0 a0 a1 a2)) x.1 x.2.1 x.2.2 := by kernel_rfl
  rw [h]
  rw [show (fun a0 a1 a2 => loopF (E135 k) (S135 k) Try.f135 p135_0 [] k (n135_0 a0 a1 a2)) = spec_l10Code.l0 k k from funext fun a0 => funext fun a1 => funext fun a2 => q135_0 k k (a0, a1, a2)]
  rfl
theorem M135 (k : Nat) : Meets Try.prog 135 (S135 k) := meets_of Try.func135 (by kernel_rfl) tbOk (orc_cons (M143 k) (orc_cons (M99 k) (orc_cons (M138 k) orc_nil))) mixOk (fun x y h => (e135 k x).trans h) rfl

/-! spec_l10Sum: function 136 -/
noncomputable def spec_l10Sum.s0 (k : Nat) (r0 : (List Int) → Int → Int → Int → Int → Option (Int)) (x0 : List Int) (x1 : Int) (x2 : Int) (x7 : Int) (x8 : Int) : Option (Int) := if x8 < (x0.length : Int) then ((spec_l10Wait.f k x0 x1 x8).bind fun t1 => (spec_l10Wait.f k x0 x2 x8).bind fun t2 => r0 x0 x1 x2 (wrap64 (x7 + (maxV t1 t2))) (wrap64 (x8 + 1))) else (some x7)
noncomputable def spec_l10Sum.l0 (k : Nat) : Nat → (List Int) → Int → Int → Int → Int → Option (Int)
  | 0, _, _, _, _, _ => none
  | n + 1, x0, x1, x2, x3, x4 => spec_l10Sum.s0 k (spec_l10Sum.l0 k n) x0 x1 x2 x3 x4
noncomputable def spec_l10Sum.g (k : Nat) (r0 : (List Int) → Int → Int → Int → Int → Option (Int)) (l0 : List Int) (a1 : Int) (a2 : Int) : Option (Int) := r0 l0 a1 a2 0 0
noncomputable def spec_l10Sum.f (k : Nat) (l0 : List Int) (a1 : Int) (a2 : Int) : Option (Int) := spec_l10Sum.g k (spec_l10Sum.l0 k k) l0 a1 a2
noncomputable def S136 (k : Nat) : Does := ⟨[(false, [.dat (.list (.int .i64))]), (false, [.dat (.int .i64)]), (false, [.dat (.int .i64)])], [(false, [.dat (.int .i64)])], fun x => spec_l10Sum.f k x.1 x.2.1 x.2.2⟩
noncomputable def E136 (k : Nat) : En := ⟨tb, orcOf [(138, S138 k)], lvOf [(0, [(0, []), (1, []), (2, []), (7, []), (8, [])])], k, 0, lvOf [], []⟩
noncomputable def n136_0 (x0 : List Int) (x1 : Int) (x2 : Int) (x7 : Int) (x8 : Int) : St := ⟨27, lookA [(0, .dat (.list (.int .i64)) x0), (1, .dat (.int .i64) x1), (2, .dat (.int .i64) x2), (7, .dat (.int .i64) x7), (8, .dat (.int .i64) x8)], Go.V.look []⟩
def p136_0 : List Bool := [true, true, false, true, false]
theorem r136_0 (k : Nat) (rec : St → Option (Int)) (v : (List Int) × Int × Int × Int × Int) : roundF (E136 k) (S136 k) Try.f136 p136_0 [] rec (n136_0 v.1 v.2.1 v.2.2.1 v.2.2.2.1 v.2.2.2.2) = spec_l10Sum.s0 k (fun a0 a1 a2 a3 a4 => rec (n136_0 a0 a1 a2 a3 a4)) v.1 v.2.1 v.2.2.1 v.2.2.2.1 v.2.2.2.2 := by
  kernel_rfl
theorem q136_0 (k : Nat) (n : Nat) : ∀ v : (List Int) × Int × Int × Int × Int, loopF (E136 k) (S136 k) Try.f136 p136_0 [] n (n136_0 v.1 v.2.1 v.2.2.1 v.2.2.2.1 v.2.2.2.2) = spec_l10Sum.l0 k n v.1 v.2.1 v.2.2.1 v.2.2.2.1 v.2.2.2.2 :=
  loopF_eq (E136 k) (S136 k) Try.f136 p136_0 [] (fun v : (List Int) × Int × Int × Int × Int => n136_0 v.1 v.2.1 v.2.2.1 v.2.2.2.1 v.2.2.2.2) (fun rec v => spec_l10Sum.s0 k (fun a0 a1 a2 a3 a4 => rec (a0, a1, a2, a3, a4)) v.1 v.2.1 v.2.2.1 v.2.2.2.1 v.2.2.2.2) (fun n v => spec_l10Sum.l0 k n v.1 v.2.1 v.2.2.1 v.2.2.2.1 v.2.2.2.2) (fun _ => rfl) (fun _ _ => rfl) (fun rec v => r136_0 k rec v) n
theorem e136 (k : Nat) (x : dens (flatC (S136 k).ps)) : funK (E136 k) (S136 k) Try.f136 x = (S136 k).fn x := by
  have h : funK (E136 k) (S136 k) Try.f136 x = spec_l10Sum.g k (fun a0 a1 a2 a3 a4 => loopF (E136 k) (S136 k) Try.f136 p136_0 [] k (n136_0 a0 a1 a2 a3 a4)) x.1 x.2.1 x.2.2 := by kernel_rfl
  rw [h]
  rw [show (fun a0 a1 a2 a3 a4 => loopF (E136 k) (S136 k) Try.f136 p136_0 [] k (n136_0 a0 a1 a2 a3 a4)) = spec_l10Sum.l0 k k from funext fun a0 => funext fun a1 => funext fun a2 => funext fun a3 => funext fun a4 => q136_0 k k (a0, a1, a2, a3, a4)]
  rfl
theorem M136 (k : Nat) : Meets Try.prog 136 (S136 k) := meets_of Try.func136 (by kernel_rfl) tbOk (orc_cons (M138 k) orc_nil) mixOk (fun x y h => (e136 k x).trans h) rfl

/-! spec_l01Gcd: function 171 -/
noncomputable def spec_l01Gcd.s0 (k : Nat) (r0 : Int → Int → Option (Int)) (x0 : Int) (x1 : Int) : Option (Int) := if x1 = 0 then (some x0) else (if x1 = 0 then (none) else (r0 x1 (Int.tmod x0 x1)))
noncomputable def spec_l01Gcd.l0 (k : Nat) : Nat → Int → Int → Option (Int)
  | 0, _, _ => none
  | n + 1, x0, x1 => spec_l01Gcd.s0 k (spec_l01Gcd.l0 k n) x0 x1
noncomputable def spec_l01Gcd.g (k : Nat) (r0 : Int → Int → Option (Int)) (a0 : Int) (a1 : Int) : Option (Int) := r0 a0 a1
noncomputable def spec_l01Gcd.f (k : Nat) (a0 : Int) (a1 : Int) : Option (Int) := spec_l01Gcd.g k (spec_l01Gcd.l0 k k) a0 a1
noncomputable def S171 (k : Nat) : Does := ⟨[(false, [.dat (.int .i64)]), (false, [.dat (.int .i64)])], [(false, [.dat (.int .i64)])], fun x => spec_l01Gcd.f k x.1 x.2⟩
noncomputable def E171 (k : Nat) : En := ⟨tb, orcOf [], lvOf [(0, [(0, []), (1, [])])], k, 0, lvOf [], []⟩
noncomputable def n171_0 (x0 : Int) (x1 : Int) : St := ⟨14, lookA [(0, .dat (.int .i64) x0), (1, .dat (.int .i64) x1)], Go.V.look []⟩
def p171_0 : List Bool := [true, false, false]
theorem r171_0 (k : Nat) (rec : St → Option (Int)) (v : Int × Int) : roundF (E171 k) (S171 k) Try.f171 p171_0 [] rec (n171_0 v.1 v.2) = spec_l01Gcd.s0 k (fun a0 a1 => rec (n171_0 a0 a1)) v.1 v.2 := by
  kernel_rfl
theorem q171_0 (k : Nat) (n : Nat) : ∀ v : Int × Int, loopF (E171 k) (S171 k) Try.f171 p171_0 [] n (n171_0 v.1 v.2) = spec_l01Gcd.l0 k n v.1 v.2 :=
  loopF_eq (E171 k) (S171 k) Try.f171 p171_0 [] (fun v : Int × Int => n171_0 v.1 v.2) (fun rec v => spec_l01Gcd.s0 k (fun a0 a1 => rec (a0, a1)) v.1 v.2) (fun n v => spec_l01Gcd.l0 k n v.1 v.2) (fun _ => rfl) (fun _ _ => rfl) (fun rec v => r171_0 k rec v) n
theorem e171 (k : Nat) (x : dens (flatC (S171 k).ps)) : funK (E171 k) (S171 k) Try.f171 x = (S171 k).fn x := by
  have h : funK (E171 k) (S171 k) Try.f171 x = spec_l01Gcd.g k (fun a0 a1 => loopF (E171 k) (S171 k) Try.f171 p171_0 [] k (n171_0 a0 a1)) x.1 x.2 := by kernel_rfl
  rw [h]
  rw [show (fun a0 a1 => loopF (E171 k) (S171 k) Try.f171 p171_0 [] k (n171_0 a0 a1)) = spec_l01Gcd.l0 k k from funext fun a0 => funext fun a1 => q171_0 k k (a0, a1)]
  rfl
theorem M171 (k : Nat) : Meets Try.prog 171 (S171 k) := meets_of Try.func171 (by kernel_rfl) tbOk orc_nil mixOk (fun x y h => (e171 k x).trans h) rfl

/-! spec_l01Lowest: function 125 -/
noncomputable def spec_l01Lowest.f (k : Nat) (a0 : Int) (a1 : Int) : Option (Int × Int) := (spec_l01Gcd.f k a0 a1).bind fun t1 => if t1 = 0 then (none) else (if t1 = 0 then (none) else (some ((wrap64 (Int.tdiv a0 t1)), (wrap64 (Int.tdiv a1 t1)))))
noncomputable def S125 (k : Nat) : Does := ⟨[(false, [.dat (.int .i64)]), (false, [.dat (.int .i64)])], [(false, [.dat (.int .i64)]), (false, [.dat (.int .i64)])], fun x => spec_l01Lowest.f k x.1 x.2⟩
noncomputable def E125 (k : Nat) : En := ⟨tb, orcOf [(171, S171 k)], lvOf [], k, 0, lvOf [], []⟩
theorem e125 (k : Nat) (x : dens (flatC (S125 k).ps)) : funK (E125 k) (S125 k) Try.f125 x = (S125 k).fn x := by
  kernel_rfl
theorem M125 (k : Nat) : Meets Try.prog 125 (S125 k) := meets_of Try.func125 (by kernel_rfl) tbOk (orc_cons (M171 k) orc_nil) mixOk (fun x y h => (e125 k x).trans h) rfl

/-! spec_MeanWait: function 56 -/
noncomputable def spec_MeanWait.f (k : Nat) (l0 : List Int) (a1 : Int) : Option (Int × Int × Int) := (spec_l10Code.f k l0 0 [a1]).bind fun t1 => if t1 = 0 then ((spec_l10Sum.f k l0 a1 a1).bind fun t2 => (spec_l01Lowest.f k t2 (l0.length : Int)).bind fun t3 => some (t3.1, t3.2, 0)) else (some (0, 0, t1))
noncomputable def S56 (k : Nat) : Does := ⟨[(false, [.dat (.list (.int .i64))]), (false, [.dat (.int .i64)])], [(false, [.dat (.int .i64)]), (false, [.dat (.int .i64)]), (false, [.dat (.int .i64)])], fun x => spec_MeanWait.f k x.1 x.2⟩
noncomputable def E56 (k : Nat) : En := ⟨tb, orcOf [(135, S135 k), (136, S136 k), (125, S125 k)], lvOf [], k, 0, lvOf [], []⟩
theorem e56 (k : Nat) (x : dens (flatC (S56 k).ps)) : funK (E56 k) (S56 k) Try.f56 x = (S56 k).fn x := by
  kernel_rfl
theorem M56 (k : Nat) : Meets Try.prog 56 (S56 k) := meets_of Try.func56 (by kernel_rfl) tbOk (orc_cons (M135 k) (orc_cons (M136 k) (orc_cons (M125 k) orc_nil))) mixOk (fun x y h => (e56 k x).trans h) rfl

/-! impl_WorstSlot: function 57 -/
noncomputable def impl_WorstSlot.s0 (k : Nat) (r0 : (List Int) → Int → Int → Int → Int → Int → Option (Int × Int × Int)) (x0 : List Int) (x1 : Int) (x8 : Int) (x9 : Int) (x20 : Int) (x21 : Int) : Option (Int × Int × Int) := if x21 < x20 then ((impl_wait.f k x0 x1 x21).bind fun t3 => if x9 < t3 then (r0 x0 x1 x21 t3 x20 (wrap64 (x21 + 1))) else (r0 x0 x1 x8 x9 x20 (wrap64 (x21 + 1)))) else (some (x8, x9, 0))
noncomputable def impl_WorstSlot.l0 (k : Nat) : Nat → (List Int) → Int → Int → Int → Int → Int → Option (Int × Int × Int)
  | 0, _, _, _, _, _, _ => none
  | n + 1, x0, x1, x2, x3, x4, x5 => impl_WorstSlot.s0 k (impl_WorstSlot.l0 k n) x0 x1 x2 x3 x4 x5
noncomputable def impl_WorstSlot.g (k : Nat) (r0 : (List Int) → Int → Int → Int → Int → Int → Option (Int × Int × Int)) (l0 : List Int) (a1 : Int) : Option (Int × Int × Int) := (impl_waitCode.f k l0 true [a1]).bind fun t1 => if t1 = 0 then ((impl_length_int64.f l0).bind fun t2 => r0 l0 a1 0 0 t2 0) else (some (0, 0, t1))
noncomputable def impl_WorstSlot.f (k : Nat) (l0 : List Int) (a1 : Int) : Option (Int × Int × Int) := impl_WorstSlot.g k (impl_WorstSlot.l0 k k) l0 a1
noncomputable def S57 (k : Nat) : Does := ⟨[(false, [.dat (.list (.int .i64))]), (false, [.dat (.int .i64)])], [(false, [.dat (.int .i64)]), (false, [.dat (.int .i64)]), (false, [.dat (.int .i64)])], fun x => impl_WorstSlot.f k x.1 x.2⟩
noncomputable def E57 (k : Nat) : En := ⟨tb, orcOf [(132, S132 k), (101, S101 k), (137, S137 k)], lvOf [(0, [(0, []), (1, []), (8, []), (9, []), (20, []), (21, [])])], k, 0, lvOf [], []⟩
noncomputable def n57_0 (x0 : List Int) (x1 : Int) (x8 : Int) (x9 : Int) (x20 : Int) (x21 : Int) : St := ⟨36, lookA [(0, .dat (.list (.int .i64)) x0), (1, .dat (.int .i64) x1), (8, .dat (.int .i64) x8), (9, .dat (.int .i64) x9), (20, .dat (.int .i64) x20), (21, .dat (.int .i64) x21)], Go.V.look []⟩
def p57_0 : List Bool := [true, true, true, false, true, false]
theorem r57_0 (k : Nat) (rec : St → Option (Int × Int × Int)) (v : (List Int) × Int × Int × Int × Int × Int) : roundF (E57 k) (S57 k) Try.f57 p57_0 [] rec (n57_0 v.1 v.2.1 v.2.2.1 v.2.2.2.1 v.2.2.2.2.1 v.2.2.2.2.2) = impl_WorstSlot.s0 k (fun a0 a1 a2 a3 a4 a5 => rec (n57_0 a0 a1 a2 a3 a4 a5)) v.1 v.2.1 v.2.2.1 v.2.2.2.1 v.2.2.2.2.1 v.2.2.2.2.2 := by
  kernel_rfl
theorem q57_0 (k : Nat) (n : Nat) : ∀ v : (List Int) × Int × Int × Int × Int × Int, loopF (E57 k) (S57 k) Try.f57 p57_0 [] n (n57_0 v.1 v.2.1 v.2.2.1 v.2.2.2.1 v.2.2.2.2.1 v.2.2.2.2.2) = impl_WorstSlot.l0 k n v.1 v.2.1 v.2.2.1 v.2.2.2.1 v.2.2.2.2.1 v.2.2.2.2.2 :=
  loopF_eq (E57 k) (S57 k) Try.f57 p57_0 [] (fun v : (List Int) × Int × Int × Int × Int × Int => n57_0 v.1 v.2.1 v.2.2.1 v.2.2.2.1 v.2.2.2.2.1 v.2.2.2.2.2) (fun rec v => impl_WorstSlot.s0 k (fun a0 a1 a2 a3 a4 a5 => rec (a0, a1, a2, a3, a4, a5)) v.1 v.2.1 v.2.2.1 v.2.2.2.1 v.2.2.2.2.1 v.2.2.2.2.2) (fun n v => impl_WorstSlot.l0 k n v.1 v.2.1 v.2.2.1 v.2.2.2.1 v.2.2.2.2.1 v.2.2.2.2.2) (fun _ => rfl) (fun _ _ => rfl) (fun rec v => r57_0 k rec v) n
theorem e57 (k : Nat) (x : dens (flatC (S57 k).ps)) : funK (E57 k) (S57 k) Try.f57 x = (S57 k).fn x := by
  have h : funK (E57 k) (S57 k) Try.f57 x = impl_WorstSlot.g k (fun a0 a1 a2 a3 a4 a5 => loopF (E57 k) (S57 k) Try.f57 p57_0 [] k (n57_0 a0 a1 a2 a3 a4 a5)) x.1 x.2 := by kernel_rfl
  rw [h]
  rw [show (fun a0 a1 a2 a3 a4 a5 => loopF (E57 k) (S57 k) Try.f57 p57_0 [] k (n57_0 a0 a1 a2 a3 a4 a5)) = impl_WorstSlot.l0 k k from funext fun a0 => funext fun a1 => funext fun a2 => funext fun a3 => funext fun a4 => funext fun a5 => q57_0 k k (a0, a1, a2, a3, a4, a5)]
  rfl
theorem M57 (k : Nat) : Meets Try.prog 57 (S57 k) := meets_of Try.func57 (by kernel_rfl) tbOk (orc_cons (M132 k) (orc_cons (M101 k) (orc_cons (M137 k) orc_nil))) mixOk (fun x y h => (e57 k x).trans h) rfl

/-! spec_WorstSlot: function 58 -/
noncomputable def spec_WorstSlot.s0 (k : Nat) (r0 : (List Int) → Int → Int → Int → Int → Option (Int × Int × Int)) (x0 : List Int) (x1 : Int) (x8 : Int) (x9 : Int) (x10 : Int) : Option (Int × Int × Int) := if x10 < (x0.length : Int) then ((spec_l10Wait.f k x0 x1 x10).bind fun t2 => if x9 < t2 then (r0 x0 x1 x10 t2 (wrap64 (x10 + 1))) else (r0 x0 x1 x8 x9 (wrap64 (x10 + 1)))) else (some (x8, x9, 0))
noncomputable def spec_WorstSlot.l0 (k : Nat) : Nat → (List Int) → Int → Int → Int → Int → Option (Int × Int × Int)
  | 0, _, _, _, _, _ => none
  | n + 1, x0, x1, x2, x3, x4 => spec_WorstSlot.s0 k (spec_WorstSlot.l0 k n) x0 x1 x2 x3 x4
noncomputable def spec_WorstSlot.g (k : Nat) (r0 : (List Int) → Int → Int → Int → Int → Option (Int × Int × Int)) (l0 : List Int) (a1 : Int) : Option (Int × Int × Int) := (spec_l10Code.f k l0 0 [a1]).bind fun t1 => if t1 = 0 then (r0 l0 a1 0 (-1) 0) else (some (0, 0, t1))
noncomputable def spec_WorstSlot.f (k : Nat) (l0 : List Int) (a1 : Int) : Option (Int × Int × Int) := spec_WorstSlot.g k (spec_WorstSlot.l0 k k) l0 a1
noncomputable def S58 (k : Nat) : Does := ⟨[(false, [.dat (.list (.int .i64))]), (false, [.dat (.int .i64)])], [(false, [.dat (.int .i64)]), (false, [.dat (.int .i64)]), (false, [.dat (.int .i64)])], fun x => spec_WorstSlot.f k x.1 x.2⟩
noncomputable def E58 (k : Nat) : En := ⟨tb, orcOf [(135, S135 k), (138, S138 k)], lvOf [(0, [(0, []), (1, []), (8, []), (9, []), (10, [])])], k, 0, lvOf [], []⟩
noncomputable def n58_0 (x0 : List Int) (x1 : Int) (x8 : Int) (x9 : Int) (x10 : Int) : St := ⟨36, lookA [(0, .dat (.list (.int .i64)) x0), (1, .dat (.int .i64) x1), (8, .dat (.int .i64) x8), (9, .dat (.int .i64) x9), (10, .dat (.int .i64) x10)], Go.V.look []⟩
def p58_0 : List Bool := [true, true, true, false, true, false]
theorem r58_0 (k : Nat) (rec : St → Option (Int × Int × Int)) (v : (List Int) × Int × Int × Int × Int) : roundF (E58 k) (S58 k) Try.f58 p58_0 [] rec (n58_0 v.1 v.2.1 v.2.2.1 v.2.2.2.1 v.2.2.2.2) = spec_WorstSlot.s0 k (fun a0 a1 a2 a3 a4 => rec (n58_0 a0 a1 a2 a3 a4)) v.1 v.2.1 v.2.2.1 v.2.2.2.1 v.2.2.2.2 := by
  kernel_rfl
theorem q58_0 (k : Nat) (n : Nat) : ∀ v : (List Int) × Int × Int × Int × Int, loopF (E58 k) (S58 k) Try.f58 p58_0 [] n (n58_0 v.1 v.2.1 v.2.2.1 v.2.2.2.1 v.2.2.2.2) = spec_WorstSlot.l0 k n v.1 v.2.1 v.2.2.1 v.2.2.2.1 v.2.2.2.2 :=
  loopF_eq (E58 k) (S58 k) Try.f58 p58_0 [] (fun v : (List Int) × Int × Int × Int × Int => n58_0 v.1 v.2.1 v.2.2.1 v.2.2.2.1 v.2.2.2.2) (fun rec v => spec_WorstSlot.s0 k (fun a0 a1 a2 a3 a4 => rec (a0, a1, a2, a3, a4)) v.1 v.2.1 v.2.2.1 v.2.2.2.1 v.2.2.2.2) (fun n v => spec_WorstSlot.l0 k n v.1 v.2.1 v.2.2.1 v.2.2.2.1 v.2.2.2.2) (fun _ => rfl) (fun _ _ => rfl) (fun rec v => r58_0 k rec v) n
theorem e58 (k : Nat) (x : dens (flatC (S58 k).ps)) : funK (E58 k) (S58 k) Try.f58 x = (S58 k).fn x := by
  have h : funK (E58 k) (S58 k) Try.f58 x = spec_WorstSlot.g k (fun a0 a1 a2 a3 a4 => loopF (E58 k) (S58 k) Try.f58 p58_0 [] k (n58_0 a0 a1 a2 a3 a4)) x.1 x.2 := by kernel_rfl
  rw [h]
  rw [show (fun a0 a1 a2 a3 a4 => loopF (E58 k) (S58 k) Try.f58 p58_0 [] k (n58_0 a0 a1 a2 a3 a4)) = spec_WorstSlot.l0 k k from funext fun a0 => funext fun a1 => funext fun a2 => funext fun a3 => funext fun a4 => q58_0 k k (a0, a1, a2, a3, a4)]
  rfl
theorem M58 (k : Nat) : Meets Try.prog 58 (S58 k) := meets_of Try.func58 (by kernel_rfl) tbOk (orc_cons (M135 k) (orc_cons (M138 k) orc_nil)) mixOk (fun x y h => (e58 k x).trans h) rfl

/-! spec_DrawWaitForBoth: function 59 -/
noncomputable def spec_DrawWaitForBoth.f (k : Nat) (l0 : List Int) : Option ((List Int) × Int × Int × Int) := (spec_l01From.f k l0).bind fun t1 => (spec_l10With.f k l0).bind fun t2 => if 0 < (t2.1.length : Int) then ((spec_l01Next.f (t1.1, t1.2.1, t1.2.2) 4).bind fun t3 => if 0 < t3.1 then ((spec_l01Next.f (t3.2.1, t3.2.2.1, t3.2.2.2) (t2.1.length : Int)).bind fun t4 => if 0 ≤ t4.1 then (if t4.1 < (t2.1.length : Int) then ((spec_l01Near.f (t4.2.1, t4.2.2.1, t4.2.2.2) (maxV (wrap64 ((minV (t2.1.length : Int) 120) - 1)) 0)).bind fun t5 => some (t2.1, t2.2, (rd t2.1 t4.1), t5.1)) else (none)) else (none)) else ((spec_l01Near.f (t3.2.1, t3.2.2.1, t3.2.2.2) (maxV (wrap64 ((minV (t2.1.length : Int) 120) - 1)) 0)).bind fun t6 => some (t2.1, t2.2, t2.2, t6.1))) else ((spec_l01Near.f (t1.1, t1.2.1, t1.2.2) (maxV (wrap64 ((minV (t2.1.length : Int) 120) - 1)) 0)).bind fun t7 => some (t2.1, t2.2, t2.2, t7.1))
noncomputable def S59 (k : Nat) : Does := ⟨[(false, [.dat (.list (.int .u8))])], [(false, [.own 2 (.int .i64)]), (false, [.dat (.int .i64)]), (false, [.dat (.int .i64)]), (false, [.dat (.int .i64)])], fun x => spec_DrawWaitForBoth.f k x⟩
noncomputable def E59 (k : Nat) : En := ⟨tb, orcOf [(126, S126 k), (131, S131 k), (139, S139 k), (127, S127 k)], lvOf [], k, 0, lvOf [], []⟩
theorem e59 (k : Nat) (x : dens (flatC (S59 k).ps)) : funK (E59 k) (S59 k) Try.f59 x = (S59 k).fn x := by
  kernel_rfl
theorem M59 (k : Nat) : Meets Try.prog 59 (S59 k) := meets_of Try.func59 (by kernel_rfl) tbOk (orc_cons (M126 k) (orc_cons (M131 k) (orc_cons (M139 k) (orc_cons (M127 k) orc_nil)))) mixOk (fun x y h => (e59 k x).trans h) rfl

/-! impl_isSlot: function 140 -/
noncomputable def impl_isSlot.f (l0 : List Int) (a1 : Int) : Option (Bool) := (impl_length_int64.f l0).bind fun t1 => (impl_within.f a1 0 (wrap64 (t1 - 1))).bind fun t2 => some t2
noncomputable def S140 (k : Nat) : Does := ⟨[(false, [.dat (.list (.int .i64))]), (false, [.dat (.int .i64)])], [(false, [.dat .bool])], fun x => impl_isSlot.f x.1 x.2⟩
noncomputable def E140 (k : Nat) : En := ⟨tb, orcOf [(101, S101 k), (104, S104 k)], lvOf [], k, 0, lvOf [], []⟩
theorem e140 (k : Nat) (x : dens (flatC (S140 k).ps)) : funK (E140 k) (S140 k) Try.f140 x = (S140 k).fn x := by
  kernel_rfl
theorem M140 (k : Nat) : Meets Try.prog 140 (S140 k) := meets_of Try.func140 (by kernel_rfl) tbOk (orc_cons (M101 k) (orc_cons (M104 k) orc_nil)) mixOk (fun x y h => (e140 k x).trans h) rfl

/-! impl_WaitForBoth: function 60 -/
noncomputable def impl_WaitForBoth.f (k : Nat) (l0 : List Int) (a1 : Int) (a2 : Int) (a3 : Int) : Option (Int × Int) := (impl_isSlot.f l0 a3).bind fun t1 => (impl_waitCode.f k l0 t1 [a1, a2]).bind fun t2 => if t2 = 0 then ((impl_wait.f k l0 a1 a3).bind fun t3 => (impl_wait.f k l0 a2 a3).bind fun t4 => some ((maxV t3 t4), 0)) else (some (0, t2))
noncomputable def S60 (k : Nat) : Does := ⟨[(false, [.dat (.list (.int .i64))]), (false, [.dat (.int .i64)]), (false, [.dat (.int .i64)]), (false, [.dat (.int .i64)])], [(false, [.dat (.int .i64)]), (false, [.dat (.int .i64)])], fun x => impl_WaitForBoth.f k x.1 x.2.1 x.2.2.1 x.2.2.2⟩
noncomputable def E60 (k : Nat) : En := ⟨tb, orcOf [(140, S140 k), (132, S132 k), (137, S137 k)], lvOf [], k, 0, lvOf [], []⟩
theorem e60 (k : Nat) (x : dens (flatC (S60 k).ps)) : funK (E60 k) (S60 k) Try.f60 x = (S60 k).fn x := by
  kernel_rfl
theorem M60 (k : Nat) : Meets Try.prog 60 (S60 k) := meets_of Try.func60 (by kernel_rfl) tbOk (orc_cons (M140 k) (orc_cons (M132 k) (orc_cons (M137 k) orc_nil))) mixOk (fun x y h => (e60 k x).trans h) rfl

/-! spec_WaitForBoth: function 61 -/
noncomputable def spec_WaitForBoth.f (k : Nat) (l0 : List Int) (a1 : Int) (a2 : Int) (a3 : Int) : Option (Int × Int) := (spec_l10Code.f k l0 a3 [a1, a2]).bind fun t1 => if t1 = 0 then ((spec_l10Wait.f k l0 a1 a3).bind fun t2 => (spec_l10Wait.f k l0 a2 a3).bind fun t3 => some ((maxV t2 t3), 0)) else (some (0, t1))
noncomputable def S61 (k : Nat) : Does := ⟨[(false, [.dat (.list (.int .i64))]), (false, [.dat (.int .i64)]), (false, [.dat (.int .i64)]), (false, [.dat (.int .i64)])], [(false, [.dat (.int .i64)]), (false, [.dat (.int .i64)])], fun x => spec_WaitForBoth.f k x.1 x.2.1 x.2.2.1 x.2.2.2⟩
noncomputable def E61 (k : Nat) : En := ⟨tb, orcOf [(135, S135 k), (138, S138 k)], lvOf [], k, 0, lvOf [], []⟩
theorem e61 (k : Nat) (x : dens (flatC (S61 k).ps)) : funK (E61 k) (S61 k) Try.f61 x = (S61 k).fn x := by
  kernel_rfl
theorem M61 (k : Nat) : Meets Try.prog 61 (S61 k) := meets_of Try.func61 (by kernel_rfl) tbOk (orc_cons (M135 k) (orc_cons (M138 k) orc_nil)) mixOk (fun x y h => (e61 k x).trans h) rfl

/-! impl_MeanForBoth: function 62 -/
noncomputable def impl_MeanForBoth.s0 (k : Nat) (r0 : (List Int) → Int → Int → Int → Int → Int → Option (Int × Int × Int)) (x0 : List Int) (x1 : Int) (x2 : Int) (x10 : Int) (x21 : Int) (x22 : Int) : Option (Int × Int × Int) := if x22 < x21 then ((impl_wait.f k x0 x1 x22).bind fun t3 => (impl_wait.f k x0 x2 x22).bind fun t4 => r0 x0 x1 x2 (wrap64 (x10 + (maxV t3 t4))) x21 (wrap64 (x22 + 1))) else ((impl_length_int64.f x0).bind fun t5 => (impl_fraction.f k x10 t5).bind fun t6 => some (t6.1, t6.2.1, t6.2.2))
noncomputable def impl_MeanForBoth.l0 (k : Nat) : Nat → (List Int) → Int → Int → Int → Int → Int → Option (Int × Int × Int)
  | 0, _, _, _, _, _, _ => none
  | n + 1, x0, x1, x2, x3, x4, x5 => impl_MeanForBoth.s0 k (impl_MeanForBoth.l0 k n) x0 x1 x2 x3 x4 x5
noncomputable def impl_MeanForBoth.g (k : Nat) (r0 : (List Int) → Int → Int → Int → Int → Int → Option (Int × Int × Int)) (l0 : List Int) (a1 : Int) (a2 : Int) : Option (Int × Int × Int) := (impl_waitCode.f k l0 true [a1, a2]).bind fun t1 => if t1 = 0 then ((impl_length_int64.f l0).bind fun t2 => r0 l0 a1 a2 0 t2 0) else (some (0, 0, t1))
noncomputable def impl_MeanForBoth.f (k : Nat) (l0 : List Int) (a1 : Int) (a2 : Int) : Option (Int × Int × Int) := impl_MeanForBoth.g k (impl_MeanForBoth.l0 k k) l0 a1 a2
noncomputable def S62 (k : Nat) : Does := ⟨[(false, [.dat (.list (.int .i64))]), (false, [.dat (.int .i64)]), (false, [.dat (.int .i64)])], [(false, [.dat (.int .i64)]), (false, [.dat (.int .i64)]), (false, [.dat (.int .i64)])], fun x => impl_MeanForBoth.f k x.1 x.2.1 x.2.2⟩
noncomputable def E62 (k : Nat) : En := ⟨tb, orcOf [(132, S132 k), (101, S101 k), (137, S137 k), (133, S133 k)], lvOf [(0, [(0, []), (1, []), (2, []), (10, []), (21, []), (22, [])])], k, 0, lvOf [], []⟩
noncomputable def n62_0 (x0 : List Int) (x1 : Int) (x2 : Int) (x10 : Int) (x21 : Int) (x22 : Int) : St := ⟨44, lookA [(0, .dat (.list (.int .i64)) x0), (1, .dat (.int .i64) x1), (2, .dat (.int .i64) x2), (10, .dat (.int .i64) x10), (21, .dat (.int .i64) x21), (22, .dat (.int .i64) x22)], Go.V.look []⟩
def p62_0 : List Bool := [true, true, true, false, true, false]
theorem r62_0 (k : Nat) (rec : St → Option (Int × Int × Int)) (v : (List Int) × Int × Int × Int × Int × Int) : roundF (E62 k) (S62 k) Try.f62 p62_0 [] rec (n62_0 v.1 v.2.1 v.2.2.1 v.2.2.2.1 v.2.2.2.2.1 v.2.2.2.2.2) = impl_MeanForBoth.s0 k (fun a0 a1 a2 a3 a4 a5 => rec (n62_0 a0 a1 a2 a3 a4 a5)) v.1 v.2.1 v.2.2.1 v.2.2.2.1 v.2.2.2.2.1 v.2.2.2.2.2 := by
  kernel_rfl
theorem q62_0 (k : Nat) (n : Nat) : ∀ v : (List Int) × Int × Int × Int × Int × Int, loopF (E62 k) (S62 k) Try.f62 p62_0 [] n (n62_0 v.1 v.2.1 v.2.2.1 v.2.2.2.1 v.2.2.2.2.1 v.2.2.2.2.2) = impl_MeanForBoth.l0 k n v.1 v.2.1 v.2.2.1 v.2.2.2.1 v.2.2.2.2.1 v.2.2.2.2.2 :=
  loopF_eq (E62 k) (S62 k) Try.f62 p62_0 [] (fun v : (List Int) × Int × Int × Int × Int × Int => n62_0 v.1 v.2.1 v.2.2.1 v.2.2.2.1 v.2.2.2.2.1 v.2.2.2.2.2) (fun rec v => impl_MeanForBoth.s0 k (fun a0 a1 a2 a3 a4 a5 => rec (a0, a1, a2, a3, a4, a5)) v.1 v.2.1 v.2.2.1 v.2.2.2.1 v.2.2.2.2.1 v.2.2.2.2.2) (fun n v => impl_MeanForBoth.l0 k n v.1 v.2.1 v.2.2.1 v.2.2.2.1 v.2.2.2.2.1 v.2.2.2.2.2) (fun _ => rfl) (fun _ _ => rfl) (fun rec v => r62_0 k rec v) n
theorem e62 (k : Nat) (x : dens (flatC (S62 k).ps)) : funK (E62 k) (S62 k) Try.f62 x = (S62 k).fn x := by
  have h : funK (E62 k) (S62 k) Try.f62 x = impl_MeanForBoth.g k (fun a0 a1 a2 a3 a4 a5 => loopF (E62 k) (S62 k) Try.f62 p62_0 [] k (n62_0 a0 a1 a2 a3 a4 a5)) x.1 x.2.1 x.2.2 := by kernel_rfl
  rw [h]
  rw [show (fun a0 a1 a2 a3 a4 a5 => loopF (E62 k) (S62 k) Try.f62 p62_0 [] k (n62_0 a0 a1 a2 a3 a4 a5)) = impl_MeanForBoth.l0 k k from funext fun a0 => funext fun a1 => funext fun a2 => funext fun a3 => funext fun a4 => funext fun a5 => q62_0 k k (a0, a1, a2, a3, a4, a5)]
  rfl
theorem M62 (k : Nat) : Meets Try.prog 62 (S62 k) := meets_of Try.func62 (by kernel_rfl) tbOk (orc_cons (M132 k) (orc_cons (M101 k) (orc_cons (M137 k) (orc_cons (M133 k) orc_nil)))) mixOk (fun x y h => (e62 k x).trans h) rfl

/-! spec_MeanForBoth: function 63 -/
noncomputable def spec_MeanForBoth.f (k : Nat) (l0 : List Int) (a1 : Int) (a2 : Int) : Option (Int × Int × Int) := (spec_l10Code.f k l0 0 [a1, a2]).bind fun t1 => if t1 = 0 then ((spec_l10Sum.f k l0 a1 a2).bind fun t2 => (spec_l01Lowest.f k t2 (l0.length : Int)).bind fun t3 => some (t3.1, t3.2, 0)) else (some (0, 0, t1))
noncomputable def S63 (k : Nat) : Does := ⟨[(false, [.dat (.list (.int .i64))]), (false, [.dat (.int .i64)]), (false, [.dat (.int .i64)])], [(false, [.dat (.int .i64)]), (false, [.dat (.int .i64)]), (false, [.dat (.int .i64)])], fun x => spec_MeanForBoth.f k x.1 x.2.1 x.2.2⟩
noncomputable def E63 (k : Nat) : En := ⟨tb, orcOf [(135, S135 k), (136, S136 k), (125, S125 k)], lvOf [], k, 0, lvOf [], []⟩
theorem e63 (k : Nat) (x : dens (flatC (S63 k).ps)) : funK (E63 k) (S63 k) Try.f63 x = (S63 k).fn x := by
  kernel_rfl
theorem M63 (k : Nat) : Meets Try.prog 63 (S63 k) := meets_of Try.func63 (by kernel_rfl) tbOk (orc_cons (M135 k) (orc_cons (M136 k) (orc_cons (M125 k) orc_nil))) mixOk (fun x y h => (e63 k x).trans h) rfl

/-! spec_DrawCountWithin: function 64 -/
noncomputable def spec_DrawCountWithin.f (k : Nat) (l0 : List Int) : Option ((List Int) × Int × Int) := (spec_l01From.f k l0).bind fun t1 => (spec_l10With.f k l0).bind fun t2 => (spec_l01Pick.f (t1.1, t1.2.1, t1.2.2) [2, 6, 120]).bind fun t3 => (spec_l01Near.f (t3.2.1, t3.2.2.1, t3.2.2.2) t3.1).bind fun t4 => some (t2.1, t2.2, t4.1)
noncomputable def S64 (k : Nat) : Does := ⟨[(false, [.dat (.list (.int .u8))])], [(false, [.own 2 (.int .i64)]), (false, [.dat (.int .i64)]), (false, [.dat (.int .i64)])], fun x => spec_DrawCountWithin.f k x⟩
noncomputable def E64 (k : Nat) : En := ⟨tb, orcOf [(126, S126 k), (131, S131 k), (128, S128 k), (127, S127 k)], lvOf [], k, 0, lvOf [], []⟩
theorem e64 (k : Nat) (x : dens (flatC (S64 k).ps)) : funK (E64 k) (S64 k) Try.f64 x = (S64 k).fn x := by
  kernel_rfl
theorem M64 (k : Nat) : Meets Try.prog 64 (S64 k) := meets_of Try.func64 (by kernel_rfl) tbOk (orc_cons (M126 k) (orc_cons (M131 k) (orc_cons (M128 k) (orc_cons (M127 k) orc_nil)))) mixOk (fun x y h => (e64 k x).trans h) rfl

/-! impl_CountWithin: function 65 -/
noncomputable def impl_CountWithin.s0 (k : Nat) (r0 : (List Int) → Int → Int → Int → Int → Int → Option (Int × Int)) (x0 : List Int) (x1 : Int) (x2 : Int) (x9 : Int) (x21 : Int) (x22 : Int) : Option (Int × Int) := if x22 < x21 then ((impl_wait.f k x0 x1 x22).bind fun t4 => if t4 ≤ x2 then (r0 x0 x1 x2 (wrap64 (x9 + 1)) x21 (wrap64 (x22 + 1))) else (r0 x0 x1 x2 x9 x21 (wrap64 (x22 + 1)))) else (some (x9, 0))
noncomputable def impl_CountWithin.l0 (k : Nat) : Nat → (List Int) → Int → Int → Int → Int → Int → Option (Int × Int)
  | 0, _, _, _, _, _, _ => none
  | n + 1, x0, x1, x2, x3, x4, x5 => impl_CountWithin.s0 k (impl_CountWithin.l0 k n) x0 x1 x2 x3 x4 x5
noncomputable def impl_CountWithin.g (k : Nat) (r0 : (List Int) → Int → Int → Int → Int → Int → Option (Int × Int)) (l0 : List Int) (a1 : Int) (a2 : Int) : Option (Int × Int) := (impl_within.f a2 0 120).bind fun t1 => (impl_waitCode.f k l0 t1 [a1]).bind fun t2 => if t2 = 0 then ((impl_length_int64.f l0).bind fun t3 => r0 l0 a1 a2 0 t3 0) else (some (0, t2))
noncomputable def impl_CountWithin.f (k : Nat) (l0 : List Int) (a1 : Int) (a2 : Int) : Option (Int × Int) := impl_CountWithin.g k (impl_CountWithin.l0 k k) l0 a1 a2
noncomputable def S65 (k : Nat) : Does := ⟨[(false, [.dat (.list (.int .i64))]), (false, [.dat (.int .i64)]), (false, [.dat (.int .i64)])], [(false, [.dat (.int .i64)]), (false, [.dat (.int .i64)])], fun x => impl_CountWithin.f k x.1 x.2.1 x.2.2⟩
noncomputable def E65 (k : Nat) : En := ⟨tb, orcOf [(104, S104 k), (132, S132 k), (101, S101 k), (137, S137 k)], lvOf [(0, [(0, []), (1, []), (2, []), (9, []), (21, []), (22, [])])], k, 0, lvOf [], []⟩
noncomputable def n65_0 (x0 : List Int) (x1 : Int) (x2 : Int) (x9 : Int) (x21 : Int) (x22 : Int) : St := ⟨35, lookA [(0, .dat (.list (.int .i64)) x0), (1, .dat (.int .i64) x1), (2, .dat (.int .i64) x2), (9, .dat (.int .i64) x9), (21, .dat (.int .i64) x21), (22, .dat (.int .i64) x22)], Go.V.look []⟩
def p65_0 : List Bool := [true, true, true, false, true, false]
theorem r65_0 (k : Nat) (rec : St → Option (Int × Int)) (v : (List Int) × Int × Int × Int × Int × Int) : roundF (E65 k) (S65 k) Try.f65 p65_0 [] rec (n65_0 v.1 v.2.1 v.2.2.1 v.2.2.2.1 v.2.2.2.2.1 v.2.2.2.2.2) = impl_CountWithin.s0 k (fun a0 a1 a2 a3 a4 a5 => rec (n65_0 a0 a1 a2 a3 a4 a5)) v.1 v.2.1 v.2.2.1 v.2.2.2.1 v.2.2.2.2.1 v.2.2.2.2.2 := by
  kernel_rfl
theorem q65_0 (k : Nat) (n : Nat) : ∀ v : (List Int) × Int × Int × Int × Int × Int, loopF (E65 k) (S65 k) Try.f65 p65_0 [] n (n65_0 v.1 v.2.1 v.2.2.1 v.2.2.2.1 v.2.2.2.2.1 v.2.2.2.2.2) = impl_CountWithin.l0 k n v.1 v.2.1 v.2.2.1 v.2.2.2.1 v.2.2.2.2.1 v.2.2.2.2.2 :=
  loopF_eq (E65 k) (S65 k) Try.f65 p65_0 [] (fun v : (List Int) × Int × Int × Int × Int × Int => n65_0 v.1 v.2.1 v.2.2.1 v.2.2.2.1 v.2.2.2.2.1 v.2.2.2.2.2) (fun rec v => impl_CountWithin.s0 k (fun a0 a1 a2 a3 a4 a5 => rec (a0, a1, a2, a3, a4, a5)) v.1 v.2.1 v.2.2.1 v.2.2.2.1 v.2.2.2.2.1 v.2.2.2.2.2) (fun n v => impl_CountWithin.l0 k n v.1 v.2.1 v.2.2.1 v.2.2.2.1 v.2.2.2.2.1 v.2.2.2.2.2) (fun _ => rfl) (fun _ _ => rfl) (fun rec v => r65_0 k rec v) n
theorem e65 (k : Nat) (x : dens (flatC (S65 k).ps)) : funK (E65 k) (S65 k) Try.f65 x = (S65 k).fn x := by
  have h : funK (E65 k) (S65 k) Try.f65 x = impl_CountWithin.g k (fun a0 a1 a2 a3 a4 a5 => loopF (E65 k) (S65 k) Try.f65 p65_0 [] k (n65_0 a0 a1 a2 a3 a4 a5)) x.1 x.2.1 x.2.2 := by kernel_rfl
  rw [h]
  rw [show (fun a0 a1 a2 a3 a4 a5 => loopF (E65 k) (S65 k) Try.f65 p65_0 [] k (n65_0 a0 a1 a2 a3 a4 a5)) = impl_CountWithin.l0 k k from funext fun a0 => funext fun a1 => funext fun a2 => funext fun a3 => funext fun a4 => funext fun a5 => q65_0 k k (a0, a1, a2, a3, a4, a5)]
  rfl
theorem M65 (k : Nat) : Meets Try.prog 65 (S65 k) := meets_of Try.func65 (by kernel_rfl) tbOk (orc_cons (M104 k) (orc_cons (M132 k) (orc_cons (M101 k) (orc_cons (M137 k) orc_nil)))) mixOk (fun x y h => (e65 k x).trans h) rfl

/-! spec_CountWithin: function 66 -/
noncomputable def spec_CountWithin.s0 (k : Nat) (r0 : (List Int) → Int → Int → Int → Int → Option (Int × Int)) (x0 : List Int) (x1 : Int) (x2 : Int) (x9 : Int) (x10 : Int) : Option (Int × Int) := if x10 < (x0.length : Int) then ((spec_l10Wait.f k x0 x1 x10).bind fun t2 => if t2 ≤ x2 then (r0 x0 x1 x2 (wrap64 (x9 + 1)) (wrap64 (x10 + 1))) else (r0 x0 x1 x2 x9 (wrap64 (x10 + 1)))) else (some (x9, 0))
noncomputable def spec_CountWithin.l0 (k : Nat) : Nat → (List Int) → Int → Int → Int → Int → Option (Int × Int)
  | 0, _, _, _, _, _ => none
  | n + 1, x0, x1, x2, x3, x4 => spec_CountWithin.s0 k (spec_CountWithin.l0 k n) x0 x1 x2 x3 x4
noncomputable def spec_CountWithin.g (k : Nat) (r0 : (List Int) → Int → Int → Int → Int → Option (Int × Int)) (l0 : List Int) (a1 : Int) (a2 : Int) : Option (Int × Int) := (spec_l10Code.f k l0 0 [a1]).bind fun t1 => if t1 = 2 then (if t1 = 0 then (r0 l0 a1 a2 0 0) else (some (0, t1))) else ((spec_l01In.f a2 0 120).bind fun t3 => if t3 = true then (if t1 = 0 then (r0 l0 a1 a2 0 0) else (some (0, t1))) else (some (0, 2)))
noncomputable def spec_CountWithin.f (k : Nat) (l0 : List Int) (a1 : Int) (a2 : Int) : Option (Int × Int) := spec_CountWithin.g k (spec_CountWithin.l0 k k) l0 a1 a2
noncomputable def S66 (k : Nat) : Does := ⟨[(false, [.dat (.list (.int .i64))]), (false, [.dat (.int .i64)]), (false, [.dat (.int .i64)])], [(false, [.dat (.int .i64)]), (false, [.dat (.int .i64)])], fun x => spec_CountWithin.f k x.1 x.2.1 x.2.2⟩
noncomputable def E66 (k : Nat) : En := ⟨tb, orcOf [(135, S135 k), (138, S138 k), (99, S99 k)], lvOf [(0, [(0, []), (1, []), (2, []), (9, []), (10, [])])], k, 0, lvOf [], []⟩
noncomputable def n66_0 (x0 : List Int) (x1 : Int) (x2 : Int) (x9 : Int) (x10 : Int) : St := ⟨40, lookA [(0, .dat (.list (.int .i64)) x0), (1, .dat (.int .i64) x1), (2, .dat (.int .i64) x2), (9, .dat (.int .i64) x9), (10, .dat (.int .i64) x10)], Go.V.look []⟩
def p66_0 : List Bool := [true, true, true, true, true, false, true, false]
theorem r66_0 (k : Nat) (rec : St → Option (Int × Int)) (v : (List Int) × Int × Int × Int × Int) : roundF (E66 k) (S66 k) Try.f66 p66_0 [] rec (n66_0 v.1 v.2.1 v.2.2.1 v.2.2.2.1 v.2.2.2.2) = spec_CountWithin.s0 k (fun a0 a1 a2 a3 a4 => rec (n66_0 a0 a1 a2 a3 a4)) v.1 v.2.1 v.2.2.1 v.2.2.2.1 v.2.2.2.2 := by
  kernel_rfl
theorem q66_0 (k : Nat) (n : Nat) : ∀ v : (List Int) × Int × Int × Int × Int, loopF (E66 k) (S66 k) Try.f66 p66_0 [] n (n66_0 v.1 v.2.1 v.2.2.1 v.2.2.2.1 v.2.2.2.2) = spec_CountWithin.l0 k n v.1 v.2.1 v.2.2.1 v.2.2.2.1 v.2.2.2.2 :=
  loopF_eq (E66 k) (S66 k) Try.f66 p66_0 [] (fun v : (List Int) × Int × Int × Int × Int => n66_0 v.1 v.2.1 v.2.2.1 v.2.2.2.1 v.2.2.2.2) (fun rec v => spec_CountWithin.s0 k (fun a0 a1 a2 a3 a4 => rec (a0, a1, a2, a3, a4)) v.1 v.2.1 v.2.2.1 v.2.2.2.1 v.2.2.2.2) (fun n v => spec_CountWithin.l0 k n v.1 v.2.1 v.2.2.1 v.2.2.2.1 v.2.2.2.2) (fun _ => rfl) (fun _ _ => rfl) (fun rec v => r66_0 k rec v) n
theorem e66 (k : Nat) (x : dens (flatC (S66 k).ps)) : funK (E66 k) (S66 k) Try.f66 x = (S66 k).fn x := by
  have h : funK (E66 k) (S66 k) Try.f66 x = spec_CountWithin.g k (fun a0 a1 a2 a3 a4 => loopF (E66 k) (S66 k) Try.f66 p66_0 [] k (n66_0 a0 a1 a2 a3 a4)) x.1 x.2.1 x.2.2 := by kernel_rfl
  rw [h]
  rw [show (fun a0 a1 a2 a3 a4 => loopF (E66 k) (S66 k) Try.f66 p66_0 [] k (n66_0 a0 a1 a2 a3 a4)) = spec_CountWithin.l0 k k from funext fun a0 => funext fun a1 => funext fun a2 => funext fun a3 => funext fun a4 => q66_0 k k (a0, a1, a2, a3, a4)]
  rfl
theorem M66 (k : Nat) : Meets Try.prog 66 (S66 k) := meets_of Try.func66 (by kernel_rfl) tbOk (orc_cons (M135 k) (orc_cons (M138 k) (orc_cons (M99 k) orc_nil))) mixOk (fun x y h => (e66 k x).trans h) rfl

/-! spec_l10DrawWeights: function 141 -/
noncomputable def spec_l10DrawWeights.s0 (k : Nat) (r0 : (List Int) → Int → Int → (List Int) → Int → Int → Option ((List Int) × ((List Int) × Int × Int))) (x0_0 : List Int) (x0_1 : Int) (x0_2 : Int) (x5 : List Int) (x6 : Int) (x7 : Int) : Option ((List Int) × ((List Int) × Int × Int)) := if 0 < x7 then ((spec_l01Next.f (x0_0, x0_1, x0_2) x6).bind fun t3 => if x5.length + 1 ≤ 1099511627776 then (r0 t3.2.1 t3.2.2.1 t3.2.2.2 (x5 ++ [t3.1]) x6 (wrap64 (x7 - 1))) else (none)) else ((spec_l01Next.f (x0_0, x0_1, x0_2) 24).bind fun t4 => if (decide (t4.1 = 0)) = true then ((spec_l01Pick.f (t4.2.1, t4.2.2.1, t4.2.2.2) [(-1), 101, 0]).bind fun t5 => if 0 < (x5.length : Int) then (some ((x5.set (0 : Int).toNat t5.1), t5.2.1, t5.2.2.1, t5.2.2.2)) else (none)) else (if (decide (t4.1 = 1)) = true then (if x5.length + 2 ≤ 1099511627776 then (some ((x5 ++ [1, 1]), t4.2.1, t4.2.2.1, t4.2.2.2)) else (none)) else (some (x5, t4.2.1, t4.2.2.1, t4.2.2.2))))
noncomputable def spec_l10DrawWeights.l0 (k : Nat) : Nat → (List Int) → Int → Int → (List Int) → Int → Int → Option ((List Int) × ((List Int) × Int × Int))
  | 0, _, _, _, _, _, _ => none
  | n + 1, x0, x1, x2, x3, x4, x5 => spec_l10DrawWeights.s0 k (spec_l10DrawWeights.l0 k n) x0 x1 x2 x3 x4 x5
noncomputable def spec_l10DrawWeights.g (k : Nat) (r0 : (List Int) → Int → Int → (List Int) → Int → Int → Option ((List Int) × ((List Int) × Int × Int))) (a0 : (List Int) × Int × Int) (a1 : Int) : Option ((List Int) × ((List Int) × Int × Int)) := (spec_l01Pick.f (a0.1, a0.2.1, a0.2.2) [4, 10, 101]).bind fun t1 => (spec_l01Next.f (t1.2.1, t1.2.2.1, t1.2.2.2) a1).bind fun t2 => r0 t2.2.1 t2.2.2.1 t2.2.2.2 [] t1.1 (wrap64 (1 + t2.1))
noncomputable def spec_l10DrawWeights.f (k : Nat) (a0 : (List Int) × Int × Int) (a1 : Int) : Option ((List Int) × ((List Int) × Int × Int)) := spec_l10DrawWeights.g k (spec_l10DrawWeights.l0 k k) a0 a1
noncomputable def S141 (k : Nat) : Does := ⟨[(false, [.cel (.struct (.pair (.list (.int .u8)) (.pair (.int .i64) (.int .u64))))]), (false, [.dat (.int .i64)])], [(false, [.own 2 (.int .i64)])], fun x => spec_l10DrawWeights.f k x.1 x.2⟩
noncomputable def E141 (k : Nat) : En := ⟨tb, orcOf [(128, S128 k), (139, S139 k)], lvOf [(0, [(0, []), (5, []), (6, []), (7, [])])], k, 1, lvOf [], []⟩
noncomputable def n141_0 (x0_0 : List Int) (x0_1 : Int) (x0_2 : Int) (x5 : List Int) (x6 : Int) (x7 : Int) : St := ⟨41, lookA [(0, .box 0 0), (5, .own 1), (6, .dat (.int .i64) x6), (7, .dat (.int .i64) x7)], Go.V.look [(0, .cells [.dat (.list (.int .u8)) x0_0, .dat (.int .i64) x0_1, .dat (.int .u64) x0_2]), (1, .flat 2 (.int .i64) x5)]⟩
def p141_0 : List Bool := [true, true, false, true, false]
theorem r141_0 (k : Nat) (rec : St → Option ((List Int) × ((List Int) × Int × Int))) (v : (List Int) × Int × Int × (List Int) × Int × Int) : roundF (E141 k) (S141 k) Try.f141 p141_0 [] rec (n141_0 v.1 v.2.1 v.2.2.1 v.2.2.2.1 v.2.2.2.2.1 v.2.2.2.2.2) = spec_l10DrawWeights.s0 k (fun a0 a1 a2 a3 a4 a5 => rec (n141_0 a0 a1 a2 a3 a4 a5)) v.1 v.2.1 v.2.2.1 v.2.2.2.1 v.2.2.2.2.1 v.2.2.2.2.2 := by
  kernel_rfl
theorem q141_0 (k : Nat) (n : Nat) : ∀ v : (List Int) × Int × Int × (List Int) × Int × Int, loopF (E141 k) (S141 k) Try.f141 p141_0 [] n (n141_0 v.1 v.2.1 v.2.2.1 v.2.2.2.1 v.2.2.2.2.1 v.2.2.2.2.2) = spec_l10DrawWeights.l0 k n v.1 v.2.1 v.2.2.1 v.2.2.2.1 v.2.2.2.2.1 v.2.2.2.2.2 :=
  loopF_eq (E141 k) (S141 k) Try.f141 p141_0 [] (fun v : (List Int) × Int × Int × (List Int) × Int × Int => n141_0 v.1 v.2.1 v.2.2.1 v.2.2.2.1 v.2.2.2.2.1 v.2.2.2.2.2) (fun rec v => spec_l10DrawWeights.s0 k (fun a0 a1 a2 a3 a4 a5 => rec (a0, a1, a2, a3, a4, a5)) v.1 v.2.1 v.2.2.1 v.2.2.2.1 v.2.2.2.2.1 v.2.2.2.2.2) (fun n v => spec_l10DrawWeights.l0 k n v.1 v.2.1 v.2.2.1 v.2.2.2.1 v.2.2.2.2.1 v.2.2.2.2.2) (fun _ => rfl) (fun _ _ => rfl) (fun rec v => r141_0 k rec v) n
theorem e141 (k : Nat) (x : dens (flatC (S141 k).ps)) : funK (E141 k) (S141 k) Try.f141 x = (S141 k).fn x := by
  have h : funK (E141 k) (S141 k) Try.f141 x = spec_l10DrawWeights.g k (fun a0 a1 a2 a3 a4 a5 => loopF (E141 k) (S141 k) Try.f141 p141_0 [] k (n141_0 a0 a1 a2 a3 a4 a5)) x.1 x.2 := by kernel_rfl
  rw [h]
  rw [show (fun a0 a1 a2 a3 a4 a5 => loopF (E141 k) (S141 k) Try.f141 p141_0 [] k (n141_0 a0 a1 a2 a3 a4 a5)) = spec_l10DrawWeights.l0 k k from funext fun a0 => funext fun a1 => funext fun a2 => funext fun a3 => funext fun a4 => funext fun a5 => q141_0 k k (a0, a1, a2, a3, a4, a5)]
  rfl
theorem M141 (k : Nat) : Meets Try.prog 141 (S141 k) := meets_of Try.func141 (by kernel_rfl) tbOk (orc_cons (M128 k) (orc_cons (M139 k) orc_nil)) mixOk (fun x y h => (e141 k x).trans h) rfl

/-! spec_DrawMeanByWeights: function 67 -/
noncomputable def spec_DrawMeanByWeights.s0 (k : Nat) (r0 : (List Int) → Int → Int → (List Int) → (List Int) → Int → Int → Option ((List Int) × (List Int))) (x4_0 : List Int) (x4_1 : Int) (x4_2 : Int) (x5 : List Int) (x7 : List Int) (x19 : Int) (x20 : Int) : Option ((List Int) × (List Int)) := if x20 < x19 then ((spec_l01Next.f (x4_0, x4_1, x4_2) 6).bind fun t4 => if 0 < t4.1 then (if 0 < (x5.length : Int) then ((spec_l10Wait.f k x5 x20 0).bind fun t5 => if t5 < 0 then (if 0 ≤ x20 then (if x20 < (x7.length : Int) then (r0 t4.2.1 t4.2.2.1 t4.2.2.2 x5 (x7.set x20.toNat 0) x19 (wrap64 (x20 + 1))) else (none)) else (none)) else (r0 t4.2.1 t4.2.2.1 t4.2.2.2 x5 x7 x19 (wrap64 (x20 + 1)))) else (r0 t4.2.1 t4.2.2.1 t4.2.2.2 x5 x7 x19 (wrap64 (x20 + 1)))) else (r0 t4.2.1 t4.2.2.1 t4.2.2.2 x5 x7 x19 (wrap64 (x20 + 1)))) else (some (x5, x7))
noncomputable def spec_DrawMeanByWeights.l0 (k : Nat) : Nat → (List Int) → Int → Int → (List Int) → (List Int) → Int → Int → Option ((List Int) × (List Int))
  | 0, _, _, _, _, _, _, _ => none
  | n + 1, x0, x1, x2, x3, x4, x5, x6 => spec_DrawMeanByWeights.s0 k (spec_DrawMeanByWeights.l0 k n) x0 x1 x2 x3 x4 x5 x6
noncomputable def spec_DrawMeanByWeights.g (k : Nat) (r0 : (List Int) → Int → Int → (List Int) → (List Int) → Int → Int → Option ((List Int) × (List Int))) (l0 : List Int) : Option ((List Int) × (List Int)) := (spec_l01From.f k l0).bind fun t1 => (spec_l10With.f k l0).bind fun t2 => (spec_l10DrawWeights.f k (t1.1, t1.2.1, t1.2.2) 5).bind fun t3 => r0 t3.2.1 t3.2.2.1 t3.2.2.2 t2.1 t3.1 (t3.1.length : Int) 0
noncomputable def spec_DrawMeanByWeights.f (k : Nat) (l0 : List Int) : Option ((List Int) × (List Int)) := spec_DrawMeanByWeights.g k (spec_DrawMeanByWeights.l0 k k) l0
noncomputable def S67 (k : Nat) : Does := ⟨[(false, [.dat (.list (.int .u8))])], [(false, [.own 2 (.int .i64)]), (false, [.own 2 (.int .i64)])], fun x => spec_DrawMeanByWeights.f k x⟩
noncomputable def E67 (k : Nat) : En := ⟨tb, orcOf [(126, S126 k), (131, S131 k), (141, S141 k), (139, S139 k), (138, S138 k)], lvOf [(0, [(4, []), (5, []), (7, []), (19, []), (20, [])])], k, 0, lvOf [], []⟩
noncomputable def n67_0 (x4_0 : List Int) (x4_1 : Int) (x4_2 : Int) (x5 : List Int) (x7 : List Int) (x19 : Int) (x20 : Int) : St := ⟨43, lookA [(4, .box 0 0), (5, .own 1), (7, .own 2), (19, .dat (.int .i64) x19), (20, .dat (.int .i64) x20)], Go.V.look [(0, .cells [.dat (.list (.int .u8)) x4_0, .dat (.int .i64) x4_1, .dat (.int .u64) x4_2]), (1, .flat 2 (.int .i64) x5), (2, .flat 2 (.int .i64) x7)]⟩
def p67_0 : List Bool := [true, true, true, true, false, true, false]
theorem r67_0 (k : Nat) (rec : St → Option ((List Int) × (List Int))) (v : (List Int) × Int × Int × (List Int) × (List Int) × Int × Int) : roundF (E67 k) (S67 k) Try.f67 p67_0 [] rec (n67_0 v.1 v.2.1 v.2.2.1 v.2.2.2.1 v.2.2.2.2.1 v.2.2.2.2.2.1 v.2.2.2.2.2.2) = spec_DrawMeanByWeights.s0 k (fun a0 a1 a2 a3 a4 a5 a6 => rec (n67_0 a0 a1 a2 a3 a4 a5 a6)) v.1 v.2.1 v.2.2.1 v.2.2.2.1 v.2.2.2.2.1 v.2.2.2.2.2.1 v.2.2.2.2.2.2 := by
  kernel_rfl
theorem q67_0 (k : Nat) (n : Nat) : ∀ v : (List Int) × Int × Int × (List Int) × (List Int) × Int × Int, loopF (E67 k) (S67 k) Try.f67 p67_0 [] n (n67_0 v.1 v.2.1 v.2.2.1 v.2.2.2.1 v.2.2.2.2.1 v.2.2.2.2.2.1 v.2.2.2.2.2.2) = spec_DrawMeanByWeights.l0 k n v.1 v.2.1 v.2.2.1 v.2.2.2.1 v.2.2.2.2.1 v.2.2.2.2.2.1 v.2.2.2.2.2.2 :=
  loopF_eq (E67 k) (S67 k) Try.f67 p67_0 [] (fun v : (List Int) × Int × Int × (List Int) × (List Int) × Int × Int => n67_0 v.1 v.2.1 v.2.2.1 v.2.2.2.1 v.2.2.2.2.1 v.2.2.2.2.2.1 v.2.2.2.2.2.2) (fun rec v => spec_DrawMeanByWeights.s0 k (fun a0 a1 a2 a3 a4 a5 a6 => rec (a0, a1, a2, a3, a4, a5, a6)) v.1 v.2.1 v.2.2.1 v.2.2.2.1 v.2.2.2.2.1 v.2.2.2.2.2.1 v.2.2.2.2.2.2) (fun n v => spec_DrawMeanByWeights.l0 k n v.1 v.2.1 v.2.2.1 v.2.2.2.1 v.2.2.2.2.1 v.2.2.2.2.2.1 v.2.2.2.2.2.2) (fun _ => rfl) (fun _ _ => rfl) (fun rec v => r67_0 k rec v) n
theorem e67 (k : Nat) (x : dens (flatC (S67 k).ps)) : funK (E67 k) (S67 k) Try.f67 x = (S67 k).fn x := by
  have h : funK (E67 k) (S67 k) Try.f67 x = spec_DrawMeanByWeights.g k (fun a0 a1 a2 a3 a4 a5 a6 => loopF (E67 k) (S67 k) Try.f67 p67_0 [] k (n67_0 a0 a1 a2 a3 a4 a5 a6)) x := by kernel_rfl
  rw [h]
  rw [show (fun a0 a1 a2 a3 a4 a5 a6 => loopF (E67 k) (S67 k) Try.f67 p67_0 [] k (n67_0 a0 a1 a2 a3 a4 a5 a6)) = spec_DrawMeanByWeights.l0 k k from funext fun a0 => funext fun a1 => funext fun a2 => funext fun a3 => funext fun a4 => funext fun a5 => funext fun a6 => q67_0 k k (a0, a1, a2, a3, a4, a5, a6)]
  rfl
theorem M67 (k : Nat) : Meets Try.prog 67 (S67 k) := meets_of Try.func67 (by kernel_rfl) tbOk (orc_cons (M126 k) (orc_cons (M131 k) (orc_cons (M141 k) (orc_cons (M139 k) (orc_cons (M138 k) orc_nil))))) mixOk (fun x y h => (e67 k x).trans h) rfl

/-! impl_isMany: function 156 -/
noncomputable def impl_isMany.f (a0 : Int) : Option (Bool) := (impl_within.f a0 1 8).bind fun t1 => some t1
noncomputable def S156 (k : Nat) : Does := ⟨[(false, [.dat (.int .i64)])], [(false, [.dat .bool])], fun x => impl_isMany.f x⟩
noncomputable def E156 (k : Nat) : En := ⟨tb, orcOf [(104, S104 k)], lvOf [], k, 0, lvOf [], []⟩
theorem e156 (k : Nat) (x : dens (flatC (S156 k).ps)) : funK (E156 k) (S156 k) Try.f156 x = (S156 k).fn x := by
  kernel_rfl
theorem M156 (k : Nat) : Meets Try.prog 156 (S156 k) := meets_of Try.func156 (by kernel_rfl) tbOk (orc_cons (M104 k) orc_nil) mixOk (fun x y h => (e156 k x).trans h) rfl

/-! impl_areWeights_1: function 158 -/
noncomputable def impl_areWeights_1.f (a0 : Int) : Option (Bool) := (impl_within.f a0 0 100).bind fun t1 => some t1
noncomputable def S158 (k : Nat) : Does := ⟨[(false, [.dat (.int .i64)])], [(false, [.dat .bool])], fun x => impl_areWeights_1.f x⟩
noncomputable def E158 (k : Nat) : En := ⟨tb, orcOf [(104, S104 k)], lvOf [], k, 0, lvOf [], []⟩
theorem e158 (k : Nat) (x : dens (flatC (S158 k).ps)) : funK (E158 k) (S158 k) Try.f158 x = (S158 k).fn x := by
  kernel_rfl
theorem M158 (k : Nat) : Meets Try.prog 158 (S158 k) := meets_of Try.func158 (by kernel_rfl) tbOk (orc_cons (M104 k) orc_nil) mixOk (fun x y h => (e158 k x).trans h) rfl

/-! impl_areAll_int64_1_impl_areWeights_1: function 185 -/
noncomputable def impl_areAll_int64_1_impl_areWeights_1.f (a0 : Int) (a1 : Unit) : Option (Bool) := (impl_areWeights_1.f a0).bind fun t1 => some (!decide (t1 = true))
noncomputable def S185_c158 (k : Nat) : Does := ⟨[(false, [.dat (.int .i64)]), (false, [.dat (.ptr (.clo 158 .unit))])], [(false, [.dat .bool])], fun x => impl_areAll_int64_1_impl_areWeights_1.f x.1 x.2⟩
noncomputable def E185_c158 (k : Nat) : En := ⟨tb, orcOf [(158, S158 k)], lvOf [], k, 0, lvOf [], []⟩
theorem e185_c158 (k : Nat) (x : dens (flatC (S185_c158 k).ps)) : funK (E185_c158 k) (S185_c158 k) Try.f185 x = (S185_c158 k).fn x := by
  kernel_rfl
theorem M185_c158 (k : Nat) : Meets Try.prog 185 (S185_c158 k) := meets_of Try.func185 (by kernel_rfl) tbOk (orc_cons (M158 k) orc_nil) mixOk (fun x y h => (e185_c158 k x).trans h) rfl

/-! slices_IndexFunc_int64_int64_impl_areAll_int64_1_impl_areWeights_1: function 191 -/
noncomputable def slices_IndexFunc_int64_int64_impl_areAll_int64_1_impl_areWeights_1.s0 (k : Nat) (r0 : (List Int) → Unit → Int → Int → Option (Int)) (x0 : List Int) (x1 : Unit) (x7 : Int) (x8 : Int) : Option (Int) := if x8 < x7 then (if 0 ≤ x8 then (if x8 < (x0.length : Int) then ((impl_areAll_int64_1_impl_areWeights_1.f (rd x0 x8) x1).bind fun t1 => if t1 = true then (some x8) else (r0 x0 x1 x7 (wrap64 (x8 + 1)))) else (none)) else (none)) else (some (-1))
noncomputable def slices_IndexFunc_int64_int64_impl_areAll_int64_1_impl_areWeights_1.l0 (k : Nat) : Nat → (List Int) → Unit → Int → Int → Option (Int)
  | 0, _, _, _, _ => none
  | n + 1, x0, x1, x2, x3 => slices_IndexFunc_int64_int64_impl_areAll_int64_1_impl_areWeights_1.s0 k (slices_IndexFunc_int64_int64_impl_areAll_int64_1_impl_areWeights_1.l0 k n) x0 x1 x2 x3
noncomputable def slices_IndexFunc_int64_int64_impl_areAll_int64_1_impl_areWeights_1.g (k : Nat) (r0 : (List Int) → Unit → Int → Int → Option (Int)) (l0 : List Int) (a1 : Unit) : Option (Int) := r0 l0 a1 (l0.length : Int) 0
noncomputable def slices_IndexFunc_int64_int64_impl_areAll_int64_1_impl_areWeights_1.f (k : Nat) (l0 : List Int) (a1 : Unit) : Option (Int) := slices_IndexFunc_int64_int64_impl_areAll_int64_1_impl_areWeights_1.g k (slices_IndexFunc_int64_int64_impl_areAll_int64_1_impl_areWeights_1.l0 k k) l0 a1
noncomputable def S191_c185c158 (k : Nat) : Does := ⟨[(false, [.dat (.list (.int .i64))]), (false, [.dat (.clo 185 (.ptr (.clo 158 .unit)))])], [(false, [.dat (.int .i64)])], fun x => slices_IndexFunc_int64_int64_impl_areAll_int64_1_impl_areWeights_1.f k x.1 x.2⟩
noncomputable def E191_c185c158 (k : Nat) : En := ⟨tb, orcOf [(185, S185_c158 k)], lvOf [(0, [(0, []), (1, []), (7, []), (8, [])])], k, 0, lvOf [], []⟩
noncomputable def n191_c185c158_0 (x0 : List Int) (x1 : Unit) (x7 : Int) (x8 : Int) : St := ⟨19, lookA [(0, .dat (.list (.int .i64)) x0), (1, .dat (.clo 185 (.ptr (.clo 158 .unit))) x1), (7, .dat (.int .i64) x7), (8, .dat (.int .i64) x8)], Go.V.look []⟩
def p191_c185c158_0 : List Bool := [true, false, true, false]
theorem r191_c185c158_0 (k : Nat) (rec : St → Option (Int)) (v : (List Int) × Unit × Int × Int) : roundF (E191_c185c158 k) (S191_c185c158 k) Try.f191 p191_c185c158_0 [] rec (n191_c185c158_0 v.1 v.2.1 v.2.2.1 v.2.2.2) = slices_IndexFunc_int64_int64_impl_areAll_int64_1_impl_areWeights_1.s0 k (fun a0 a1 a2 a3 => rec (n191_c185c158_0 a0 a1 a2 a3)) v.1 v.2.1 v.2.2.1 v.2.2.2 := by
  kernel_rfl
theorem q191_c185c158_0 (k : Nat) (n : Nat) : ∀ v : (List Int) × Unit × Int × Int, loopF (E191_c185c158 k) (S191_c185c158 k) Try.f191 p191_c185c158_0 [] n (n191_c185c158_0 v.1 v.2.1 v.2.2.1 v.2.2.2) = slices_IndexFunc_int64_int64_impl_areAll_int64_1_impl_areWeights_1.l0 k n v.1 v.2.1 v.2.2.1 v.2.2.2 :=
  loopF_eq (E191_c185c158 k) (S191_c185c158 k) Try.f191 p191_c185c158_0 [] (fun v : (List Int) × Unit × Int × Int => n191_c185c158_0 v.1 v.2.1 v.2.2.1 v.2.2.2) (fun rec v => slices_IndexFunc_int64_int64_impl_areAll_int64_1_impl_areWeights_1.s0 k (fun a0 a1 a2 a3 => rec (a0, a1, a2, a3)) v.1 v.2.1 v.2.2.1 v.2.2.2) (fun n v => slices_IndexFunc_int64_int64_impl_areAll_int64_1_impl_areWeights_1.l0 k n v.1 v.2.1 v.2.2.1 v.2.2.2) (fun _ => rfl) (fun _ _ => rfl) (fun rec v => r191_c185c158_0 k rec v) n
theorem e191_c185c158 (k : Nat) (x : dens (flatC (S191_c185c158 k).ps)) : funK (E191_c185c158 k) (S191_c185c158 k) Try.f191 x = (S191_c185c158 k).fn x := by
  have h : funK (E191_c185c158 k) (S191_c185c158 k) Try.f191 x = slices_IndexFunc_int64_int64_impl_areAll_int64_1_impl_areWeights_1.g k (fun a0 a1 a2 a3 => loopF (E191_c185c158 k) (S191_c185c158 k) Try.f191 p191_c185c158_0 [] k (n191_c185c158_0 a0 a1 a2 a3)) x.1 x.2 := by kernel_rfl
  rw [h]
  rw [show (fun a0 a1 a2 a3 => loopF (E191_c185c158 k) (S191_c185c158 k) Try.f191 p191_c185c158_0 [] k (n191_c185c158_0 a0 a1 a2 a3)) = slices_IndexFunc_int64_int64_impl_areAll_int64_1_impl_areWeights_1.l0 k k from funext fun a0 => funext fun a1 => funext fun a2 => funext fun a3 => q191_c185c158_0 k k (a0, a1, a2, a3)]
  rfl
theorem M191_c185c158 (k : Nat) : Meets Try.prog 191 (S191_c185c158 k) := meets_of Try.func191 (by kernel_rfl) tbOk (orc_cons (M185_c158 k) orc_nil) mixOk (fun x y h => (e191_c185c158 k x).trans h) rfl

/-! slices_ContainsFunc_int64_int64_impl_areAll_int64_1_impl_areWeights_1: function 184 -/
noncomputable def slices_ContainsFunc_int64_int64_impl_areAll_int64_1_impl_areWeights_1.f (k : Nat) (l0 : List Int) (a1 : Unit) : Option (Bool) := (slices_IndexFunc_int64_int64_impl_areAll_int64_1_impl_areWeights_1.f k l0 a1).bind fun t1 => some (decide (0 ≤ t1))
noncomputable def S184_c185c158 (k : Nat) : Does := ⟨[(false, [.dat (.list (.int .i64))]), (false, [.dat (.clo 185 (.ptr (.clo 158 .unit)))])], [(false, [.dat .bool])], fun x => slices_ContainsFunc_int64_int64_impl_areAll_int64_1_impl_areWeights_1.f k x.1 x.2⟩
noncomputable def E184_c185c158 (k : Nat) : En := ⟨tb, orcOf [(191, S191_c185c158 k)], lvOf [], k, 0, lvOf [], []⟩
theorem e184_c185c158 (k : Nat) (x : dens (flatC (S184_c185c158 k).ps)) : funK (E184_c185c158 k) (S184_c185c158 k) Try.f184 x = (S184_c185c158 k).fn x := by
  kernel_rfl
theorem M184_c185c158 (k : Nat) : Meets Try.prog 184 (S184_c185c158 k) := meets_of Try.func184 (by kernel_rfl) tbOk (orc_cons (M191_c185c158 k) orc_nil) mixOk (fun x y h => (e184_c185c158 k x).trans h) rfl

/-! impl_areAll_int64_impl_areWeights_1: function 157 -/
noncomputable def impl_areAll_int64_impl_areWeights_1.f (k : Nat) (l0 : List Int) (a1 : Unit) : Option (Bool) := (slices_ContainsFunc_int64_int64_impl_areAll_int64_1_impl_areWeights_1.f k l0 a1).bind fun t1 => some (!decide (t1 = true))
noncomputable def S157_c158 (k : Nat) : Does := ⟨[(false, [.dat (.list (.int .i64))]), (false, [.dat (.clo 158 .unit)])], [(false, [.dat .bool])], fun x => impl_areAll_int64_impl_areWeights_1.f k x.1 x.2⟩
noncomputable def E157_c158 (k : Nat) : En := ⟨tb, orcOf [(184, S184_c185c158 k)], lvOf [], k, 0, lvOf [], []⟩
theorem e157_c158 (k : Nat) (x : dens (flatC (S157_c158 k).ps)) : funK (E157_c158 k) (S157_c158 k) Try.f157 x = (S157_c158 k).fn x := by
  kernel_rfl
theorem M157_c158 (k : Nat) : Meets Try.prog 157 (S157_c158 k) := meets_of Try.func157 (by kernel_rfl) tbOk (orc_cons (M184_c185c158 k) orc_nil) mixOk (fun x y h => (e157_c158 k x).trans h) rfl

/-! impl_total: function 142 -/
noncomputable def impl_total.s0 (k : Nat) (r0 : Int → (List Int) → Int → Int → Option (Int)) (x3 : Int) (x6 : List Int) (x7 : Int) (x8 : Int) : Option (Int) := if x8 < x7 then (if 0 ≤ x8 then (if x8 < (x6.length : Int) then (r0 (wrap64 (x3 + (rd x6 x8))) x6 x7 (wrap64 (x8 + 1))) else (none)) else (none)) else (some x3)
noncomputable def impl_total.l0 (k : Nat) : Nat → Int → (List Int) → Int → Int → Option (Int)
  | 0, _, _, _, _ => none
  | n + 1, x0, x1, x2, x3 => impl_total.s0 k (impl_total.l0 k n) x0 x1 x2 x3
noncomputable def impl_total.g (k : Nat) (r0 : Int → (List Int) → Int → Int → Option (Int)) (l0 : List Int) : Option (Int) := r0 0 l0 (l0.length : Int) 0
noncomputable def impl_total.f (k : Nat) (l0 : List Int) : Option (Int) := impl_total.g k (impl_total.l0 k k) l0
noncomputable def S142 (k : Nat) : Does := ⟨[(false, [.dat (.list (.int .i64))])], [(false, [.dat (.int .i64)])], fun x => impl_total.f k x⟩
noncomputable def E142 (k : Nat) : En := ⟨tb, orcOf [], lvOf [(0, [(3, []), (6, []), (7, []), (8, [])])], k, 0, lvOf [], []⟩
noncomputable def n142_0 (x3 : Int) (x6 : List Int) (x7 : Int) (x8 : Int) : St := ⟨17, lookA [(3, .dat (.int .i64) x3), (6, .dat (.list (.int .i64)) x6), (7, .dat (.int .i64) x7), (8, .dat (.int .i64) x8)], Go.V.look []⟩
def p142_0 : List Bool := [true, true, false, true, false]
theorem r142_0 (k : Nat) (rec : St → Option (Int)) (v : Int × (List Int) × Int × Int) : roundF (E142 k) (S142 k) Try.f142 p142_0 [] rec (n142_0 v.1 v.2.1 v.2.2.1 v.2.2.2) = impl_total.s0 k (fun a0 a1 a2 a3 => rec (n142_0 a0 a1 a2 a3)) v.1 v.2.1 v.2.2.1 v.2.2.2 := by
  kernel_rfl
theorem q142_0 (k : Nat) (n : Nat) : ∀ v : Int × (List Int) × Int × Int, loopF (E142 k) (S142 k) Try.f142 p142_0 [] n (n142_0 v.1 v.2.1 v.2.2.1 v.2.2.2) = impl_total.l0 k n v.1 v.2.1 v.2.2.1 v.2.2.2 :=
  loopF_eq (E142 k) (S142 k) Try.f142 p142_0 [] (fun v : Int × (List Int) × Int × Int => n142_0 v.1 v.2.1 v.2.2.1 v.2.2.2) (fun rec v => impl_total.s0 k (fun a0 a1 a2 a3 => rec (a0, a1, a2, a3)) v.1 v.2.1 v.2.2.1 v.2.2.2) (fun n v => impl_total.l0 k n v.1 v.2.1 v.2.2.1 v.2.2.2) (fun _ => rfl) (fun _ _ => rfl) (fun rec v => r142_0 k rec v) n
theorem e142 (k : Nat) (x : dens (flatC (S142 k).ps)) : funK (E142 k) (S142 k) Try.f142 x = (S142 k).fn x := by
  have h : funK (E142 k) (S142 k) Try.f142 x = impl_total.g k (fun a0 a1 a2 a3 => loopF (E142 k) (S142 k) Try.f142 p142_0 [] k (n142_0 a0 a1 a2 a3)) x := by kernel_rfl
  rw [h]
  rw [show (fun a0 a1 a2 a3 => loopF (E142 k) (S142 k) Try.f142 p142_0 [] k (n142_0 a0 a1 a2 a3)) = impl_total.l0 k k from funext fun a0 => funext fun a1 => funext fun a2 => funext fun a3 => q142_0 k k (a0, a1, a2, a3)]
  rfl
theorem M142 (k : Nat) : Meets Try.prog 142 (S142 k) := meets_of Try.func142 (by kernel_rfl) tbOk orc_nil mixOk (fun x y h => (e142 k x).trans h) rfl

/-! impl_areWeights: function 102 -/
noncomputable def impl_areWeights.f (k : Nat) (l0 : List Int) : Option (Bool) := (impl_length_int64.f l0).bind fun t1 => (impl_isMany.f t1).bind fun t2 => if t2 = true then ((impl_areAll_int64_impl_areWeights_1.f k l0 ()).bind fun t3 => if t3 = true then ((impl_total.f k l0).bind fun t4 => some (decide (0 < t4))) else (some false)) else (some false)
noncomputable def S102 (k : Nat) : Does := ⟨[(false, [.dat (.list (.int .i64))])], [(false, [.dat .bool])], fun x => impl_areWeights.f k x⟩
noncomputable def E102 (k : Nat) : En := ⟨tb, orcOf [(101, S101 k), (156, S156 k), (157, S157_c158 k), (142, S142 k)], lvOf [], k, 0, lvOf [], []⟩
theorem e102 (k : Nat) (x : dens (flatC (S102 k).ps)) : funK (E102 k) (S102 k) Try.f102 x = (S102 k).fn x := by
  kernel_rfl
theorem M102 (k : Nat) : Meets Try.prog 102 (S102 k) := meets_of Try.func102 (by kernel_rfl) tbOk (orc_cons (M101 k) (orc_cons (M156 k) (orc_cons (M157_c158 k) (orc_cons (M142 k) orc_nil)))) mixOk (fun x y h => (e102 k x).trans h) rfl

/-! impl_weighted: function 109 -/
noncomputable def impl_weighted.s0 (k : Nat) (r0 : (List Int) → Int → (List Int) → Int → Int → Option (Int)) (x0 : List Int) (x5 : Int) (x8 : List Int) (x9 : Int) (x10 : Int) : Option (Int) := if x10 < x9 then (if 0 ≤ x10 then (if x10 < (x8.length : Int) then (if 0 < (rd x8 x10) then ((impl_sumOfWaits.f k x0 x10).bind fun t1 => r0 x0 (wrap64 (x5 + (wrap64 ((rd x8 x10) * t1)))) x8 x9 (wrap64 (x10 + 1))) else (r0 x0 x5 x8 x9 (wrap64 (x10 + 1)))) else (none)) else (none)) else (some x5)
noncomputable def impl_weighted.l0 (k : Nat) : Nat → (List Int) → Int → (List Int) → Int → Int → Option (Int)
  | 0, _, _, _, _, _ => none
  | n + 1, x0, x1, x2, x3, x4 => impl_weighted.s0 k (impl_weighted.l0 k n) x0 x1 x2 x3 x4
noncomputable def impl_weighted.g (k : Nat) (r0 : (List Int) → Int → (List Int) → Int → Int → Option (Int)) (l0 : List Int) (l1 : List Int) : Option (Int) := r0 l0 0 l1 (l1.length : Int) 0
noncomputable def impl_weighted.f (k : Nat) (l0 : List Int) (l1 : List Int) : Option (Int) := impl_weighted.g k (impl_weighted.l0 k k) l0 l1
noncomputable def S109 (k : Nat) : Does := ⟨[(false, [.dat (.list (.int .i64))]), (false, [.dat (.list (.int .i64))])], [(false, [.dat (.int .i64)])], fun x => impl_weighted.f k x.1 x.2⟩
noncomputable def E109 (k : Nat) : En := ⟨tb, orcOf [(134, S134 k)], lvOf [(0, [(0, []), (5, []), (8, []), (9, []), (10, [])])], k, 0, lvOf [], []⟩
noncomputable def n109_0 (x0 : List Int) (x5 : Int) (x8 : List Int) (x9 : Int) (x10 : Int) : St := ⟨26, lookA [(0, .dat (.list (.int .i64)) x0), (5, .dat (.int .i64) x5), (8, .dat (.list (.int .i64)) x8), (9, .dat (.int .i64) x9), (10, .dat (.int .i64) x10)], Go.V.look []⟩
def p109_0 : List Bool := [true, true, false, true, false]
theorem r109_0 (k : Nat) (rec : St → Option (Int)) (v : (List Int) × Int × (List Int) × Int × Int) : roundF (E109 k) (S109 k) Try.f109 p109_0 [] rec (n109_0 v.1 v.2.1 v.2.2.1 v.2.2.2.1 v.2.2.2.2) = impl_weighted.s0 k (fun a0 a1 a2 a3 a4 => rec (n109_0 a0 a1 a2 a3 a4)) v.1 v.2.1 v.2.2.1 v.2.2.2.1 v.2.2.2.2 := by
  kernel_rfl
theorem q109_0 (k : Nat) (n : Nat) : ∀ v : (List Int) × Int × (List Int) × Int × Int, loopF (E109 k) (S109 k) Try.f109 p109_0 [] n (n109_0 v.1 v.2.1 v.2.2.1 v.2.2.2.1 v.2.2.2.2) = impl_weighted.l0 k n v.1 v.2.1 v.2.2.1 v.2.2.2.1 v.2.2.2.2 :=
  loopF_eq (E109 k) (S109 k) Try.f109 p109_0 [] (fun v : (List Int) × Int × (List Int) × Int × Int => n109_0 v.1 v.2.1 v.2.2.1 v.2.2.2.1 v.2.2.2.2) (fun rec v => impl_weighted.s0 k (fun a0 a1 a2 a3 a4 => rec (a0, a1, a2, a3, a4)) v.1 v.2.1 v.2.2.1 v.2.2.2.1 v.2.2.2.2) (fun n v => impl_weighted.l0 k n v.1 v.2.1 v.2.2.1 v.2.2.2.1 v.2.2.2.2) (fun _ => rfl) (fun _ _ => rfl) (fun rec v => r109_0 k rec v) n
theorem e109 (k : Nat) (x : dens (flatC (S109 k).ps)) : funK (E109 k) (S109 k) Try.f109 x = (S109 k).fn x := by
  have h : funK (E109 k) (S109 k) Try.f109 x = impl_weighted.g k (fun a0 a1 a2 a3 a4 => loopF (E109 k) (S109 k) Try.f109 p109_0 [] k (n109_0 a0 a1 a2 a3 a4)) x.1 x.2 := by kernel_rfl
  rw [h]
  rw [show (fun a0 a1 a2 a3 a4 => loopF (E109 k) (S109 k) Try.f109 p109_0 [] k (n109_0 a0 a1 a2 a3 a4)) = impl_weighted.l0 k k from funext fun a0 => funext fun a1 => funext fun a2 => funext fun a3 => funext fun a4 => q109_0 k k (a0, a1, a2, a3, a4)]
  rfl
theorem M109 (k : Nat) : Meets Try.prog 109 (S109 k) := meets_of Try.func109 (by kernel_rfl) tbOk (orc_cons (M134 k) orc_nil) mixOk (fun x y h => (e109 k x).trans h) rfl

/-! impl_MeanByWeights: function 68 -/
noncomputable def impl_MeanByWeights.s0 (k : Nat) (r0 : (List Int) → (List Int) → (List Int) → Int → Int → Option (Int × Int × Int)) (x0 : List Int) (x1 : List Int) (x17 : List Int) (x18 : Int) (x19 : Int) : Option (Int × Int × Int) := if x19 < x18 then (if 0 ≤ x19 then (if x19 < (x17.length : Int) then (if 0 < (rd x17 x19) then ((slices_Contains_int64_int64.f k x0 x19).bind fun t3 => if t3 = true then (r0 x0 x1 x17 x18 (wrap64 (x19 + 1))) else (some (0, 0, 4))) else (r0 x0 x1 x17 x18 (wrap64 (x19 + 1)))) else (none)) else (none)) else ((impl_weighted.f k x0 x1).bind fun t4 => (impl_length_int64.f x0).bind fun t5 => (impl_total.f k x1).bind fun t6 => (impl_fraction.f k t4 (wrap64 (t5 * t6))).bind fun t7 => some (t7.1, t7.2.1, t7.2.2))
noncomputable def impl_MeanByWeights.l0 (k : Nat) : Nat → (List Int) → (List Int) → (List Int) → Int → Int → Option (Int × Int × Int)
  | 0, _, _, _, _, _ => none
  | n + 1, x0, x1, x2, x3, x4 => impl_MeanByWeights.s0 k (impl_MeanByWeights.l0 k n) x0 x1 x2 x3 x4
noncomputable def impl_MeanByWeights.g (k : Nat) (r0 : (List Int) → (List Int) → (List Int) → Int → Int → Option (Int × Int × Int)) (l0 : List Int) (l1 : List Int) : Option (Int × Int × Int) := (impl_areWeights.f k l1).bind fun t1 => (impl_waitCode.f k l0 t1 []).bind fun t2 => if t2 = 0 then (r0 l0 l1 l1 (l1.length : Int) 0) else (some (0, 0, t2))
noncomputable def impl_MeanByWeights.f (k : Nat) (l0 : List Int) (l1 : List Int) : Option (Int × Int × Int) := impl_MeanByWeights.g k (impl_MeanByWeights.l0 k k) l0 l1
noncomputable def S68 (k : Nat) : Does := ⟨[(false, [.dat (.list (.int .i64))]), (false, [.dat (.list (.int .i64))])], [(false, [.dat (.int .i64)]), (false, [.dat (.int .i64)]), (false, [.dat (.int .i64)])], fun x => impl_MeanByWeights.f k x.1 x.2⟩
noncomputable def E68 (k : Nat) : En := ⟨tb, orcOf [(102, S102 k), (132, S132 k), (103, S103 k), (109, S109 k), (101, S101 k), (142, S142 k), (133, S133 k)], lvOf [(0, [(0, []), (1, []), (17, []), (18, []), (19, [])])], k, 0, lvOf [], []⟩
noncomputable def n68_0 (x0 : List Int) (x1 : List Int) (x17 : List Int) (x18 : Int) (x19 : Int) : St := ⟨45, lookA [(0, .dat (.list (.int .i64)) x0), (1, .dat (.list (.int .i64)) x1), (17, .dat (.list (.int .i64)) x17), (18, .dat (.int .i64) x18), (19, .dat (.int .i64) x19)], Go.V.look []⟩
def p68_0 : List Bool := [true, true, false, true, false]
theorem r68_0 (k : Nat) (rec : St → Option (Int × Int × Int)) (v : (List Int) × (List Int) × (List Int) × Int × Int) : roundF (E68 k) (S68 k) Try.f68 p68_0 [] rec (n68_0 v.1 v.2.1 v.2.2.1 v.2.2.2.1 v.2.2.2.2) = impl_MeanByWeights.s0 k (fun a0 a1 a2 a3 a4 => rec (n68_0 a0 a1 a2 a3 a4)) v.1 v.2.1 v.2.2.1 v.2.2.2.1 v.2.2.2.2 := by
  kernel_rfl
theorem q68_0 (k : Nat) (n : Nat) : ∀ v : (List Int) × (List Int) × (List Int) × Int × Int, loopF (E68 k) (S68 k) Try.f68 p68_0 [] n (n68_0 v.1 v.2.1 v.2.2.1 v.2.2.2.1 v.2.2.2.2) = impl_MeanByWeights.l0 k n v.1 v.2.1 v.2.2.1 v.2.2.2.1 v.2.2.2.2 :=
  loopF_eq (E68 k) (S68 k) Try.f68 p68_0 [] (fun v : (List Int) × (List Int) × (List Int) × Int × Int => n68_0 v.1 v.2.1 v.2.2.1 v.2.2.2.1 v.2.2.2.2) (fun rec v => impl_MeanByWeights.s0 k (fun a0 a1 a2 a3 a4 => rec (a0, a1, a2, a3, a4)) v.1 v.2.1 v.2.2.1 v.2.2.2.1 v.2.2.2.2) (fun n v => impl_MeanByWeights.l0 k n v.1 v.2.1 v.2.2.1 v.2.2.2.1 v.2.2.2.2) (fun _ => rfl) (fun _ _ => rfl) (fun rec v => r68_0 k rec v) n
theorem e68 (k : Nat) (x : dens (flatC (S68 k).ps)) : funK (E68 k) (S68 k) Try.f68 x = (S68 k).fn x := by
  have h : funK (E68 k) (S68 k) Try.f68 x = impl_MeanByWeights.g k (fun a0 a1 a2 a3 a4 => loopF (E68 k) (S68 k) Try.f68 p68_0 [] k (n68_0 a0 a1 a2 a3 a4)) x.1 x.2 := by kernel_rfl
  rw [h]
  rw [show (fun a0 a1 a2 a3 a4 => loopF (E68 k) (S68 k) Try.f68 p68_0 [] k (n68_0 a0 a1 a2 a3 a4)) = impl_MeanByWeights.l0 k k from funext fun a0 => funext fun a1 => funext fun a2 => funext fun a3 => funext fun a4 => q68_0 k k (a0, a1, a2, a3, a4)]
  rfl
theorem M68 (k : Nat) : Meets Try.prog 68 (S68 k) := meets_of Try.func68 (by kernel_rfl) tbOk (orc_cons (M102 k) (orc_cons (M132 k) (orc_cons (M103 k) (orc_cons (M109 k) (orc_cons (M101 k) (orc_cons (M142 k) (orc_cons (M133 k) orc_nil))))))) mixOk (fun x y h => (e68 k x).trans h) rfl

/-! spec_l10Weights: function 98 -/
noncomputable def spec_l10Weights.s0 (k : Nat) (r0 : (List Int) → Int → Int → Int → Int → Option (Bool)) (x0 : List Int) (x1 : Int) (x2 : Int) (x7 : Int) (x8 : Int) : Option (Bool) := if x8 < (x0.length : Int) then (if 0 ≤ x8 then (if x8 < (x0.length : Int) then ((spec_l01In.f (rd x0 x8) x1 100).bind fun t1 => if t1 = true then (if 0 ≤ x8 then (if x8 < (x0.length : Int) then (r0 x0 x1 x2 (wrap64 (x7 + (rd x0 x8))) (wrap64 (x8 + 1))) else (none)) else (none)) else (some false)) else (none)) else (none)) else (if 0 < x7 then (some (decide ((x0.length : Int) ≤ x2))) else (some false))
noncomputable def spec_l10Weights.l0 (k : Nat) : Nat → (List Int) → Int → Int → Int → Int → Option (Bool)
  | 0, _, _, _, _, _ => none
  | n + 1, x0, x1, x2, x3, x4 => spec_l10Weights.s0 k (spec_l10Weights.l0 k n) x0 x1 x2 x3 x4
noncomputable def spec_l10Weights.g (k : Nat) (r0 : (List Int) → Int → Int → Int → Int → Option (Bool)) (l0 : List Int) (a1 : Int) (a2 : Int) : Option (Bool) := r0 l0 a1 a2 0 0
noncomputable def spec_l10Weights.f (k : Nat) (l0 : List Int) (a1 : Int) (a2 : Int) : Option (Bool) := spec_l10Weights.g k (spec_l10Weights.l0 k k) l0 a1 a2
noncomputable def S98 (k : Nat) : Does := ⟨[(false, [.dat (.list (.int .i64))]), (false, [.dat (.int .i64)]), (false, [.dat (.int .i64)])], [(false, [.dat .bool])], fun x => spec_l10Weights.f k x.1 x.2.1 x.2.2⟩
noncomputable def E98 (k : Nat) : En := ⟨tb, orcOf [(99, S99 k)], lvOf [(0, [(0, []), (1, []), (2, []), (7, []), (8, [])])], k, 0, lvOf [], []⟩
noncomputable def n98_0 (x0 : List Int) (x1 : Int) (x2 : Int) (x7 : Int) (x8 : Int) : St := ⟨36, lookA [(0, .dat (.list (.int .i64)) x0), (1, .dat (.int .i64) x1), (2, .dat (.int .i64) x2), (7, .dat (.int .i64) x7), (8, .dat (.int .i64) x8)], Go.V.look []⟩
def p98_0 : List Bool := [true, true, false, true, false]
theorem r98_0 (k : Nat) (rec : St → Option (Bool)) (v : (List Int) × Int × Int × Int × Int) : roundF (E98 k) (S98 k) Try.f98 p98_0 [] rec (n98_0 v.1 v.2.1 v.2.2.1 v.2.2.2.1 v.2.2.2.2) = spec_l10Weights.s0 k (fun a0 a1 a2 a3 a4 => rec (n98_0 a0 a1 a2 a3 a4)) v.1 v.2.1 v.2.2.1 v.2.2.2.1 v.2.2.2.2 := by
  kernel_rfl
theorem q98_0 (k : Nat) (n : Nat) : ∀ v : (List Int) × Int × Int × Int × Int, loopF (E98 k) (S98 k) Try.f98 p98_0 [] n (n98_0 v.1 v.2.1 v.2.2.1 v.2.2.2.1 v.2.2.2.2) = spec_l10Weights.l0 k n v.1 v.2.1 v.2.2.1 v.2.2.2.1 v.2.2.2.2 :=
  loopF_eq (E98 k) (S98 k) Try.f98 p98_0 [] (fun v : (List Int) × Int × Int × Int × Int => n98_0 v.1 v.2.1 v.2.2.1 v.2.2.2.1 v.2.2.2.2) (fun rec v => spec_l10Weights.s0 k (fun a0 a1 a2 a3 a4 => rec (a0, a1, a2, a3, a4)) v.1 v.2.1 v.2.2.1 v.2.2.2.1 v.2.2.2.2) (fun n v => spec_l10Weights.l0 k n v.1 v.2.1 v.2.2.1 v.2.2.2.1 v.2.2.2.2) (fun _ => rfl) (fun _ _ => rfl) (fun rec v => r98_0 k rec v) n
theorem e98 (k : Nat) (x : dens (flatC (S98 k).ps)) : funK (E98 k) (S98 k) Try.f98 x = (S98 k).fn x := by
  have h : funK (E98 k) (S98 k) Try.f98 x = spec_l10Weights.g k (fun a0 a1 a2 a3 a4 => loopF (E98 k) (S98 k) Try.f98 p98_0 [] k (n98_0 a0 a1 a2 a3 a4)) x.1 x.2.1 x.2.2 := by kernel_rfl
  rw [h]
  rw [show (fun a0 a1 a2 a3 a4 => loopF (E98 k) (S98 k) Try.f98 p98_0 [] k (n98_0 a0 a1 a2 a3 a4)) = spec_l10Weights.l0 k k from funext fun a0 => funext fun a1 => funext fun a2 => funext fun a3 => funext fun a4 => q98_0 k k (a0, a1, a2, a3, a4)]
  rfl
theorem M98 (k : Nat) : Meets Try.prog 98 (S98 k) := meets_of Try.func98 (by kernel_rfl) tbOk (orc_cons (M99 k) orc_nil) mixOk (fun x y h => (e98 k x).trans h) rfl

/-! spec_l10Mean: function 144 -/
noncomputable def spec_l10Mean.s0 (k : Nat) (r0 : (List Int) → (List Int) → Int → Int → Option (Int)) (x0 : List Int) (x1 : List Int) (x5 : Int) (x6 : Int) : Option (Int) := if x6 < (x1.length : Int) then (if 0 ≤ x6 then (if x6 < (x1.length : Int) then (if 0 < (rd x1 x6) then (if 0 ≤ x6 then (if x6 < (x1.length : Int) then ((spec_l10Sum.f k x0 x6 x6).bind fun t1 => r0 x0 x1 (wrap64 (x5 + (wrap64 ((rd x1 x6) * t1)))) (wrap64 (x6 + 1))) else (none)) else (none)) else (r0 x0 x1 x5 (wrap64 (x6 + 1)))) else (none)) else (none)) else (some x5)
noncomputable def spec_l10Mean.l0 (k : Nat) : Nat → (List Int) → (List Int) → Int → Int → Option (Int)
  | 0, _, _, _, _ => none
  | n + 1, x0, x1, x2, x3 => spec_l10Mean.s0 k (spec_l10Mean.l0 k n) x0 x1 x2 x3
noncomputable def spec_l10Mean.g (k : Nat) (r0 : (List Int) → (List Int) → Int → Int → Option (Int)) (l0 : List Int) (l1 : List Int) : Option (Int) := r0 l0 l1 0 0
noncomputable def spec_l10Mean.f (k : Nat) (l0 : List Int) (l1 : List Int) : Option (Int) := spec_l10Mean.g k (spec_l10Mean.l0 k k) l0 l1
noncomputable def S144 (k : Nat) : Does := ⟨[(false, [.dat (.list (.int .i64))]), (false, [.dat (.list (.int .i64))])], [(false, [.dat (.int .i64)])], fun x => spec_l10Mean.f k x.1 x.2⟩
noncomputable def E144 (k : Nat) : En := ⟨tb, orcOf [(136, S136 k)], lvOf [(0, [(0, []), (1, []), (5, []), (6, [])])], k, 0, lvOf [], []⟩
noncomputable def n144_0 (x0 : List Int) (x1 : List Int) (x5 : Int) (x6 : Int) : St := ⟨30, lookA [(0, .dat (.list (.int .i64)) x0), (1, .dat (.list (.int .i64)) x1), (5, .dat (.int .i64) x5), (6, .dat (.int .i64) x6)], Go.V.look []⟩
def p144_0 : List Bool := [true, true, false, true, false]
theorem r144_0 (k : Nat) (rec : St → Option (Int)) (v : (List Int) × (List Int) × Int × Int) : roundF (E144 k) (S144 k) Try.f144 p144_0 [] rec (n144_0 v.1 v.2.1 v.2.2.1 v.2.2.2) = spec_l10Mean.s0 k (fun a0 a1 a2 a3 => rec (n144_0 a0 a1 a2 a3)) v.1 v.2.1 v.2.2.1 v.2.2.2 := by
  kernel_rfl
theorem q144_0 (k : Nat) (n : Nat) : ∀ v : (List Int) × (List Int) × Int × Int, loopF (E144 k) (S144 k) Try.f144 p144_0 [] n (n144_0 v.1 v.2.1 v.2.2.1 v.2.2.2) = spec_l10Mean.l0 k n v.1 v.2.1 v.2.2.1 v.2.2.2 :=
  loopF_eq (E144 k) (S144 k) Try.f144 p144_0 [] (fun v : (List Int) × (List Int) × Int × Int => n144_0 v.1 v.2.1 v.2.2.1 v.2.2.2) (fun rec v => spec_l10Mean.s0 k (fun a0 a1 a2 a3 => rec (a0, a1, a2, a3)) v.1 v.2.1 v.2.2.1 v.2.2.2) (fun n v => spec_l10Mean.l0 k n v.1 v.2.1 v.2.2.1 v.2.2.2) (fun _ => rfl) (fun _ _ => rfl) (fun rec v => r144_0 k rec v) n
theorem e144 (k : Nat) (x : dens (flatC (S144 k).ps)) : funK (E144 k) (S144 k) Try.f144 x = (S144 k).fn x := by
  have h : funK (E144 k) (S144 k) Try.f144 x = spec_l10Mean.g k (fun a0 a1 a2 a3 => loopF (E144 k) (S144 k) Try.f144 p144_0 [] k (n144_0 a0 a1 a2 a3)) x.1 x.2 := by kernel_rfl
  rw [h]
  rw [show (fun a0 a1 a2 a3 => loopF (E144 k) (S144 k) Try.f144 p144_0 [] k (n144_0 a0 a1 a2 a3)) = spec_l10Mean.l0 k k from funext fun a0 => funext fun a1 => funext fun a2 => funext fun a3 => q144_0 k k (a0, a1, a2, a3)]
  rfl
theorem M144 (k : Nat) : Meets Try.prog 144 (S144 k) := meets_of Try.func144 (by kernel_rfl) tbOk (orc_cons (M136 k) orc_nil) mixOk (fun x y h => (e144 k x).trans h) rfl

/-! spec_MeanByWeights: function 69 -/
noncomputable def spec_MeanByWeights.s0 (k : Nat) (r0 : (List Int) → (List Int) → Int → Int → Option (Int × Int × Int)) (x0 : List Int) (x1 : List Int) (x7 : Int) (x8 : Int) : Option (Int × Int × Int) := if x8 < (x1.length : Int) then (if 0 ≤ x8 then (if x8 < (x1.length : Int) then (if 0 < (rd x1 x8) then ((spec_l10Wait.f k x0 x8 0).bind fun t3 => if t3 < 0 then (some (0, 0, 4)) else (if 0 ≤ x8 then (if x8 < (x1.length : Int) then (r0 x0 x1 (wrap64 (x7 + (rd x1 x8))) (wrap64 (x8 + 1))) else (none)) else (none))) else (if 0 ≤ x8 then (if x8 < (x1.length : Int) then (r0 x0 x1 (wrap64 (x7 + (rd x1 x8))) (wrap64 (x8 + 1))) else (none)) else (none))) else (none)) else (none)) else ((spec_l10Mean.f k x0 x1).bind fun t4 => (spec_l01Lowest.f k t4 (wrap64 (x7 * (x0.length : Int)))).bind fun t5 => some (t5.1, t5.2, 0))
noncomputable def spec_MeanByWeights.l0 (k : Nat) : Nat → (List Int) → (List Int) → Int → Int → Option (Int × Int × Int)
  | 0, _, _, _, _ => none
  | n + 1, x0, x1, x2, x3 => spec_MeanByWeights.s0 k (spec_MeanByWeights.l0 k n) x0 x1 x2 x3
noncomputable def spec_MeanByWeights.g (k : Nat) (r0 : (List Int) → (List Int) → Int → Int → Option (Int × Int × Int)) (l0 : List Int) (l1 : List Int) : Option (Int × Int × Int) := (spec_l10Turns.f k l0 []).bind fun t1 => if t1 = true then ((spec_l10Weights.f k l1 0 8).bind fun t2 => if t2 = true then (r0 l0 l1 0 0) else (some (0, 0, 2))) else (some (0, 0, 2))
noncomputable def spec_MeanByWeights.f (k : Nat) (l0 : List Int) (l1 : List Int) : Option (Int × Int × Int) := spec_MeanByWeights.g k (spec_MeanByWeights.l0 k k) l0 l1
noncomputable def S69 (k : Nat) : Does := ⟨[(false, [.dat (.list (.int .i64))]), (false, [.dat (.list (.int .i64))])], [(false, [.dat (.int .i64)]), (false, [.dat (.int .i64)]), (false, [.dat (.int .i64)])], fun x => spec_MeanByWeights.f k x.1 x.2⟩
noncomputable def E69 (k : Nat) : En := ⟨tb, orcOf [(143, S143 k), (98, S98 k), (138, S138 k), (144, S144 k), (125, S125 k)], lvOf [(0, [(0, []), (1, []), (7, []), (8, [])])], k, 0, lvOf [], []⟩
noncomputable def n69_0 (x0 : List Int) (x1 : List Int) (x7 : Int) (x8 : Int) : St := ⟨55, lookA [(0, .dat (.list (.int .i64)) x0), (1, .dat (.list (.int .i64)) x1), (7, .dat (.int .i64) x7), (8, .dat (.int .i64) x8)], Go.V.look []⟩
def p69_0 : List Bool := [true, true, true, false, true, false]
theorem r69_0 (k : Nat) (rec : St → Option (Int × Int × Int)) (v : (List Int) × (List Int) × Int × Int) : roundF (E69 k) (S69 k) Try.f69 p69_0 [] rec (n69_0 v.1 v.2.1 v.2.2.1 v.2.2.2) = spec_MeanByWeights.s0 k (fun a0 a1 a2 a3 => rec (n69_0 a0 a1 a2 a3)) v.1 v.2.1 v.2.2.1 v.2.2.2 := by
  kernel_rfl
theorem q69_0 (k : Nat) (n : Nat) : ∀ v : (List Int) × (List Int) × Int × Int, loopF (E69 k) (S69 k) Try.f69 p69_0 [] n (n69_0 v.1 v.2.1 v.2.2.1 v.2.2.2) = spec_MeanByWeights.l0 k n v.1 v.2.1 v.2.2.1 v.2.2.2 :=
  loopF_eq (E69 k) (S69 k) Try.f69 p69_0 [] (fun v : (List Int) × (List Int) × Int × Int => n69_0 v.1 v.2.1 v.2.2.1 v.2.2.2) (fun rec v => spec_MeanByWeights.s0 k (fun a0 a1 a2 a3 => rec (a0, a1, a2, a3)) v.1 v.2.1 v.2.2.1 v.2.2.2) (fun n v => spec_MeanByWeights.l0 k n v.1 v.2.1 v.2.2.1 v.2.2.2) (fun _ => rfl) (fun _ _ => rfl) (fun rec v => r69_0 k rec v) n
theorem e69 (k : Nat) (x : dens (flatC (S69 k).ps)) : funK (E69 k) (S69 k) Try.f69 x = (S69 k).fn x := by
  have h : funK (E69 k) (S69 k) Try.f69 x = spec_MeanByWeights.g k (fun a0 a1 a2 a3 => loopF (E69 k) (S69 k) Try.f69 p69_0 [] k (n69_0 a0 a1 a2 a3)) x.1 x.2 := by kernel_rfl
  rw [h]
  rw [show (fun a0 a1 a2 a3 => loopF (E69 k) (S69 k) Try.f69 p69_0 [] k (n69_0 a0 a1 a2 a3)) = spec_MeanByWeights.l0 k k from funext fun a0 => funext fun a1 => funext fun a2 => funext fun a3 => q69_0 k k (a0, a1, a2, a3)]
  rfl
theorem M69 (k : Nat) : Meets Try.prog 69 (S69 k) := meets_of Try.func69 (by kernel_rfl) tbOk (orc_cons (M143 k) (orc_cons (M98 k) (orc_cons (M138 k) (orc_cons (M144 k) (orc_cons (M125 k) orc_nil))))) mixOk (fun x y h => (e69 k x).trans h) rfl

/-! spec_DrawWaitFrom: function 70 -/
noncomputable def spec_DrawWaitFrom.f (k : Nat) (l0 : List Int) : Option ((List Int) × Int × Int) := (spec_l01From.f k l0).bind fun t1 => (spec_l10With.f k l0).bind fun t2 => (spec_l01Near.f (t1.1, t1.2.1, t1.2.2) (maxV (wrap64 ((minV (t2.1.length : Int) 120) - 1)) 0)).bind fun t3 => some (t2.1, t2.2, t3.1)
noncomputable def S70 (k : Nat) : Does := ⟨[(false, [.dat (.list (.int .u8))])], [(false, [.own 2 (.int .i64)]), (false, [.dat (.int .i64)]), (false, [.dat (.int .i64)])], fun x => spec_DrawWaitFrom.f k x⟩
noncomputable def E70 (k : Nat) : En := ⟨tb, orcOf [(126, S126 k), (131, S131 k), (127, S127 k)], lvOf [], k, 0, lvOf [], []⟩
theorem e70 (k : Nat) (x : dens (flatC (S70 k).ps)) : funK (E70 k) (S70 k) Try.f70 x = (S70 k).fn x := by
  kernel_rfl
theorem M70 (k : Nat) : Meets Try.prog 70 (S70 k) := meets_of Try.func70 (by kernel_rfl) tbOk (orc_cons (M126 k) (orc_cons (M131 k) (orc_cons (M127 k) orc_nil))) mixOk (fun x y h => (e70 k x).trans h) rfl

/-! impl_WaitFrom: function 71 -/
noncomputable def impl_WaitFrom.f (k : Nat) (l0 : List Int) (a1 : Int) (a2 : Int) : Option (Int × Int) := (impl_isSlot.f l0 a2).bind fun t1 => (impl_waitCode.f k l0 t1 [a1]).bind fun t2 => if t2 = 0 then ((impl_wait.f k l0 a1 a2).bind fun t3 => some (t3, 0)) else (some (0, t2))
noncomputable def S71 (k : Nat) : Does := ⟨[(false, [.dat (.list (.int .i64))]), (false, [.dat (.int .i64)]), (false, [.dat (.int .i64)])], [(false, [.dat (.int .i64)]), (false, [.dat (.int .i64)])], fun x => impl_WaitFrom.f k x.1 x.2.1 x.2.2⟩
noncomputable def E71 (k : Nat) : En := ⟨tb, orcOf [(140, S140 k), (132, S132 k), (137, S137 k)], lvOf [], k, 0, lvOf [], []⟩
theorem e71 (k : Nat) (x : dens (flatC (S71 k).ps)) : funK (E71 k) (S71 k) Try.f71 x = (S71 k).fn x := by
  kernel_rfl
theorem M71 (k : Nat) : Meets Try.prog 71 (S71 k) := meets_of Try.func71 (by kernel_rfl) tbOk (orc_cons (M140 k) (orc_cons (M132 k) (orc_cons (M137 k) orc_nil))) mixOk (fun x y h => (e71 k x).trans h) rfl

/-! spec_WaitFrom: function 72 -/
noncomputable def spec_WaitFrom.f (k : Nat) (l0 : List Int) (a1 : Int) (a2 : Int) : Option (Int × Int) := (spec_l10Code.f k l0 a2 [a1]).bind fun t1 => if t1 = 0 then ((spec_l10Wait.f k l0 a1 a2).bind fun t2 => some (t2, 0)) else (some (0, t1))
noncomputable def S72 (k : Nat) : Does := ⟨[(false, [.dat (.list (.int .i64))]), (false, [.dat (.int .i64)]), (false, [.dat (.int .i64)])], [(false, [.dat (.int .i64)]), (false, [.dat (.int .i64)])], fun x => spec_WaitFrom.f k x.1 x.2.1 x.2.2⟩
noncomputable def E72 (k : Nat) : En := ⟨tb, orcOf [(135, S135 k), (138, S138 k)], lvOf [], k, 0, lvOf [], []⟩
theorem e72 (k : Nat) (x : dens (flatC (S72 k).ps)) : funK (E72 k) (S72 k) Try.f72 x = (S72 k).fn x := by
  kernel_rfl
theorem M72 (k : Nat) : Meets Try.prog 72 (S72 k) := meets_of Try.func72 (by kernel_rfl) tbOk (orc_cons (M135 k) (orc_cons (M138 k) orc_nil)) mixOk (fun x y h => (e72 k x).trans h) rfl

/-! impl_waits: function 118 -/
noncomputable def impl_waits.s1 (k : Nat) (r1 : (List Int) → (List Int) → (List Int) → Int → Int → Option ((List Int))) (x0 : List Int) (x5 : List Int) (x6 : List Int) (x27 : Int) (x28 : Int) : Option ((List Int)) := if x28 < x27 then (if 0 ≤ x28 then (if x28 < (x5.length : Int) then (if (wrap64 (x28 + 1)) < (x5.length : Int) then (if 0 ≤ (wrap64 (x28 + 1)) then (if (wrap64 (x28 + 1)) < (x5.length : Int) then (if x6.length + 1 ≤ 1099511627776 then (r1 x0 x5 (x6 ++ [(wrap64 ((rd x5 (wrap64 (x28 + 1))) - (rd x5 x28)))]) x27 (wrap64 (x28 + 1))) else (none)) else (none)) else (none)) else (if 0 < (x5.length : Int) then ((impl_length_int64.f x0).bind fun t1 => if x6.length + 1 ≤ 1099511627776 then (r1 x0 x5 (x6 ++ [(wrap64 ((wrap64 ((rd x5 0) + t1)) - (rd x5 x28)))]) x27 (wrap64 (x28 + 1))) else (none)) else (none))) else (none)) else (none)) else (some x6)
noncomputable def impl_waits.l1 (k : Nat) : Nat → (List Int) → (List Int) → (List Int) → Int → Int → Option ((List Int))
  | 0, _, _, _, _, _ => none
  | n + 1, x0, x1, x2, x3, x4 => impl_waits.s1 k (impl_waits.l1 k n) x0 x1 x2 x3 x4
noncomputable def impl_waits.s0 (k : Nat) (r0 : (List Int) → Int → (List Int) → (List Int) → Int → Int → Option ((List Int))) (r1 : (List Int) → (List Int) → (List Int) → Int → Int → Option ((List Int))) (x0 : List Int) (x1 : Int) (x5 : List Int) (x11 : List Int) (x12 : Int) (x13 : Int) : Option ((List Int)) := if x13 < x12 then (if 0 ≤ x13 then (if x13 < (x11.length : Int) then (if (rd x11 x13) = x1 then (if x5.length + 1 ≤ 1099511627776 then (r0 x0 x1 (x5 ++ [x13]) x11 x12 (wrap64 (x13 + 1))) else (none)) else (r0 x0 x1 x5 x11 x12 (wrap64 (x13 + 1)))) else (none)) else (none)) else (r1 x0 x5 [] (x5.length : Int) 0)
noncomputable def impl_waits.l0 (k : Nat) : Nat → (List Int) → Int → (List Int) → (List Int) → Int → Int → Option ((List Int))
  | 0, _, _, _, _, _, _ => none
  | n + 1, x0, x1, x2, x3, x4, x5 => impl_waits.s0 k (impl_waits.l0 k n) (impl_waits.l1 k k) x0 x1 x2 x3 x4 x5
noncomputable def impl_waits.g (k : Nat) (r0 : (List Int) → Int → (List Int) → (List Int) → Int → Int → Option ((List Int))) (l0 : List Int) (a1 : Int) : Option ((List Int)) := r0 l0 a1 [] l0 (l0.length : Int) 0
noncomputable def impl_waits.f (k : Nat) (l0 : List Int) (a1 : Int) : Option ((List Int)) := impl_waits.g k (impl_waits.l0 k k) l0 a1
noncomputable def S118 (k : Nat) : Does := ⟨[(false, [.dat (.list (.int .i64))]), (false, [.dat (.int .i64)])], [(false, [.own 2 (.int .i64)])], fun x => impl_waits.f k x.1 x.2⟩
noncomputable def E118 (k : Nat) : En := ⟨tb, orcOf [(101, S101 k)], lvOf [(0, [(0, []), (1, []), (5, [.nil 2 (.int .i64)]), (6, []), (11, []), (12, []), (13, [])]), (2, [(0, []), (5, []), (6, [.nil 2 (.int .i64)]), (26, []), (27, []), (28, [])])], k, 0, lvOf [], []⟩
noncomputable def n118_0 (x0 : List Int) (x1 : Int) (x5 : List Int) (x11 : List Int) (x12 : Int) (x13 : Int) : St := ⟨61, lookA [(0, .dat (.list (.int .i64)) x0), (1, .dat (.int .i64) x1), (5, .own 0), (6, .nil), (11, .dat (.list (.int .i64)) x11), (12, .dat (.int .i64) x12), (13, .dat (.int .i64) x13)], Go.V.look [(0, .flat 2 (.int .i64) x5)]⟩
def p118_0 : List Bool := [true, true, false, true, false]
noncomputable def n118_1 (x0 : List Int) (x5 : List Int) (x6 : List Int) (x27 : Int) (x28 : Int) : St := ⟨61, lookA [(0, .dat (.list (.int .i64)) x0), (5, .own 0), (6, .own 1), (26, .own 0), (27, .dat (.int .i64) x27), (28, .dat (.int .i64) x28)], Go.V.look [(0, .flat 2 (.int .i64) x5), (1, .flat 2 (.int .i64) x6)]⟩
def p118_1 : List Bool := [true, true, true, false, true, false]
theorem r118_1 (k : Nat) (rec : St → Option ((List Int))) (v : (List Int) × (List Int) × (List Int) × Int × Int) : roundF (E118 k) (S118 k) Try.f118 p118_1 [] rec (n118_1 v.1 v.2.1 v.2.2.1 v.2.2.2.1 v.2.2.2.2) = impl_waits.s1 k (fun a0 a1 a2 a3 a4 => rec (n118_1 a0 a1 a2 a3 a4)) v.1 v.2.1 v.2.2.1 v.2.2.2.1 v.2.2.2.2 := by
  kernel_rfl
theorem q118_1 (k : Nat) (n : Nat) : ∀ v : (List Int) × (List Int) × (List Int) × Int × Int, loopF (E118 k) (S118 k) Try.f118 p118_1 [] n (n118_1 v.1 v.2.1 v.2.2.1 v.2.2.2.1 v.2.2.2.2) = impl_waits.l1 k n v.1 v.2.1 v.2.2.1 v.2.2.2.1 v.2.2.2.2 :=
  loopF_eq (E118 k) (S118 k) Try.f118 p118_1 [] (fun v : (List Int) × (List Int) × (List Int) × Int × Int => n118_1 v.1 v.2.1 v.2.2.1 v.2.2.2.1 v.2.2.2.2) (fun rec v => impl_waits.s1 k (fun a0 a1 a2 a3 a4 => rec (a0, a1, a2, a3, a4)) v.1 v.2.1 v.2.2.1 v.2.2.2.1 v.2.2.2.2) (fun n v => impl_waits.l1 k n v.1 v.2.1 v.2.2.1 v.2.2.2.1 v.2.2.2.2) (fun _ => rfl) (fun _ _ => rfl) (fun rec v => r118_1 k rec v) n
theorem r118_0 (k : Nat) (rec : St → Option ((List Int))) (G1 : (List Int) → (List Int) → (List Int) → Int → Int → Option ((List Int))) (h1 : ∀ a0 a1 a2 a3 a4, loopF (E118 k) (S118 k) Try.f118 p118_1 [] k (n118_1 a0 a1 a2 a3 a4) = G1 a0 a1 a2 a3 a4) (v : (List Int) × Int × (List Int) × (List Int) × Int × Int) : roundF (E118 k) (S118 k) Try.f118 p118_0 [] rec (n118_0 v.1 v.2.1 v.2.2.1 v.2.2.2.1 v.2.2.2.2.1 v.2.2.2.2.2) = impl_waits.s0 k (fun a0 a1 a2 a3 a4 a5 => rec (n118_0 a0 a1 a2 a3 a4 a5)) G1 v.1 v.2.1 v.2.2.1 v.2.2.2.1 v.2.2.2.2.1 v.2.2.2.2.2 := by
  obtain rfl : (fun a0 a1 a2 a3 a4 => loopF (E118 k) (S118 k) Try.f118 p118_1 [] k (n118_1 a0 a1 a2 a3 a4)) = G1 := funext fun a0 => funext fun a1 => funext fun a2 => funext fun a3 => funext fun a4 => h1 a0 a1 a2 a3 a4
  kernel_rfl
theorem q118_0 (k : Nat) (n : Nat) : ∀ v : (List Int) × Int × (List Int) × (List Int) × Int × Int, loopF (E118 k) (S118 k) Try.f118 p118_0 [] n (n118_0 v.1 v.2.1 v.2.2.1 v.2.2.2.1 v.2.2.2.2.1 v.2.2.2.2.2) = impl_waits.l0 k n v.1 v.2.1 v.2.2.1 v.2.2.2.1 v.2.2.2.2.1 v.2.2.2.2.2 :=
  loopF_eq (E118 k) (S118 k) Try.f118 p118_0 [] (fun v : (List Int) × Int × (List Int) × (List Int) × Int × Int => n118_0 v.1 v.2.1 v.2.2.1 v.2.2.2.1 v.2.2.2.2.1 v.2.2.2.2.2) (fun rec v => impl_waits.s0 k (fun a0 a1 a2 a3 a4 a5 => rec (a0, a1, a2, a3, a4, a5)) (impl_waits.l1 k k) v.1 v.2.1 v.2.2.1 v.2.2.2.1 v.2.2.2.2.1 v.2.2.2.2.2) (fun n v => impl_waits.l0 k n v.1 v.2.1 v.2.2.1 v.2.2.2.1 v.2.2.2.2.1 v.2.2.2.2.2) (fun _ => rfl) (fun _ _ => rfl) (fun rec v => r118_0 k rec _ (fun a0 a1 a2 a3 a4 => q118_1 k k (a0, a1, a2, a3, a4)) v) n
theorem e118 (k : Nat) (x : dens (flatC (S118 k).ps)) : funK (E118 k) (S118 k) Try.f118 x = (S118 k).fn x := by
  have h : funK (E118 k) (S118 k) Try.f118 x = impl_waits.g k (fun a0 a1 a2 a3 a4 a5 => loopF (E118 k) (S118 k) Try.f118 p118_0 [] k (n118_0 a0 a1 a2 a3 a4 a5)) x.1 x.2 := by kernel_rfl
  rw [h]
  rw [show (fun a0 a1 a2 a3 a4 a5 => loopF (E118 k) (S118 k) Try.f118 p118_0 [] k (n118_0 a0 a1 a2 a3 a4 a5)) = impl_waits.l0 k k from funext fun a0 => funext fun a1 => funext fun a2 => funext fun a3 => funext fun a4 => funext fun a5 => q118_0 k k (a0, a1, a2, a3, a4, a5)]
  rfl
theorem M118 (k : Nat) : Meets Try.prog 118 (S118 k) := meets_of Try.func118 (by kernel_rfl) tbOk (orc_cons (M101 k) orc_nil) mixOk (fun x y h => (e118 k x).trans h) rfl

/-! impl_WaitsOf: function 73 -/
noncomputable def impl_WaitsOf.f (k : Nat) (l0 : List Int) (a1 : Int) : Option ((List Int) × Int) := (impl_areTurns.f k l0 8).bind fun t1 => if t1 = true then ((impl_within.f a1 0 7).bind fun t2 => if t2 = true then ((impl_waits.f k l0 a1).bind fun t3 => some (t3, 0)) else (some ([], 2))) else (some ([], 2))
noncomputable def S73 (k : Nat) : Does := ⟨[(false, [.dat (.list (.int .i64))]), (false, [.dat (.int .i64)])], [(false, [.own 2 (.int .i64)]), (false, [.dat (.int .i64)])], fun x => impl_WaitsOf.f k x.1 x.2⟩
noncomputable def E73 (k : Nat) : En := ⟨tb, orcOf [(145, S145 k), (104, S104 k), (118, S118 k)], lvOf [], k, 0, lvOf [], []⟩
theorem e73 (k : Nat) (x : dens (flatC (S73 k).ps)) : funK (E73 k) (S73 k) Try.f73 x = (S73 k).fn x := by
  kernel_rfl
theorem M73 (k : Nat) : Meets Try.prog 73 (S73 k) := meets_of Try.func73 (by kernel_rfl) tbOk (orc_cons (M145 k) (orc_cons (M104 k) (orc_cons (M118 k) orc_nil))) mixOk (fun x y h => (e73 k x).trans h) rfl

/-! laws_FnWaits: function 10 -/
noncomputable def laws_FnWaits.s0 (k : Nat) (r0 : (List Int) → Int → Int → Int → Int → (List Int) → Int → Int → Int → Option (Bool)) (x3 : List Int) (x5 : Int) (x6 : Int) (x12 : Int) (x13 : Int) (x60 : List Int) (x61 : Int) (x62 : Int) (x63 : Int) : Option (Bool) := if x63 < (x60.length : Int) then (if 0 ≤ x63 then (if x63 < (x60.length : Int) then (if 0 ≤ x63 then (if x63 < (x60.length : Int) then (r0 x3 x5 x6 x12 x13 x60 x61 (wrap64 (x62 + (wrap64 (Int.tdiv (wrap64 ((rd x60 x63) * (wrap64 ((rd x60 x63) - 1)))) 2)))) (wrap64 (x63 + 1))) else (none)) else (none)) else (none)) else (none)) else (if x13 = 0 then (if x5 ≤ (wrap64 (x12 * x6)) then (if x61 = 0 then (some (decide ((wrap64 (x5 * (x3.length : Int))) = (wrap64 (x62 * x6))))) else (some false)) else (some false)) else (some false))
noncomputable def laws_FnWaits.l0 (k : Nat) : Nat → (List Int) → Int → Int → Int → Int → (List Int) → Int → Int → Int → Option (Bool)
  | 0, _, _, _, _, _, _, _, _, _ => none
  | n + 1, x0, x1, x2, x3, x4, x5, x6, x7, x8 => laws_FnWaits.s0 k (laws_FnWaits.l0 k n) x0 x1 x2 x3 x4 x5 x6 x7 x8
noncomputable def laws_FnWaits.g (k : Nat) (r0 : (List Int) → Int → Int → Int → Int → (List Int) → Int → Int → Int → Option (Bool)) (l0 : List Int) : Option (Bool) := (laws_big.f l0).bind fun t1 => if t1 = true then (some true) else ((spec_DrawMeanWait.f k l0).bind fun t2 => (impl_MeanWait.f k t2.1 t2.2).bind fun t3 => (spec_MeanWait.f k t2.1 t2.2).bind fun t4 => if t3.2.2 = t4.2.2 then (if t3.1 = t4.1 then (if t3.2.1 = t4.2.1 then ((impl_WorstSlot.f k t2.1 t2.2).bind fun t5 => (spec_WorstSlot.f k t2.1 t2.2).bind fun t6 => if t5.2.2 = t6.2.2 then (if t5.1 = t6.1 then (if t5.2.1 = t6.2.1 then ((spec_DrawWaitForBoth.f k l0).bind fun t7 => (impl_WaitForBoth.f k t7.1 t7.2.1 t7.2.2.1 t7.2.2.2).bind fun t8 => (spec_WaitForBoth.f k t7.1 t7.2.1 t7.2.2.1 t7.2.2.2).bind fun t9 => if t8.2 = t9.2 then (if t8.1 = t9.1 then ((impl_MeanForBoth.f k t7.1 t7.2.1 t7.2.2.1).bind fun t10 => (spec_MeanForBoth.f k t7.1 t7.2.1 t7.2.2.1).bind fun t11 => if t10.2.2 = t11.2.2 then (if t10.1 = t11.1 then (if t10.2.1 = t11.2.1 then ((spec_DrawCountWithin.f k l0).bind fun t12 => (impl_CountWithin.f k t12.1 t12.2.1 t12.2.2).bind fun t13 => (spec_CountWithin.f k t12.1 t12.2.1 t12.2.2).bind fun t14 => if t13.2 = t14.2 then (if t13.1 = t14.1 then ((spec_DrawMeanByWeights.f k l0).bind fun t15 => (impl_MeanByWeights.f k t15.1 t15.2).bind fun t16 => (spec_MeanByWeights.f k t15.1 t15.2).bind fun t17 => if t16.2.2 = t17.2.2 then (if t16.1 = t17.1 then (if t16.2.1 = t17.2.1 then ((spec_DrawWaitFrom.f k l0).bind fun t18 => (impl_WaitFrom.f k t18.1 t18.2.1 t18.2.2).bind fun t19 => (spec_WaitFrom.f k t18.1 t18.2.1 t18.2.2).bind fun t20 => if t19.2 = t20.2 then (if t19.1 = t20.1 then (if t19.2 = 0 then (if (t18.1.length : Int) = 0 then (none) else (if 0 ≤ (Int.tmod (wrap64 (t18.2.2 + t19.1)) (t18.1.length : Int)) then (if (Int.tmod (wrap64 (t18.2.2 + t19.1)) (t18.1.length : Int)) < (t18.1.length : Int) then (if (rd t18.1 (Int.tmod (wrap64 (t18.2.2 + t19.1)) (t18.1.length : Int))) = t18.2.1 then (if t13.2 = 0 then ((impl_WorstSlot.f k t12.1 t12.2.1).bind fun t21 => if t21.2.2 = 0 then (if (decide (t13.1 = (t12.1.length : Int))) = (decide (t21.2.1 ≤ t12.2.2)) then (if t8.2 = 0 then ((impl_WaitFrom.f k t7.1 t7.2.1 t7.2.2.2).bind fun t22 => (impl_WaitFrom.f k t7.1 t7.2.2.1 t7.2.2.2).bind fun t23 => if t22.2 = 0 then (if t23.2 = 0 then (if t8.1 = (maxV t22.1 t23.1) then (if t10.2.2 = 0 then (if t3.2.2 = 0 then ((impl_WaitsOf.f k t2.1 t2.2).bind fun t24 => r0 t2.1 t3.1 t3.2.1 t5.2.1 t5.2.2 t24.1 t24.2 0 0) else (if t3.1 = 0 then (some (decide (t5.2.2 = t3.2.2))) else (some false))) else (some false)) else (some false)) else (some false)) else (some false)) else (if t3.2.2 = 0 then ((impl_WaitsOf.f k t2.1 t2.2).bind fun t25 => r0 t2.1 t3.1 t3.2.1 t5.2.1 t5.2.2 t25.1 t25.2 0 0) else (if t3.1 = 0 then (some (decide (t5.2.2 = t3.2.2))) else (some false)))) else (some false)) else (some false)) else (if t8.2 = 0 then ((impl_WaitFrom.f k t7.1 t7.2.1 t7.2.2.2).bind fun t26 => (impl_WaitFrom.f k t7.1 t7.2.2.1 t7.2.2.2).bind fun t27 => if t26.2 = 0 then (if t27.2 = 0 then (if t8.1 = (maxV t26.1 t27.1) then (if t10.2.2 = 0 then (if t3.2.2 = 0 then ((impl_WaitsOf.f k t2.1 t2.2).bind fun t28 => r0 t2.1 t3.1 t3.2.1 t5.2.1 t5.2.2 t28.1 t28.2 0 0) else (if t3.1 = 0 then (some (decide (t5.2.2 = t3.2.2))) else (some false))) else (some false)) else (some false)) else (some false)) else (some false)) else (if t3.2.2 = 0 then ((impl_WaitsOf.f k t2.1 t2.2).bind fun t29 => r0 t2.1 t3.1 t3.2.1 t5.2.1 t5.2.2 t29.1 t29.2 0 0) else (if t3.1 = 0 then (some (decide (t5.2.2 = t3.2.2))) else (some false))))) else (some false)) else (none)) else (none))) else (if t13.2 = 0 then ((impl_WorstSlot.f k t12.1 t12.2.1).bind fun t30 => if t30.2.2 = 0 then (if (decide (t13.1 = (t12.1.length : Int))) = (decide (t30.2.1 ≤ t12.2.2)) then (if t8.2 = 0 then ((impl_WaitFrom.f k t7.1 t7.2.1 t7.2.2.2).bind fun t31 => (impl_WaitFrom.f k t7.1 t7.2.2.1 t7.2.2.2).bind fun t32 => if t31.2 = 0 then (if t32.2 = 0 then (if t8.1 = (maxV t31.1 t32.1) then (if t10.2.2 = 0 then (if t3.2.2 = 0 then ((impl_WaitsOf.f k t2.1 t2.2).bind fun t33 => r0 t2.1 t3.1 t3.2.1 t5.2.1 t5.2.2 t33.1 t33.2 0 0) else (if t3.1 = 0 then (some (decide (t5.2.2 = t3.2.2))) else (some false))) else (some false)) else (some false)) else (some false)) else (some false)) else (if t3.2.2 = 0 then ((impl_WaitsOf.f k t2.1 t2.2).bind fun t34 => r0 t2.1 t3.1 t3.2.1 t5.2.1 t5.2.2 t34.1 t34.2 0 0) else (if t3.1 = 0 then (some (decide (t5.2.2 = t3.2.2))) else (some false)))) else (some false)) else (some false)) else (if t8.2 = 0 then ((impl_WaitFrom.f k t7.1 t7.2.1 t7.2.2.2).bind fun t35 => (impl_WaitFrom.f k t7.1 t7.2.2.1 t7.2.2.2).bind fun t36 => if t35.2 = 0 then (if t36.2 = 0 then (if t8.1 = (maxV t35.1 t36.1) then (if t10.2.2 = 0 then (if t3.2.2 = 0 then ((impl_WaitsOf.f k t2.1 t2.2).bind fun t37 => r0 t2.1 t3.1 t3.2.1 t5.2.1 t5.2.2 t37.1 t37.2 0 0) else (if t3.1 = 0 then (some (decide (t5.2.2 = t3.2.2))) else (some false))) else (some false)) else (some false)) else (some false)) else (some false)) else (if t3.2.2 = 0 then ((impl_WaitsOf.f k t2.1 t2.2).bind fun t38 => r0 t2.1 t3.1 t3.2.1 t5.2.1 t5.2.2 t38.1 t38.2 0 0) else (if t3.1 = 0 then (some (decide (t5.2.2 = t3.2.2))) else (some false)))))) else (some false)) else (some false)) else (some false)) else (some false)) else (some false)) else (some false)) else (some false)) else (some false)) else (some false)) else (some false)) else (some false)) else (some false)) else (some false)) else (some false)) else (some false)) else (some false)) else (some false)) else (some false))
noncomputable def laws_FnWaits.f (k : Nat) (l0 : List Int) : Option (Bool) := laws_FnWaits.g k (laws_FnWaits.l0 k k) l0
noncomputable def S10 (k : Nat) : Does := ⟨[(false, [.dat (.list (.int .u8))])], [(false, [.dat .bool])], fun x => laws_FnWaits.f k x⟩
noncomputable def E10 (k : Nat) : En := ⟨tb, orcOf [(36, S36 k), (54, S54 k), (55, S55 k), (56, S56 k), (57, S57 k), (58, S58 k), (59, S59 k), (60, S60 k), (61, S61 k), (62, S62 k), (63, S63 k), (64, S64 k), (65, S65 k), (66, S66 k), (67, S67 k), (68, S68 k), (69, S69 k), (70, S70 k), (71, S71 k), (72, S72 k), (73, S73 k)], lvOf [(0, [(3, []), (5, []), (6, []), (12, []), (13, []), (60, []), (61, []), (62, []), (63, [])])], k, 0, lvOf [], []⟩
noncomputable def n10_0 (x3 : List Int) (x5 : Int) (x6 : Int) (x12 : Int) (x13 : Int) (x60 : List Int) (x61 : Int) (x62 : Int) (x63 : Int) : St := ⟨399, lookA [(3, .own 0), (5, .dat (.int .i64) x5), (6, .dat (.int .i64) x6), (12, .dat (.int .i64) x12), (13, .dat (.int .i64) x13), (60, .own 1), (61, .dat (.int .i64) x61), (62, .dat (.int .i64) x62), (63, .dat (.int .i64) x63)], Go.V.look [(0, .flat 2 (.int .i64) x3), (1, .flat 2 (.int .i64) x60)]⟩
def p10_0 : List Bool := [true, true, true, true, true, true, true, true, true, true, true, true, true, true, true, true, true, true, true, true, true, true, true, true, true, true, true, false, true, false]
theorem r10_0 (k : Nat) (rec : St → Option (Bool)) (v : (List Int) × Int × Int × Int × Int × (List Int) × Int × Int × Int) : roundF (E10 k) (S10 k) Try.f10 p10_0 [] rec (n10_0 v.1 v.2.1 v.2.2.1 v.2.2.2.1 v.2.2.2.2.1 v.2.2.2.2.2.1 v.2.2.2.2.2.2.1 v.2.2.2.2.2.2.2.1 v.2.2.2.2.2.2.2.2) = laws_FnWaits.s0 k (fun a0 a1 a2 a3 a4 a5 a6 a7 a8 => rec (n10_0 a0 a1 a2 a3 a4 a5 a6 a7 a8)) v.1 v.2.1 v.2.2.1 v.2.2.2.1 v.2.2.2.2.1 v.2.2.2.2.2.1 v.2.2.2.2.2.2.1 v.2.2.2.2.2.2.2.1 v.2.2.2.2.2.2.2.2 := by
  kernel_rfl
theorem q10_0 (k : Nat) (n : Nat) : ∀ v : (List Int) × Int × Int × Int × Int × (List Int) × Int × Int × Int, loopF (E10 k) (S10 k) Try.f10 p10_0 [] n (n10_0 v.1 v.2.1 v.2.2.1 v.2.2.2.1 v.2.2.2.2.1 v.2.2.2.2.2.1 v.2.2.2.2.2.2.1 v.2.2.2.2.2.2.2.1 v.2.2.2.2.2.2.2.2) = laws_FnWaits.l0 k n v.1 v.2.1 v.2.2.1 v.2.2.2.1 v.2.2.2.2.1 v.2.2.2.2.2.1 v.2.2.2.2.2.2.1 v.2.2.2.2.2.2.2.1 v.2.2.2.2.2.2.2.2 :=
  loopF_eq (E10 k) (S10 k) Try.f10 p10_0 [] (fun v : (List Int) × Int × Int × Int × Int × (List Int) × Int × Int × Int => n10_0 v.1 v.2.1 v.2.2.1 v.2.2.2.1 v.2.2.2.2.1 v.2.2.2.2.2.1 v.2.2.2.2.2.2.1 v.2.2.2.2.2.2.2.1 v.2.2.2.2.2.2.2.2) (fun rec v => laws_FnWaits.s0 k (fun a0 a1 a2 a3 a4 a5 a6 a7 a8 => rec (a0, a1, a2, a3, a4, a5, a6, a7, a8)) v.1 v.2.1 v.2.2.1 v.2.2.2.1 v.2.2.2.2.1 v.2.2.2.2.2.1 v.2.2.2.2.2.2.1 v.2.2.2.2.2.2.2.1 v.2.2.2.2.2.2.2.2) (fun n v => laws_FnWaits.l0 k n v.1 v.2.1 v.2.2.1 v.2.2.2.1 v.2.2.2.2.1 v.2.2.2.2.2.1 v.2.2.2.2.2.2.1 v.2.2.2.2.2.2.2.1 v.2.2.2.2.2.2.2.2) (fun _ => rfl) (fun _ _ => rfl) (fun rec v => r10_0 k rec v) n
theorem e10 (k : Nat) (x : dens (flatC (S10 k).ps)) : funK (E10 k) (S10 k) Try.f10 x = (S10 k).fn x := by
  have h : funK (E10 k) (S10 k) Try.f10 x = laws_FnWaits.g k (fun a0 a1 a2 a3 a4 a5 a6 a7 a8 => loopF (E10 k) (S10 k) Try.f10 p10_0 [] k (n10_0 a0 a1 a2 a3 a4 a5 a6 a7 a8)) x := by kernel_rfl
  rw [h]
  rw [show (fun a0 a1 a2 a3 a4 a5 a6 a7 a8 => loopF (E10 k) (S10 k) Try.f10 p10_0 [] k (n10_0 a0 a1 a2 a3 a4 a5 a6 a7 a8)) = laws_FnWaits.l0 k k from funext fun a0 => funext fun a1 => funext fun a2 => funext fun a3 => funext fun a4 => funext fun a5 => funext fun a6 => funext fun a7 => funext fun a8 => q10_0 k k (a0, a1, a2, a3, a4, a5, a6, a7, a8)]
  rfl
theorem M10 (k : Nat) : Meets Try.prog 10 (S10 k) := meets_of Try.func10 (by kernel_rfl) tbOk (orc_cons (M36 k) (orc_cons (M54 k) (orc_cons (M55 k) (orc_cons (M56 k) (orc_cons (M57 k) (orc_cons (M58 k) (orc_cons (M59 k) (orc_cons (M60 k) (orc_cons (M61 k) (orc_cons (M62 k) (orc_cons (M63 k) (orc_cons (M64 k) (orc_cons (M65 k) (orc_cons (M66 k) (orc_cons (M67 k) (orc_cons (M68 k) (orc_cons (M69 k) (orc_cons (M70 k) (orc_cons (M71 k) (orc_cons (M72 k) (orc_cons (M73 k) orc_nil))))))))))))))))))))) mixOk (fun x y h => (e10 k x).trans h) rfl



end Go.Proofs.Ytmgdobiloapelaa.Vf
