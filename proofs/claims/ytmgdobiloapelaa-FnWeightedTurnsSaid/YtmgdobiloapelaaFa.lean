/- What the functions of program, reference and laws give, as plain functions, and that they meet them (part 1). Conditions: none. Written by a program of my own (vp.py). -/
import Derived.Test.YtmgdobiloapelaaVc
import Derived.Test.YtmgdobiloapelaaProg
import Derived.BigQuiet
import Derived.Deep.DeepCutAuto
import Derived.Deep.LoopGhost
import Derived.Deep.OwnRows
import Derived.Deep.RegionLaw
import Derived.Handy
import Derived.Laws.CopyOwn
import Derived.Laws.MakeOwn
import Derived.Maps.AppendAt
import Derived.OwnWalk
import Derived.Tactics
import Derived.WalkKit
set_option linter.unusedVariables false
set_option maxRecDepth 100000
namespace Go.Proofs.Ytmgdobiloapelaa.Vf
open Go Go.V Go.RowKit Go.Proofs
def tbl : List (Nat × TI) := [(1, ⟨.fn, 1, 8, [.nilFunc]⟩), (2, ⟨.int .i64, 1, 8, [.int .i64 0]⟩), (3, ⟨.int .i64, 1, 8, [.int .i64 0]⟩), (4, ⟨.bool, 1, 1, [.bool false]⟩), (5, ⟨.int .u8, 1, 1, [.int .u8 0]⟩), (6, ⟨.int .u8, 1, 1, [.int .u8 0]⟩), (7, ⟨.struct true [(0, 2), (1, 3), (2, 4), (3, 6)], 4, 24, [.int .i64 0, .int .i64 0, .bool false, .int .u8 0]⟩), (8, ⟨.struct true [(0, 2), (1, 3), (2, 4), (3, 6)], 4, 24, [.int .i64 0, .int .i64 0, .bool false, .int .u8 0]⟩), (9, ⟨.str, 1, 16, [.string ByteArray.empty]⟩), (10, ⟨.str, 1, 16, [.string ByteArray.empty]⟩), (11, ⟨.str, 1, 16, [.string ByteArray.empty]⟩), (12, ⟨.int .u64, 1, 8, [.int .u64 0]⟩), (13, ⟨.struct false [(0, 9), (1, 12)], 2, 24, [.string ByteArray.empty, .int .u64 0]⟩), (14, ⟨.struct false [(0, 9), (1, 12)], 2, 24, [.string ByteArray.empty, .int .u64 0]⟩), (15, ⟨.ptr 147, 1, 8, [.pointer none]⟩), (16, ⟨.ptr 150, 1, 8, [.pointer none]⟩), (17, ⟨.ptr 159, 1, 8, [.pointer none]⟩), (18, ⟨.struct false [(0, 17)], 1, 8, [.pointer none]⟩), (19, ⟨.struct false [(0, 17)], 1, 8, [.pointer none]⟩), (21, ⟨.int .i32, 1, 4, [.int .i32 0]⟩), (22, ⟨.slice 2, 1, 24, [.slice none 0 0]⟩), (23, ⟨.struct true [(0, 22), (1, 22), (2, 22)], 3, 72, [.slice none 0 0, .slice none 0 0, .slice none 0 0]⟩), (24, ⟨.struct true [(0, 22), (1, 22), (2, 22)], 3, 72, [.slice none 0 0, .slice none 0 0, .slice none 0 0]⟩), (25, ⟨.fn, 1, 8, [.nilFunc]⟩), (27, ⟨.fn, 1, 8, [.nilFunc]⟩), (28, ⟨.struct true [(0, 22), (1, 22), (2, 22)], 3, 72, [.slice none 0 0, .slice none 0 0, .slice none 0 0]⟩), (29, ⟨.fn, 1, 8, [.nilFunc]⟩), (30, ⟨.fn, 1, 8, [.nilFunc]⟩), (31, ⟨.fn, 1, 8, [.nilFunc]⟩), (32, ⟨.fn, 1, 8, [.nilFunc]⟩), (33, ⟨.fn, 1, 8, [.nilFunc]⟩), (34, ⟨.fn, 1, 8, [.nilFunc]⟩), (35, ⟨.fn, 1, 8, [.nilFunc]⟩), (36, ⟨.fn, 1, 8, [.nilFunc]⟩), (37, ⟨.fn, 1, 8, [.nilFunc]⟩), (38, ⟨.fn, 1, 8, [.nilFunc]⟩), (39, ⟨.fn, 1, 8, [.nilFunc]⟩), (40, ⟨.struct true [(0, 22)], 1, 24, [.slice none 0 0]⟩), (41, ⟨.struct true [(0, 22)], 1, 24, [.slice none 0 0]⟩), (43, ⟨.fn, 1, 8, [.nilFunc]⟩), (44, ⟨.fn, 1, 8, [.nilFunc]⟩), (45, ⟨.fn, 1, 8, [.nilFunc]⟩), (46, ⟨.slice 5, 1, 24, [.slice none 0 0]⟩), (47, ⟨.fn, 1, 8, [.nilFunc]⟩), (48, ⟨.fn, 1, 8, [.nilFunc]⟩), (50, ⟨.fn, 1, 8, [.nilFunc]⟩), (52, ⟨.fn, 1, 8, [.nilFunc]⟩), (54, ⟨.fn, 1, 8, [.nilFunc]⟩), (55, ⟨.fn, 1, 8, [.nilFunc]⟩), (57, ⟨.fn, 1, 8, [.nilFunc]⟩), (58, ⟨.fn, 1, 8, [.nilFunc]⟩), (59, ⟨.fn, 1, 8, [.nilFunc]⟩), (60, ⟨.fn, 1, 8, [.nilFunc]⟩), (62, ⟨.fn, 1, 8, [.nilFunc]⟩), (63, ⟨.fn, 1, 8, [.nilFunc]⟩), (64, ⟨.fn, 1, 8, [.nilFunc]⟩), (66, ⟨.fn, 1, 8, [.nilFunc]⟩), (67, ⟨.fn, 1, 8, [.nilFunc]⟩), (69, ⟨.fn, 1, 8, [.nilFunc]⟩), (70, ⟨.fn, 1, 8, [.nilFunc]⟩), (71, ⟨.fn, 1, 8, [.nilFunc]⟩), (72, ⟨.fn, 1, 8, [.nilFunc]⟩), (73, ⟨.fn, 1, 8, [.nilFunc]⟩), (74, ⟨.fn, 1, 8, [.nilFunc]⟩), (76, ⟨.fn, 1, 8, [.nilFunc]⟩), (77, ⟨.fn, 1, 8, [.nilFunc]⟩), (78, ⟨.fn, 1, 8, [.nilFunc]⟩), (79, ⟨.fn, 1, 8, [.nilFunc]⟩), (80, ⟨.fn, 1, 8, [.nilFunc]⟩), (81, ⟨.fn, 1, 8, [.nilFunc]⟩), (82, ⟨.fn, 1, 8, [.nilFunc]⟩), (83, ⟨.fn, 1, 8, [.nilFunc]⟩), (84, ⟨.fn, 1, 8, [.nilFunc]⟩), (85, ⟨.fn, 1, 8, [.nilFunc]⟩), (86, ⟨.fn, 1, 8, [.nilFunc]⟩), (87, ⟨.fn, 1, 8, [.nilFunc]⟩), (88, ⟨.fn, 1, 8, [.nilFunc]⟩), (89, ⟨.fn, 1, 8, [.nilFunc]⟩), (90, ⟨.fn, 1, 8, [.nilFunc]⟩), (91, ⟨.fn, 1, 8, [.nilFunc]⟩), (92, ⟨.fn, 1, 8, [.nilFunc]⟩), (93, ⟨.fn, 1, 8, [.nilFunc]⟩), (94, ⟨.fn, 1, 8, [.nilFunc]⟩), (95, ⟨.fn, 1, 8, [.nilFunc]⟩), (96, ⟨.fn, 1, 8, [.nilFunc]⟩), (97, ⟨.fn, 1, 8, [.nilFunc]⟩), (98, ⟨.ptr 125, 1, 8, [.pointer none]⟩), (99, ⟨.fn, 1, 8, [.nilFunc]⟩), (100, ⟨.fn, 1, 8, [.nilFunc]⟩), (101, ⟨.fn, 1, 8, [.nilFunc]⟩), (102, ⟨.fn, 1, 8, [.nilFunc]⟩), (103, ⟨.fn, 1, 8, [.nilFunc]⟩), (104, ⟨.fn, 1, 8, [.nilFunc]⟩), (105, ⟨.fn, 1, 8, [.nilFunc]⟩), (106, ⟨.fn, 1, 8, [.nilFunc]⟩), (107, ⟨.fn, 1, 8, [.nilFunc]⟩), (108, ⟨.fn, 1, 8, [.nilFunc]⟩), (109, ⟨.fn, 1, 8, [.nilFunc]⟩), (110, ⟨.fn, 1, 8, [.nilFunc]⟩), (111, ⟨.fn, 1, 8, [.nilFunc]⟩), (112, ⟨.fn, 1, 8, [.nilFunc]⟩), (113, ⟨.slice 4, 1, 24, [.slice none 0 0]⟩), (114, ⟨.map 2 4, 1, 8, [.map none]⟩), (115, ⟨.fn, 1, 8, [.nilFunc]⟩), (116, ⟨.fn, 1, 8, [.nilFunc]⟩), (117, ⟨.fn, 1, 8, [.nilFunc]⟩), (118, ⟨.fn, 1, 8, [.nilFunc]⟩), (119, ⟨.fn, 1, 8, [.nilFunc]⟩), (120, ⟨.fn, 1, 8, [.nilFunc]⟩), (121, ⟨.fn, 1, 8, [.nilFunc]⟩), (122, ⟨.fn, 1, 8, [.nilFunc]⟩), (123, ⟨.int .u64, 1, 8, [.int .u64 0]⟩), (124, ⟨.struct true [(0, 46), (1, 3), (2, 123)], 3, 40, [.slice none 0 0, .int .i64 0, .int .u64 0]⟩), (125, ⟨.struct true [(0, 46), (1, 3), (2, 123)], 3, 40, [.slice none 0 0, .int .i64 0, .int .u64 0]⟩), (126, ⟨.fn, 1, 8, [.nilFunc]⟩), (127, ⟨.int .u64, 1, 8, [.int .u64 0]⟩), (129, ⟨.fn, 1, 8, [.nilFunc]⟩), (130, ⟨.fn, 1, 8, [.nilFunc]⟩), (131, ⟨.fn, 1, 8, [.nilFunc]⟩), (132, ⟨.fn, 1, 8, [.nilFunc]⟩), (133, ⟨.fn, 1, 8, [.nilFunc]⟩), (134, ⟨.int .u32, 1, 4, [.int .u32 0]⟩), (136, ⟨.fn, 1, 8, [.nilFunc]⟩), (138, ⟨.fn, 1, 8, [.nilFunc]⟩), (140, ⟨.fn, 1, 8, [.nilFunc]⟩), (141, ⟨.fn, 1, 8, [.nilFunc]⟩), (142, ⟨.fn, 1, 8, [.nilFunc]⟩), (143, ⟨.fn, 1, 8, [.nilFunc]⟩), (144, ⟨.fn, 1, 8, [.nilFunc]⟩), (145, ⟨.fn, 1, 8, [.nilFunc]⟩), (146, ⟨.struct false [(0, 17), (1, 17), (2, 17), (3, 9)], 4, 40, [.pointer none, .pointer none, .pointer none, .string ByteArray.empty]⟩), (147, ⟨.struct false [(0, 17), (1, 17), (2, 17), (3, 9)], 4, 40, [.pointer none, .pointer none, .pointer none, .string ByteArray.empty]⟩), (149, ⟨.struct false [(0, 148)], 0, 0, []⟩), (150, ⟨.struct false [(0, 148)], 0, 0, []⟩), (151, ⟨.fn, 1, 8, [.nilFunc]⟩), (152, ⟨.int .u8, 1, 1, [.int .u8 0]⟩), (153, ⟨.int .u8, 1, 1, [.int .u8 0]⟩), (154, ⟨.fn, 1, 8, [.nilFunc]⟩), (155, ⟨.ptr 5, 1, 8, [.pointer none]⟩), (156, ⟨.int .i32, 1, 4, [.int .i32 0]⟩), (157, ⟨.int .i32, 1, 4, [.int .i32 0]⟩), (158, ⟨.struct false [(0, 12), (1, 12), (2, 134), (3, 152), (4, 5), (5, 5), (6, 153), (7, 154), (8, 155), (9, 156), (10, 157)], 11, 48, [.int .u64 0, .int .u64 0, .int .u32 0, .int .u8 0, .int .u8 0, .int .u8 0, .int .u8 0, .nilFunc, .pointer none, .int .i32 0, .int .i32 0]⟩), (159, ⟨.struct false [(0, 12), (1, 12), (2, 134), (3, 152), (4, 5), (5, 5), (6, 153), (7, 154), (8, 155), (9, 156), (10, 157)], 11, 48, [.int .u64 0, .int .u64 0, .int .u32 0, .int .u8 0, .int .u8 0, .int .u8 0, .int .u8 0, .nilFunc, .pointer none, .int .i32 0, .int .i32 0]⟩), (160, ⟨.fn, 1, 8, [.nilFunc]⟩)]
def tb : TypeId → Option TI := Go.V.look tbl
theorem tbEq : tbl.map (fun p => entryOf Try.prog p.1) = tbl.map (fun p => some p.2) := by kernel_rfl
theorem tbOk : TbOK Try.prog tb := tb_of tbEq
theorem mixOk : Try.prog.follows .mixedOrders = true := by kernel_rfl

/-! laws_big: function 36 -/
noncomputable def laws_big.f (l0 : List Int) : Option (Bool) := some (decide (4096 < (l0.length : Int)))
noncomputable def S36 (k : Nat) : Does := ⟨[(false, [.dat (.list (.int .u8))])], [(false, [.dat .bool])], fun x => laws_big.f x⟩
noncomputable def E36 (k : Nat) : En := ⟨tb, orcOf [], lvOf [], k, 0, lvOf [], []⟩
theorem e36 (k : Nat) (x : dens (flatC (S36 k).ps)) : funK (E36 k) (S36 k) Try.f36 x = (S36 k).fn x := by
  kernel_rfl
theorem M36 (k : Nat) : Meets Try.prog 36 (S36 k) := meets_of Try.func36 (by kernel_rfl) tbOk orc_nil mixOk (fun x y h => (e36 k x).trans h) rfl

/-! spec_l01From: function 126 -/
noncomputable def spec_l01From.s0 (k : Nat) (r0 : (List Int) → (List Int) → Int → Int → Int → Option (((List Int) × Int × Int))) (x0 : List Int) (x3_0 : List Int) (x3_1 : Int) (x3_2 : Int) (x4 : Int) : Option (((List Int) × Int × Int)) := if x4 < (x0.length : Int) then (if x4 < 4096 then (if 0 ≤ x4 then (if x4 < (x0.length : Int) then (r0 x0 x3_0 x3_1 (IntKind.wrap .u64 ((IntKind.wrap .u64 ((IntKind.wrap .u64 (x3_2 * 1099511628211)) + (IntKind.wrap .u64 ((rd x0 x4))))) + 241)) (wrap64 (x4 + 1))) else (none)) else (none)) else (some (x3_0, x3_1, x3_2))) else (some (x3_0, x3_1, x3_2))
noncomputable def spec_l01From.l0 (k : Nat) : Nat → (List Int) → (List Int) → Int → Int → Int → Option (((List Int) × Int × Int))
  | 0, _, _, _, _, _ => none
  | n + 1, x0, x1, x2, x3, x4 => spec_l01From.s0 k (spec_l01From.l0 k n) x0 x1 x2 x3 x4
noncomputable def spec_l01From.g (k : Nat) (r0 : (List Int) → (List Int) → Int → Int → Int → Option (((List Int) × Int × Int))) (l0 : List Int) : Option (((List Int) × Int × Int)) := r0 l0 l0 0 (IntKind.wrap .u64 (14041 + (IntKind.wrap .u64 ((l0.length : Int))))) 0
noncomputable def spec_l01From.f (k : Nat) (l0 : List Int) : Option (((List Int) × Int × Int)) := spec_l01From.g k (spec_l01From.l0 k k) l0
noncomputable def S126 (k : Nat) : Does := ⟨[(false, [.dat (.list (.int .u8))])], [(false, [.cel (.struct (.pair (.list (.int .u8)) (.pair (.int .i64) (.int .u64))))])], fun x => spec_l01From.f k x⟩
noncomputable def E126 (k : Nat) : En := ⟨tb, orcOf [], lvOf [(0, [(0, []), (3, []), (4, [])])], k, 0, lvOf [], []⟩
noncomputable def n126_0 (x0 : List Int) (x3_0 : List Int) (x3_1 : Int) (x3_2 : Int) (x4 : Int) : St := ⟨38, lookA [(0, .dat (.list (.int .u8)) x0), (3, .box 0 0), (4, .dat (.int .i64) x4)], Go.V.look [(0, .cells [.dat (.list (.int .u8)) x3_0, .dat (.int .i64) x3_1, .dat (.int .u64) x3_2])]⟩
def p126_0 : List Bool := [true, true, false, true, false]
theorem r126_0 (k : Nat) (rec : St → Option (((List Int) × Int × Int))) (v : (List Int) × (List Int) × Int × Int × Int) : roundF (E126 k) (S126 k) Try.f126 p126_0 [] rec (n126_0 v.1 v.2.1 v.2.2.1 v.2.2.2.1 v.2.2.2.2) = spec_l01From.s0 k (fun a0 a1 a2 a3 a4 => rec (n126_0 a0 a1 a2 a3 a4)) v.1 v.2.1 v.2.2.1 v.2.2.2.1 v.2.2.2.2 := by
  kernel_rfl
theorem q126_0 (k : Nat) (n : Nat) : ∀ v : (List Int) × (List Int) × Int × Int × Int, loopF (E126 k) (S126 k) Try.f126 p126_0 [] n (n126_0 v.1 v.2.1 v.2.2.1 v.2.2.2.1 v.2.2.2.2) = spec_l01From.l0 k n v.1 v.2.1 v.2.2.1 v.2.2.2.1 v.2.2.2.2 :=
  loopF_eq (E126 k) (S126 k) Try.f126 p126_0 [] (fun v : (List Int) × (List Int) × Int × Int × Int => n126_0 v.1 v.2.1 v.2.2.1 v.2.2.2.1 v.2.2.2.2) (fun rec v => spec_l01From.s0 k (fun a0 a1 a2 a3 a4 => rec (a0, a1, a2, a3, a4)) v.1 v.2.1 v.2.2.1 v.2.2.2.1 v.2.2.2.2) (fun n v => spec_l01From.l0 k n v.1 v.2.1 v.2.2.1 v.2.2.2.1 v.2.2.2.2) (fun _ => rfl) (fun _ _ => rfl) (fun rec v => r126_0 k rec v) n
theorem e126 (k : Nat) (x : dens (flatC (S126 k).ps)) : funK (E126 k) (S126 k) Try.f126 x = (S126 k).fn x := by
  have h : funK (E126 k) (S126 k) Try.f126 x = spec_l01From.g k (fun a0 a1 a2 a3 a4 => loopF (E126 k) (S126 k) Try.f126 p126_0 [] k (n126_0 a0 a1 a2 a3 a4)) x := by kernel_rfl
  rw [h]
  rw [show (fun a0 a1 a2 a3 a4 => loopF (E126 k) (S126 k) Try.f126 p126_0 [] k (n126_0 a0 a1 a2 a3 a4)) = spec_l01From.l0 k k from funext fun a0 => funext fun a1 => funext fun a2 => funext fun a3 => funext fun a4 => q126_0 k k (a0, a1, a2, a3, a4)]
  rfl
theorem M126 (k : Nat) : Meets Try.prog 126 (S126 k) := meets_of Try.func126 (by kernel_rfl) tbOk orc_nil mixOk (fun x y h => (e126 k x).trans h) rfl

/-! spec_l01Next: function 139 -/
noncomputable def spec_l01Next.f (a0 : (List Int) × Int × Int) (a1 : Int) : Option (Int × ((List Int) × Int × Int)) := if a1 < 1 then (some (0, a0.1, a0.2.1, a0.2.2)) else (if a0.2.1 < (a0.1.length : Int) then (if 0 ≤ a0.2.1 then (if a0.2.1 < (a0.1.length : Int) then (if a1 = 0 then (none) else (some ((Int.tmod (wrap64 ((wrap64 ((andV .u64 (shrV .u64 (IntKind.wrap .u64 ((IntKind.wrap .u64 (a0.2.2 * 6364136223846793005)) + 1442695040888963407)) 33) 16777215))) + (wrap64 ((rd a0.1 a0.2.1))))) a1), a0.1, (wrap64 (a0.2.1 + 1)), (IntKind.wrap .u64 ((IntKind.wrap .u64 (a0.2.2 * 6364136223846793005)) + 1442695040888963407))))) else (none)) else (none)) else (if a1 = 0 then (none) else (some ((Int.tmod (wrap64 ((andV .u64 (shrV .u64 (IntKind.wrap .u64 ((IntKind.wrap .u64 (a0.2.2 * 6364136223846793005)) + 1442695040888963407)) 33) 16777215))) a1), a0.1, a0.2.1, (IntKind.wrap .u64 ((IntKind.wrap .u64 (a0.2.2 * 6364136223846793005)) + 1442695040888963407))))))
noncomputable def S139 (k : Nat) : Does := ⟨[(false, [.cel (.struct (.pair (.list (.int .u8)) (.pair (.int .i64) (.int .u64))))]), (false, [.dat (.int .i64)])], [(false, [.dat (.int .i64)])], fun x => spec_l01Next.f x.1 x.2⟩
noncomputable def E139 (k : Nat) : En := ⟨tb, orcOf [], lvOf [], k, 1, lvOf [], []⟩
theorem e139 (k : Nat) (x : dens (flatC (S139 k).ps)) : funK (E139 k) (S139 k) Try.f139 x = (S139 k).fn x := by
  kernel_rfl
theorem M139 (k : Nat) : Meets Try.prog 139 (S139 k) := meets_of Try.func139 (by kernel_rfl) tbOk orc_nil mixOk (fun x y h => (e139 k x).trans h) rfl

/-! spec_l01Pick: function 128 -/
noncomputable def spec_l01Pick.f (a0 : (List Int) × Int × Int) (l1 : List Int) : Option (Int × ((List Int) × Int × Int)) := (spec_l01Next.f (a0.1, a0.2.1, a0.2.2) (l1.length : Int)).bind fun t1 => if 0 ≤ t1.1 then (if t1.1 < (l1.length : Int) then (some ((rd l1 t1.1), t1.2.1, t1.2.2.1, t1.2.2.2)) else (none)) else (none)
noncomputable def S128 (k : Nat) : Does := ⟨[(false, [.cel (.struct (.pair (.list (.int .u8)) (.pair (.int .i64) (.int .u64))))]), (false, [.dat (.list (.int .i64))])], [(false, [.dat (.int .i64)])], fun x => spec_l01Pick.f x.1 x.2⟩
noncomputable def E128 (k : Nat) : En := ⟨tb, orcOf [(139, S139 k)], lvOf [], k, 1, lvOf [], []⟩
theorem e128 (k : Nat) (x : dens (flatC (S128 k).ps)) : funK (E128 k) (S128 k) Try.f128 x = (S128 k).fn x := by
  kernel_rfl
theorem M128 (k : Nat) : Meets Try.prog 128 (S128 k) := meets_of Try.func128 (by kernel_rfl) tbOk (orc_cons (M139 k) orc_nil) mixOk (fun x y h => (e128 k x).trans h) rfl

/-! spec_l10DrawWeights: function 141 -/
noncomputable def spec_l10DrawWeights.s0 (k : Nat) (r0 : (List Int) → Int → Int → (List Int) → Int → Int → Option ((List Int) × ((List Int) × Int × Int))) (x0_0 : List Int) (x0_1 : Int) (x0_2 : Int) (x5 : List Int) (x6 : Int) (x7 : Int) : Option ((List Int) × ((List Int) × Int × Int)) := if 0 < x7 then ((spec_l01Next.f (x0_0, x0_1, x0_2) x6).bind fun t3 => if x5.length + 1 ≤ 1099511627776 then (r0 t3.2.1 t3.2.2.1 t3.2.2.2 (x5 ++ [t3.1]) x6 (wrap64 (x7 - 1))) else (none)) else ((spec_l01Next.f (x0_0, x0_1, x0_2) 24).bind fun t4 => if (decide (t4.1 = 0)) = true then ((spec_l01Pick.f (t4.2.1, t4.2.2.1, t4.2.2.2) [(-1), 101, 0]).bind fun t5 => if 0 < (x5.length : Int) then (some ((x5.set (0 : Int).toNat t5.1), t5.2.1, t5.2.2.1, t5.2.2.2)) else (none)) else (if (decide (t4.1 = 1)) = true then (if x5.length + 2 ≤ 1099511627776 then (some ((x5 ++ [1, 1]), t4.2.1, t4.2.2.1, t4.2.2.2)) else (none)) else (some (x5, t4.2.1, t4.2.2.1, t4.2.2.2))))
noncomputable def spec_l10DrawWeights.l0 (k : Nat) : Nat → (List Int) → Int → Int → (List Int) → Int → Int → Option ((List Int) × ((List Int) × Int × Int))
  | 0, _, _, _, _, _, _ => none
  | n + 1, x0, x1, x2, x3, x4, x5 => spec_l10DrawWeights.s0 k (spec_l10DrawWeights.l0 k n) x0 x1 x2 x3 x4 x5
noncomputable def spec_l10DrawWeights.g (k : Nat) (r0 : (List Int) → Int → Int → (List Int) → Int → Int → Option ((List Int) × ((List Int) × Int × Int))) (a0 : (List Int) × Int × Int) (a1 : Int) : Option ((List Int) × ((List Int) × Int × Int)) := (spec_l01Pick.f (a0.1, a0.2.1, a0.2.2) [4, 10, 101]).bind fun t1 => (spec_l01Next.f (t1.2.1, t1.2.2.1, t1.2.2.2) a1).bind fun t2 => r0 t2.2.1 t2.2.2.1 t2.2.2.2 [] t1.1 (wrap64 (1 + t2.1))
noncomputable def spec_l10DrawWeights.f (k : Nat) (a0 : (List Int) × Int × Int) (a1 : Int) : Option ((List Int) × ((List Int) × Int × Int)) := spec_l10DrawWeights.g k (spec_l10DrawWeights.l0 k k) a0 a1
noncomputable def S141 (k : Nat) : Does := ⟨[(false, [.cel (.struct (.pair (.list (.int .u8)) (.pair (.int .i64) (.int .u64))))]), (false, [.dat (.int .i64)])], [(false, [.own 2 (.int .i64)])], fun x => spec_l10DrawWeights.f k x.1 x.2⟩
noncomputable def E141 (k : Nat) : En := ⟨tb, orcOf [(128, S128 k), (139, S139 k)], lvOf [(0, [(0, []), (5, []), (6, []), (7, [])])], k, 1, lvOf [], []⟩
noncomputable def n141_0 (x0_0 : List Int) (x0_1 : Int) (x0_2 : Int) (x5 : List Int) (x6 : Int) (x7 : Int) : St := ⟨41, lookA [(0, .box 0 0), (5, .own 1), (6, .dat (.int .i64) x6), (7, .dat (.int .i64) x7)], Go.V.look [(0, .cells [.dat (.list (.int .u8)) x0_0, .dat (.int .i64) x0_1, .dat (.int .u64) x0_2]), (1, .flat 2 (.int .i64) x5)]⟩
def p141_0 : List Bool := [true, true, false, true, false]
theorem r141_0 (k : Nat) (rec : St → Option ((List Int) × ((List Int) × Int × Int))) (v : (List Int) × Int × Int × (List Int) × Int × Int) : roundF (E141 k) (S141 k) Try.f141 p141_0 [] rec (n141_0 v.1 v.2.1 v.2.2.1 v.2.2.2.1 v.2.2.2.2.1 v.2.2.2.2.2) = spec_l10DrawWeights.s0 k (fun a0 a1 a2 a3 a4 a5 => rec (n141_0 a0 a1 a2 a3 a4 a5)) v.1 v.2.1 v.2.2.1 v.2.2.2.1 v.2.2.2.2.1 v.2.2.2.2.2 := by
  kernel_rfl
theorem q141_0 (k : Nat) (n : Nat) : ∀ v : (List Int) × Int × Int × (List Int) × Int × Int, loopF (E141 k) (S141 k) Try.f141 p141_0 [] n (n141_0 v.1 v.2.1 v.2.2.1 v.2.2.2.1 v.2.2.2.2.1 v.2.2.2.2.2) = spec_l10DrawWeights.l0 k n v.1 v.2.1 v.2.2.1 v.2.2.2.1 v.2.2.2.2.1 v.2.2.2.2.2 :=
  loopF_eq (E141 k) (S141 k) Try.f141 p141_0 [] (fun v : (List Int) × Int × Int × (List Int) × Int × Int => n141_0 v.1 v.2.1 v.2.2.1 v.2.2.2.1 v.2.2.2.2.1 v.2.2.2.2.2) (fun rec v => spec_l10DrawWeights.s0 k (fun a0 a1 a2 a3 a4 a5 => rec (a0, a1, a2, a3, a4, a5)) v.1 v.2.1 v.2.2.1 v.2.2.2.1 v.2.2.2.2.1 v.2.2.2.2.2) (fun n v => spec_l10DrawWeights.l0 k n v.1 v.2.1 v.2.2.1 v.2.2.2.1 v.2.2.2.2.1 v.2.2.2.2.2) (fun _ => rfl) (fun _ _ => rfl) (fun rec v => r141_0 k rec v) n
theorem e141 (k : Nat) (x : dens (flatC (S141 k).ps)) : funK (E141 k) (S141 k) Try.f141 x = (S141 k).fn x := by
  have h : funK (E141 k) (S141 k) Try.f141 x = spec_l10DrawWeights.g k (fun a0 a1 a2 a3 a4 a5 => loopF (E141 k) (S141 k) Try.f141 p141_0 [] k (n141_0 a0 a1 a2 a3 a4 a5)) x.1 x.2 := by kernel_rfl
  rw [h]
  rw [show (fun a0 a1 a2 a3 a4 a5 => loopF (E141 k) (S141 k) Try.f141 p141_0 [] k (n141_0 a0 a1 a2 a3 a4 a5)) = spec_l10DrawWeights.l0 k k from funext fun a0 => funext fun a1 => funext fun a2 => funext fun a3 => funext fun a4 => funext fun a5 => q141_0 k k (a0, a1, a2, a3, a4, a5)]
  rfl
theorem M141 (k : Nat) : Meets Try.prog 141 (S141 k) := meets_of Try.func141 (by kernel_rfl) tbOk (orc_cons (M128 k) (orc_cons (M139 k) orc_nil)) mixOk (fun x y h => (e141 k x).trans h) rfl

/-! spec_l01Near: function 127 -/
noncomputable def spec_l01Near.f (a0 : (List Int) × Int × Int) (a1 : Int) : Option (Int × ((List Int) × Int × Int)) := (spec_l01Next.f (a0.1, a0.2.1, a0.2.2) 14).bind fun t1 => if t1.1 = 0 then ((spec_l01Pick.f (t1.2.1, t1.2.2.1, t1.2.2.2) [(-1), (wrap64 (a1 + 1)), 1099511627776, (-4611686018427387904)]).bind fun t2 => some (t2.1, t2.2.1, t2.2.2.1, t2.2.2.2)) else ((spec_l01Next.f (t1.2.1, t1.2.2.1, t1.2.2.2) (wrap64 (a1 + 1))).bind fun t3 => some (t3.1, t3.2.1, t3.2.2.1, t3.2.2.2))
noncomputable def S127 (k : Nat) : Does := ⟨[(false, [.cel (.struct (.pair (.list (.int .u8)) (.pair (.int .i64) (.int .u64))))]), (false, [.dat (.int .i64)])], [(false, [.dat (.int .i64)])], fun x => spec_l01Near.f x.1 x.2⟩
noncomputable def E127 (k : Nat) : En := ⟨tb, orcOf [(139, S139 k), (128, S128 k)], lvOf [], k, 1, lvOf [], []⟩
theorem e127 (k : Nat) (x : dens (flatC (S127 k).ps)) : funK (E127 k) (S127 k) Try.f127 x = (S127 k).fn x := by
  kernel_rfl
theorem M127 (k : Nat) : Meets Try.prog 127 (S127 k) := meets_of Try.func127 (by kernel_rfl) tbOk (orc_cons (M139 k) (orc_cons (M128 k) orc_nil)) mixOk (fun x y h => (e127 k x).trans h) rfl

/-! spec_DrawBestTurns: function 74 -/
noncomputable def spec_DrawBestTurns.s0 (k : Nat) (r0 : (List Int) → Int → Int → (List Int) → Int → Int → Option ((List Int) × Int)) (x4_0 : List Int) (x4_1 : Int) (x4_2 : Int) (x5 : List Int) (x12 : Int) (x13 : Int) : Option ((List Int) × Int) := if x13 < x12 then ((spec_l01Next.f (x4_0, x4_1, x4_2) 8).bind fun t3 => if 0 < t3.1 then (if 0 ≤ x13 then (if x13 < (x5.length : Int) then (if 0 ≤ x13 then (if x13 < (x5.length : Int) then (r0 t3.2.1 t3.2.2.1 t3.2.2.2 (x5.set x13.toNat (maxV (rd x5 x13) 1)) x12 (wrap64 (x13 + 1))) else (none)) else (none)) else (none)) else (none)) else (r0 t3.2.1 t3.2.2.1 t3.2.2.2 x5 x12 (wrap64 (x13 + 1)))) else ((spec_l01Near.f (x4_0, x4_1, x4_2) 8).bind fun t4 => (spec_l01Pick.f (t4.2.1, t4.2.2.1, t4.2.2.2) [1, 2, 3, 4, 5, 6, t4.1]).bind fun t5 => some (x5, t5.1))
noncomputable def spec_DrawBestTurns.l0 (k : Nat) : Nat → (List Int) → Int → Int → (List Int) → Int → Int → Option ((List Int) × Int)
  | 0, _, _, _, _, _, _ => none
  | n + 1, x0, x1, x2, x3, x4, x5 => spec_DrawBestTurns.s0 k (spec_DrawBestTurns.l0 k n) x0 x1 x2 x3 x4 x5
noncomputable def spec_DrawBestTurns.g (k : Nat) (r0 : (List Int) → Int → Int → (List Int) → Int → Int → Option ((List Int) × Int)) (l0 : List Int) : Option ((List Int) × Int) := (spec_l01From.f k l0).bind fun t1 => (spec_l10DrawWeights.f k (t1.1, t1.2.1, t1.2.2) 3).bind fun t2 => r0 t2.2.1 t2.2.2.1 t2.2.2.2 t2.1 (t2.1.length : Int) 0
noncomputable def spec_DrawBestTurns.f (k : Nat) (l0 : List Int) : Option ((List Int) × Int) := spec_DrawBestTurns.g k (spec_DrawBestTurns.l0 k k) l0
noncomputable def S74 (k : Nat) : Does := ⟨[(false, [.dat (.list (.int .u8))])], [(false, [.own 2 (.int .i64)]), (false, [.dat (.int .i64)])], fun x => spec_DrawBestTurns.f k x⟩
noncomputable def E74 (k : Nat) : En := ⟨tb, orcOf [(126, S126 k), (141, S141 k), (139, S139 k), (127, S127 k), (128, S128 k)], lvOf [(0, [(4, []), (5, []), (12, []), (13, [])])], k, 0, lvOf [], []⟩
noncomputable def n74_0 (x4_0 : List Int) (x4_1 : Int) (x4_2 : Int) (x5 : List Int) (x12 : Int) (x13 : Int) : St := ⟨34, lookA [(4, .box 0 0), (5, .own 1), (12, .dat (.int .i64) x12), (13, .dat (.int .i64) x13)], Go.V.look [(0, .cells [.dat (.list (.int .u8)) x4_0, .dat (.int .i64) x4_1, .dat (.int .u64) x4_2]), (1, .flat 2 (.int .i64) x5)]⟩
def p74_0 : List Bool := [true, true, true, false, true, false]
theorem r74_0 (k : Nat) (rec : St → Option ((List Int) × Int)) (v : (List Int) × Int × Int × (List Int) × Int × Int) : roundF (E74 k) (S74 k) Try.f74 p74_0 [] rec (n74_0 v.1 v.2.1 v.2.2.1 v.2.2.2.1 v.2.2.2.2.1 v.2.2.2.2.2) = spec_DrawBestTurns.s0 k (fun a0 a1 a2 a3 a4 a5 => rec (n74_0 a0 a1 a2 a3 a4 a5)) v.1 v.2.1 v.2.2.1 v.2.2.2.1 v.2.2.2.2.1 v.2.2.2.2.2 := by
  kernel_rfl
theorem q74_0 (k : Nat) (n : Nat) : ∀ v : (List Int) × Int × Int × (List Int) × Int × Int, loopF (E74 k) (S74 k) Try.f74 p74_0 [] n (n74_0 v.1 v.2.1 v.2.2.1 v.2.2.2.1 v.2.2.2.2.1 v.2.2.2.2.2) = spec_DrawBestTurns.l0 k n v.1 v.2.1 v.2.2.1 v.2.2.2.1 v.2.2.2.2.1 v.2.2.2.2.2 :=
  loopF_eq (E74 k) (S74 k) Try.f74 p74_0 [] (fun v : (List Int) × Int × Int × (List Int) × Int × Int => n74_0 v.1 v.2.1 v.2.2.1 v.2.2.2.1 v.2.2.2.2.1 v.2.2.2.2.2) (fun rec v => spec_DrawBestTurns.s0 k (fun a0 a1 a2 a3 a4 a5 => rec (a0, a1, a2, a3, a4, a5)) v.1 v.2.1 v.2.2.1 v.2.2.2.1 v.2.2.2.2.1 v.2.2.2.2.2) (fun n v => spec_DrawBestTurns.l0 k n v.1 v.2.1 v.2.2.1 v.2.2.2.1 v.2.2.2.2.1 v.2.2.2.2.2) (fun _ => rfl) (fun _ _ => rfl) (fun rec v => r74_0 k rec v) n
theorem e74 (k : Nat) (x : dens (flatC (S74 k).ps)) : funK (E74 k) (S74 k) Try.f74 x = (S74 k).fn x := by
  have h : funK (E74 k) (S74 k) Try.f74 x = spec_DrawBestTurns.g k (fun a0 a1 a2 a3 a4 a5 => loopF (E74 k) (S74 k) Try.f74 p74_0 [] k (n74_0 a0 a1 a2 a3 a4 a5)) x := by kernel_rfl
  rw [h]
  rw [show (fun a0 a1 a2 a3 a4 a5 => loopF (E74 k) (S74 k) Try.f74 p74_0 [] k (n74_0 a0 a1 a2 a3 a4 a5)) = spec_DrawBestTurns.l0 k k from funext fun a0 => funext fun a1 => funext fun a2 => funext fun a3 => funext fun a4 => funext fun a5 => q74_0 k k (a0, a1, a2, a3, a4, a5)]
  rfl
theorem M74 (k : Nat) : Meets Try.prog 74 (S74 k) := meets_of Try.func74 (by kernel_rfl) tbOk (orc_cons (M126 k) (orc_cons (M141 k) (orc_cons (M139 k) (orc_cons (M127 k) (orc_cons (M128 k) orc_nil))))) mixOk (fun x y h => (e74 k x).trans h) rfl

/-! impl_length_int64: function 101 -/
noncomputable def impl_length_int64.f (l0 : List Int) : Option (Int) := some (l0.length : Int)
noncomputable def S101 (k : Nat) : Does := ⟨[(false, [.dat (.list (.int .i64))])], [(false, [.dat (.int .i64)])], fun x => impl_length_int64.f x⟩
noncomputable def E101 (k : Nat) : En := ⟨tb, orcOf [], lvOf [], k, 0, lvOf [], []⟩
theorem e101 (k : Nat) (x : dens (flatC (S101 k).ps)) : funK (E101 k) (S101 k) Try.f101 x = (S101 k).fn x := by
  kernel_rfl
theorem M101 (k : Nat) : Meets Try.prog 101 (S101 k) := meets_of Try.func101 (by kernel_rfl) tbOk orc_nil mixOk (fun x y h => (e101 k x).trans h) rfl

/-! impl_within: function 104 -/
noncomputable def impl_within.f (a0 : Int) (a1 : Int) (a2 : Int) : Option (Bool) := if a1 ≤ a0 then (some (decide (a0 ≤ a2))) else (some false)
noncomputable def S104 (k : Nat) : Does := ⟨[(false, [.dat (.int .i64)]), (false, [.dat (.int .i64)]), (false, [.dat (.int .i64)])], [(false, [.dat .bool])], fun x => impl_within.f x.1 x.2.1 x.2.2⟩
noncomputable def E104 (k : Nat) : En := ⟨tb, orcOf [], lvOf [], k, 0, lvOf [], []⟩
theorem e104 (k : Nat) (x : dens (flatC (S104 k).ps)) : funK (E104 k) (S104 k) Try.f104 x = (S104 k).fn x := by
  kernel_rfl
theorem M104 (k : Nat) : Meets Try.prog 104 (S104 k) := meets_of Try.func104 (by kernel_rfl) tbOk orc_nil mixOk (fun x y h => (e104 k x).trans h) rfl

/-! impl_isMany: function 156 -/
noncomputable def impl_isMany.f (a0 : Int) : Option (Bool) := (impl_within.f a0 1 8).bind fun t1 => some t1
noncomputable def S156 (k : Nat) : Does := ⟨[(false, [.dat (.int .i64)])], [(false, [.dat .bool])], fun x => impl_isMany.f x⟩
noncomputable def E156 (k : Nat) : En := ⟨tb, orcOf [(104, S104 k)], lvOf [], k, 0, lvOf [], []⟩
theorem e156 (k : Nat) (x : dens (flatC (S156 k).ps)) : funK (E156 k) (S156 k) Try.f156 x = (S156 k).fn x := by
  kernel_rfl
theorem M156 (k : Nat) : Meets Try.prog 156 (S156 k) := meets_of Try.func156 (by kernel_rfl) tbOk (orc_cons (M104 k) orc_nil) mixOk (fun x y h => (e156 k x).trans h) rfl

/-! impl_areWeights_1: function 158 -/
noncomputable def impl_areWeights_1.f (a0 : Int) : Option (Bool) := (impl_within.f a0 0 100).bind fun t1 => some t1
noncomputable def S158 (k : Nat) : Does := ⟨[(false, [.dat (.int .i64)])], [(false, [.dat .bool])], fun x => impl_areWeights_1.f x⟩
noncomputable def E158 (k : Nat) : En := ⟨tb, orcOf [(104, S104 k)], lvOf [], k, 0, lvOf [], []⟩
theorem e158 (k : Nat) (x : dens (flatC (S158 k).ps)) : funK (E158 k) (S158 k) Try.f158 x = (S158 k).fn x := by
  kernel_rfl
theorem M158 (k : Nat) : Meets Try.prog 158 (S158 k) := meets_of Try.func158 (by kernel_rfl) tbOk (orc_cons (M104 k) orc_nil) mixOk (fun x y h => (e158 k x).trans h) rfl

/-! impl_areAll_int64_1_impl_areWeights_1: function 185 -/
noncomputable def impl_areAll_int64_1_impl_areWeights_1.f (a0 : Int) (a1 : Unit) : Option (Bool) := (impl_areWeights_1.f a0).bind fun t1 => some (!decide (t1 = true))
noncomputable def S185_c158 (k : Nat) : Does := ⟨[(false, [.dat (.int .i64)]), (false, [.dat (.ptr (.clo 158 .unit))])], [(false, [.dat .bool])], fun x => impl_areAll_int64_1_impl_areWeights_1.f x.1 x.2⟩
noncomputable def E185_c158 (k : Nat) : En := ⟨tb, orcOf [(158, S158 k)], lvOf [], k, 0, lvOf [], []⟩
theorem e185_c158 (k : Nat) (x : dens (flatC (S185_c158 k).ps)) : funK (E185_c158 k) (S185_c158 k) Try.f185 x = (S185_c158 k).fn x := by
  kernel_rfl
theorem M185_c158 (k : Nat) : Meets Try.prog 185 (S185_c158 k) := meets_of Try.func185 (by kernel_rfl) tbOk (orc_cons (M158 k) orc_nil) mixOk (fun x y h => (e185_c158 k x).trans h) rfl

/-! slices_IndexFunc_int64_int64_impl_areAll_int64_1_impl_areWeights_1: function 191 -/
noncomputable def slices_IndexFunc_int64_int64_impl_areAll_int64_1_impl_areWeights_1.s0 (k : Nat) (r0 : (List Int) → Unit → Int → Int → Option (Int)) (x0 : List Int) (x1 : Unit) (x7 : Int) (x8 : Int) : Option (Int) := if x8 < x7 then (if 0 ≤ x8 then (if x8 < (x0.length : Int) then ((impl_areAll_int64_1_impl_areWeights_1.f (rd x0 x8) x1).bind fun t1 => if t1 = true then (some x8) else (r0 x0 x1 x7 (wrap64 (x8 + 1)))) else (none)) else (none)) else (some (-1))
noncomputable def slices_IndexFunc_int64_int64_impl_areAll_int64_1_impl_areWeights_1.l0 (k : Nat) : Nat → (List Int) → Unit → Int → Int → Option (Int)
  | 0, _, _, _, _ => none
  | n + 1, x0, x1, x2, x3 => slices_IndexFunc_int64_int64_impl_areAll_int64_1_impl_areWeights_1.s0 k (slices_IndexFunc_int64_int64_impl_areAll_int64_1_impl_areWeights_1.l0 k n) x0 x1 x2 x3
noncomputable def slices_IndexFunc_int64_int64_impl_areAll_int64_1_impl_areWeights_1.g (k : Nat) (r0 : (List Int) → Unit → Int → Int → Option (Int)) (l0 : List Int) (a1 : Unit) : Option (Int) := r0 l0 a1 (l0.length : Int) 0
noncomputable def slices_IndexFunc_int64_int64_impl_areAll_int64_1_impl_areWeights_1.f (k : Nat) (l0 : List Int) (a1 : Unit) : Option (Int) := slices_IndexFunc_int64_int64_impl_areAll_int64_1_impl_areWeights_1.g k (slices_IndexFunc_int64_int64_impl_areAll_int64_1_impl_areWeights_1.l0 k k) l0 a1
noncomputable def S191_c185c158 (k : Nat) : Does := ⟨[(false, [.dat (.list (.int .i64))]), (false, [.dat (.clo 185 (.ptr (.clo 158 .unit)))])], [(false, [.dat (.int .i64)])], fun x => slices_IndexFunc_int64_int64_impl_areAll_int64_1_impl_areWeights_1.f k x.1 x.2⟩
noncomputable def E191_c185c158 (k : Nat) : En := ⟨tb, orcOf [(185, S185_c158 k)], lvOf [(0, [(0, []), (1, []), (7, []), (8, [])])], k, 0, lvOf [], []⟩
noncomputable def n191_c185c158_0 (x0 : List Int) (x1 : Unit) (x7 : Int) (x8 : Int) : St := ⟨19, lookA [(0, .dat (.list (.int .i64)) x0), (1, .dat (.clo 185 (.ptr (.clo 158 .unit))) x1), (7, .dat (.int .i64) x7), (8, .dat (.int .i64) x8)], Go.V.look []⟩
def p191_c185c158_0 : List Bool := [true, false, true, false]
theorem r191_c185c158_0 (k : Nat) (rec : St → Option (Int)) (v : (List Int) × Unit × Int × Int) : roundF (E191_c185c158 k) (S191_c185c158 k) Try.f191 p191_c185c158_0 [] rec (n191_c185c158_0 v.1 v.2.1 v.2.2.1 v.2.2.2) = slices_IndexFunc_int64_int64_impl_areAll_int64_1_impl_areWeights_1.s0 k (fun a0 a1 a2 a3 => rec (n191_c185c158_0 a0 a1 a2 a3)) v.1 v.2.1 v.2.2.1 v.2.2.2 := by
  kernel_rfl
theorem q191_c185c158_0 (k : Nat) (n : Nat) : ∀ v : (List Int) × Unit × Int × Int, loopF (E191_c185c158 k) (S191_c185c158 k) Try.f191 p191_c185c158_0 [] n (n191_c185c158_0 v.1 v.2.1 v.2.2.1 v.2.2.2) = slices_IndexFunc_int64_int64_impl_areAll_int64_1_impl_areWeights_1.l0 k n v.1 v.2.1 v.2.2.1 v.2.2.2 :=
  loopF_eq (E191_c185c158 k) (S191_c185c158 k) Try.f191 p191_c185c158_0 [] (fun v : (List Int) × Unit × Int × Int => n191_c185c158_0 v.1 v.2.1 v.2.2.1 v.2.2.2) (fun rec v => slices_IndexFunc_int64_int64_impl_areAll_int64_1_impl_areWeights_1.s0 k (fun a0 a1 a2 a3 => rec (a0, a1, a2, a3)) v.1 v.2.1 v.2.2.1 v.2.2.2) (fun n v => slices_IndexFunc_int64_int64_impl_areAll_int64_1_impl_areWeights_1.l0 k n v.1 v.2.1 v.2.2.1 v.2.2.2) (fun _ => rfl) (fun _ _ => rfl) (fun rec v => r191_c185c158_0 k rec v) n
theorem e191_c185c158 (k : Nat) (x : dens (flatC (S191_c185c158 k).ps)) : funK (E191_c185c158 k) (S191_c185c158 k) Try.f191 x = (S191_c185c158 k).fn x := by
  have h : funK (E191_c185c158 k) (S191_c185c158 k) Try.f191 x = slices_IndexFunc_int64_int64_impl_areAll_int64_1_impl_areWeights_1.g k (fun a0 a1 a2 a3 => loopF (E191_c185c158 k) (S191_c185c158 k) Try.f191 p191_c185c158_0 [] k (n191_c185c158_0 a0 a1 a2 a3)) x.1 x.2 := by kernel_rfl
  rw [h]
  rw [show (fun a0 a1 a2 a3 => loopF (E191_c185c158 k) (S191_c185c158 k) Try.f191 p191_c185c158_0 [] k (n191_c185c158_0 a0 a1 a2 a3)) = slices_IndexFunc_int64_int64_impl_areAll_int64_1_impl_areWeights_1.l0 k k from funext fun a0 => funext fun a1 => funext fun a2 => funext fun a3 => q191_c185c158_0 k k (a0, a1, a2, a3)]
  rfl
theorem M191_c185c158 (k : Nat) : Meets Try.prog 191 (S191_c185c158 k) := meets_of Try.func191 (by kernel_rfl) tbOk (orc_cons (M185_c158 k) orc_nil) mixOk (fun x y h => (e191_c185c158 k x).trans h) rfl

/-! slices_ContainsFunc_int64_int64_impl_areAll_int64_1_impl_areWeights_1: function 184 -/
noncomputable def slices_ContainsFunc_int64_int64_impl_areAll_int64_1_impl_areWeights_1.f (k : Nat) (l0 : List Int) (a1 : Unit) : Option (Bool) := (slices_IndexFunc_int64_int64_impl_areAll_int64_1_impl_areWeights_1.f k l0 a1).bind fun t1 => some (decide (0 ≤ t1))
noncomputable def S184_c185c158 (k : Nat) : Does := ⟨[(false, [.dat (.list (.int .i64))]), (false, [.dat (.clo 185 (.ptr (.clo 158 .unit)))])], [(false, [.dat .bool])], fun x => slices_ContainsFunc_int64_int64_impl_areAll_int64_1_impl_areWeights_1.f k x.1 x.2⟩
noncomputable def E184_c185c158 (k : Nat) : En := ⟨tb, orcOf [(191, S191_c185c158 k)], lvOf [], k, 0, lvOf [], []⟩
theorem e184_c185c158 (k : Nat) (x : dens (flatC (S184_c185c158 k).ps)) : funK (E184_c185c158 k) (S184_c185c158 k) Try.f184 x = (S184_c185c158 k).fn x := by
  kernel_rfl
theorem M184_c185c158 (k : Nat) : Meets Try.prog 184 (S184_c185c158 k) := meets_of Try.func184 (by kernel_rfl) tbOk (orc_cons (M191_c185c158 k) orc_nil) mixOk (fun x y h => (e184_c185c158 k x).trans h) rfl

/-! impl_areAll_int64_impl_areWeights_1: function 157 -/
noncomputable def impl_areAll_int64_impl_areWeights_1.f (k : Nat) (l0 : List Int) (a1 : Unit) : Option (Bool) := (slices_ContainsFunc_int64_int64_impl_areAll_int64_1_impl_areWeights_1.f k l0 a1).bind fun t1 => some (!decide (t1 = true))
noncomputable def S157_c158 (k : Nat) : Does := ⟨[(false, [.dat (.list (.int .i64))]), (false, [.dat (.clo 158 .unit)])], [(false, [.dat .bool])], fun x => impl_areAll_int64_impl_areWeights_1.f k x.1 x.2⟩
noncomputable def E157_c158 (k : Nat) : En := ⟨tb, orcOf [(184, S184_c185c158 k)], lvOf [], k, 0, lvOf [], []⟩
theorem e157_c158 (k : Nat) (x : dens (flatC (S157_c158 k).ps)) : funK (E157_c158 k) (S157_c158 k) Try.f157 x = (S157_c158 k).fn x := by
  kernel_rfl
theorem M157_c158 (k : Nat) : Meets Try.prog 157 (S157_c158 k) := meets_of Try.func157 (by kernel_rfl) tbOk (orc_cons (M184_c185c158 k) orc_nil) mixOk (fun x y h => (e157_c158 k x).trans h) rfl

/-! impl_total: function 142 -/
noncomputable def impl_total.s0 (k : Nat) (r0 : Int → (List Int) → Int → Int → Option (Int)) (x3 : Int) (x6 : List Int) (x7 : Int) (x8 : Int) : Option (Int) := if x8 < x7 then (if 0 ≤ x8 then (if x8 < (x6.length : Int) then (r0 (wrap64 (x3 + (rd x6 x8))) x6 x7 (wrap64 (x8 + 1))) else (none)) else (none)) else (some x3)
noncomputable def impl_total.l0 (k : Nat) : Nat → Int → (List Int) → Int → Int → Option (Int)
  | 0, _, _, _, _ => none
  | n + 1, x0, x1, x2, x3 => impl_total.s0 k (impl_total.l0 k n) x0 x1 x2 x3
noncomputable def impl_total.g (k : Nat) (r0 : Int → (List Int) → Int → Int → Option (Int)) (l0 : List Int) : Option (Int) := r0 0 l0 (l0.length : Int) 0
noncomputable def impl_total.f (k : Nat) (l0 : List Int) : Option (Int) := impl_total.g k (impl_total.l0 k k) l0
noncomputable def S142 (k : Nat) : Does := ⟨[(false, [.dat (.list (.int .i64))])], [(false, [.dat (.int .i64)])], fun x => impl_total.f k x⟩
noncomputable def E142 (k : Nat) : En := ⟨tb, orcOf [], lvOf [(0, [(3, []), (6, []), (7, []), (8, [])])], k, 0, lvOf [], []⟩
noncomputable def n142_0 (x3 : Int) (x6 : List Int) (x7 : Int) (x8 : Int) : St := ⟨17, lookA [(3, .dat (.int .i64) x3), (6, .dat (.list (.int .i64)) x6), (7, .dat (.int .i64) x7), (8, .dat (.int .i64) x8)], Go.V.look []⟩
def p142_0 : List Bool := [true, true, false, true, false]
theorem r142_0 (k : Nat) (rec : St → Option (Int)) (v : Int × (List Int) × Int × Int) : roundF (E142 k) (S142 k) Try.f142 p142_0 [] rec (n142_0 v.1 v.2.1 v.2.2.1 v.2.2.2) = impl_total.s0 k (fun a0 a1 a2 a3 => rec (n142_0 a0 a1 a2 a3)) v.1 v.2.1 v.2.2.1 v.2.2.2 := by
  kernel_rfl
theorem q142_0 (k : Nat) (n : Nat) : ∀ v : Int × (List Int) × Int × Int, loopF (E142 k) (S142 k) Try.f142 p142_0 [] n (n142_0 v.1 v.2.1 v.2.2.1 v.2.2.2) = impl_total.l0 k n v.1 v.2.1 v.2.2.1 v.2.2.2 :=
  loopF_eq (E142 k) (S142 k) Try.f142 p142_0 [] (fun v : Int × (List Int) × Int × Int => n142_0 v.1 v.2.1 v.2.2.1 v.2.2.2) (fun rec v => impl_total.s0 k (fun a0 a1 a2 a3 => rec (a0, a1, a2, a3)) v.1 v.2.1 v.2.2.1 v.2.2.2) (fun n v => impl_total.l0 k n v.1 v.2.1 v.2.2.1 v.2.2.2) (fun _ => rfl) (fun _ _ => rfl) (fun rec v => r142_0 k rec v) n
theorem e142 (k : Nat) (x : dens (flatC (S142 k).ps)) : funK (E142 k) (S142 k) Try.f142 x = (S142 k).fn x := by
  have h : funK (E142 k) (S142 k) Try.f142 x = impl_total.g k (fun a0 a1 a2 a3 => loopF (E142 k) (S142 k) Try.f142 p142_0 [] k (n142_0 a0 a1 a2 a3)) x := by kernel_rfl
  rw [h]
  rw [show (fun a0 a1 a2 a3 => loopF (E142 k) (S142 k) Try.f142 p142_0 [] k (n142_0 a0 a1 a2 a3)) = impl_total.l0 k k from funext fun a0 => funext fun a1 => funext fun a2 => funext fun a3 => q142_0 k k (a0, a1, a2, a3)]
  rfl
theorem M142 (k : Nat) : Meets Try.prog 142 (S142 k) := meets_of Try.func142 (by kernel_rfl) tbOk orc_nil mixOk (fun x y h => (e142 k x).trans h) rfl

/-! impl_areWeights: function 102 -/
noncomputable def impl_areWeights.f (k : Nat) (l0 : List Int) : Option (Bool) := (impl_length_int64.f l0).bind fun t1 => (impl_isMany.f t1).bind fun t2 => if t2 = true then ((impl_areAll_int64_impl_areWeights_1.f k l0 ()).bind fun t3 => if t3 = true then ((impl_total.f k l0).bind fun t4 => some (decide (0 < t4))) else (some false)) else (some false)
noncomputable def S102 (k : Nat) : Does := ⟨[(false, [.dat (.list (.int .i64))])], [(false, [.dat .bool])], fun x => impl_areWeights.f k x⟩
noncomputable def E102 (k : Nat) : En := ⟨tb, orcOf [(101, S101 k), (156, S156 k), (157, S157_c158 k), (142, S142 k)], lvOf [], k, 0, lvOf [], []⟩
theorem e102 (k : Nat) (x : dens (flatC (S102 k).ps)) : funK (E102 k) (S102 k) Try.f102 x = (S102 k).fn x := by
  kernel_rfl
theorem M102 (k : Nat) : Meets Try.prog 102 (S102 k) := meets_of Try.func102 (by kernel_rfl) tbOk (orc_cons (M101 k) (orc_cons (M156 k) (orc_cons (M157_c158 k) (orc_cons (M142 k) orc_nil)))) mixOk (fun x y h => (e102 k x).trans h) rfl

/-! slices_Index_int64_int64: function 159 -/
noncomputable def slices_Index_int64_int64.s0 (k : Nat) (r0 : (List Int) → Int → Int → Int → Option (Int)) (x0 : List Int) (x1 : Int) (x7 : Int) (x8 : Int) : Option (Int) := if x8 < x7 then (if 0 ≤ x8 then (if x8 < (x0.length : Int) then (if x1 = (rd x0 x8) then (some x8) else (r0 x0 x1 x7 (wrap64 (x8 + 1)))) else (none)) else (none)) else (some (-1))
noncomputable def slices_Index_int64_int64.l0 (k : Nat) : Nat → (List Int) → Int → Int → Int → Option (Int)
  | 0, _, _, _, _ => none
  | n + 1, x0, x1, x2, x3 => slices_Index_int64_int64.s0 k (slices_Index_int64_int64.l0 k n) x0 x1 x2 x3
noncomputable def slices_Index_int64_int64.g (k : Nat) (r0 : (List Int) → Int → Int → Int → Option (Int)) (l0 : List Int) (a1 : Int) : Option (Int) := r0 l0 a1 (l0.length : Int) 0
noncomputable def slices_Index_int64_int64.f (k : Nat) (l0 : List Int) (a1 : Int) : Option (Int) := slices_Index_int64_int64.g k (slices_Index_int64_int64.l0 k k) l0 a1
noncomputable def S159 (k : Nat) : Does := ⟨[(false, [.dat (.list (.int .i64))]), (false, [.dat (.int .i64)])], [(false, [.dat (.int .i64)])], fun x => slices_Index_int64_int64.f k x.1 x.2⟩
noncomputable def E159 (k : Nat) : En := ⟨tb, orcOf [], lvOf [(0, [(0, []), (1, []), (7, []), (8, [])])], k, 0, lvOf [], []⟩
noncomputable def n159_0 (x0 : List Int) (x1 : Int) (x7 : Int) (x8 : Int) : St := ⟨19, lookA [(0, .dat (.list (.int .i64)) x0), (1, .dat (.int .i64) x1), (7, .dat (.int .i64) x7), (8, .dat (.int .i64) x8)], Go.V.look []⟩
def p159_0 : List Bool := [true, false, true, false]
theorem r159_0 (k : Nat) (rec : St → Option (Int)) (v : (List Int) × Int × Int × Int) : roundF (E159 k) (S159 k) Try.f159 p159_0 [] rec (n159_0 v.1 v.2.1 v.2.2.1 v.2.2.2) = slices_Index_int64_int64.s0 k (fun a0 a1 a2 a3 => rec (n159_0 a0 a1 a2 a3)) v.1 v.2.1 v.2.2.1 v.2.2.2 := by
  kernel_rfl
theorem q159_0 (k : Nat) (n : Nat) : ∀ v : (List Int) × Int × Int × Int, loopF (E159 k) (S159 k) Try.f159 p159_0 [] n (n159_0 v.1 v.2.1 v.2.2.1 v.2.2.2) = slices_Index_int64_int64.l0 k n v.1 v.2.1 v.2.2.1 v.2.2.2 :=
  loopF_eq (E159 k) (S159 k) Try.f159 p159_0 [] (fun v : (List Int) × Int × Int × Int => n159_0 v.1 v.2.1 v.2.2.1 v.2.2.2) (fun rec v => slices_Index_int64_int64.s0 k (fun a0 a1 a2 a3 => rec (a0, a1, a2, a3)) v.1 v.2.1 v.2.2.1 v.2.2.2) (fun n v => slices_Index_int64_int64.l0 k n v.1 v.2.1 v.2.2.1 v.2.2.2) (fun _ => rfl) (fun _ _ => rfl) (fun rec v => r159_0 k rec v) n
theorem e159 (k : Nat) (x : dens (flatC (S159 k).ps)) : funK (E159 k) (S159 k) Try.f159 x = (S159 k).fn x := by
  have h : funK (E159 k) (S159 k) Try.f159 x = slices_Index_int64_int64.g k (fun a0 a1 a2 a3 => loopF (E159 k) (S159 k) Try.f159 p159_0 [] k (n159_0 a0 a1 a2 a3)) x.1 x.2 := by kernel_rfl
  rw [h]
  rw [show (fun a0 a1 a2 a3 => loopF (E159 k) (S159 k) Try.f159 p159_0 [] k (n159_0 a0 a1 a2 a3)) = slices_Index_int64_int64.l0 k k from funext fun a0 => funext fun a1 => funext fun a2 => funext fun a3 => q159_0 k k (a0, a1, a2, a3)]
  rfl
theorem M159 (k : Nat) : Meets Try.prog 159 (S159 k) := meets_of Try.func159 (by kernel_rfl) tbOk orc_nil mixOk (fun x y h => (e159 k x).trans h) rfl

/-! slices_Contains_int64_int64: function 103 -/
noncomputable def slices_Contains_int64_int64.f (k : Nat) (l0 : List Int) (a1 : Int) : Option (Bool) := (slices_Index_int64_int64.f k l0 a1).bind fun t1 => some (decide (0 ≤ t1))
noncomputable def S103 (k : Nat) : Does := ⟨[(false, [.dat (.list (.int .i64))]), (false, [.dat (.int .i64)])], [(false, [.dat .bool])], fun x => slices_Contains_int64_int64.f k x.1 x.2⟩
noncomputable def E103 (k : Nat) : En := ⟨tb, orcOf [(159, S159 k)], lvOf [], k, 0, lvOf [], []⟩
theorem e103 (k : Nat) (x : dens (flatC (S103 k).ps)) : funK (E103 k) (S103 k) Try.f103 x = (S103 k).fn x := by
  kernel_rfl
theorem M103 (k : Nat) : Meets Try.prog 103 (S103 k) := meets_of Try.func103 (by kernel_rfl) tbOk (orc_cons (M159 k) orc_nil) mixOk (fun x y h => (e103 k x).trans h) rfl

/-! slices_Max_int64_int64: function 108 -/
noncomputable def slices_Max_int64_int64.s0 (k : Nat) (r0 : (List Int) → Int → Int → Option (Int)) (x0 : List Int) (x3 : Int) (x4 : Int) : Option (Int) := if x4 < (x0.length : Int) then (if 0 ≤ x4 then (if x4 < (x0.length : Int) then (r0 x0 (maxV x3 (rd x0 x4)) (wrap64 (x4 + 1))) else (none)) else (none)) else (some x3)
noncomputable def slices_Max_int64_int64.l0 (k : Nat) : Nat → (List Int) → Int → Int → Option (Int)
  | 0, _, _, _ => none
  | n + 1, x0, x1, x2 => slices_Max_int64_int64.s0 k (slices_Max_int64_int64.l0 k n) x0 x1 x2
noncomputable def slices_Max_int64_int64.g (k : Nat) (r0 : (List Int) → Int → Int → Option (Int)) (l0 : List Int) : Option (Int) := if (l0.length : Int) < 1 then (none) else (if 0 < (l0.length : Int) then (r0 l0 (rd l0 0) 1) else (none))
noncomputable def slices_Max_int64_int64.f (k : Nat) (l0 : List Int) : Option (Int) := slices_Max_int64_int64.g k (slices_Max_int64_int64.l0 k k) l0
noncomputable def S108 (k : Nat) : Does := ⟨[(false, [.dat (.list (.int .i64))])], [(false, [.dat (.int .i64)])], fun x => slices_Max_int64_int64.f k x⟩
noncomputable def E108 (k : Nat) : En := ⟨tb, orcOf [], lvOf [(0, [(0, []), (3, []), (4, [])])], k, 0, lvOf [], []⟩
noncomputable def n108_0 (x0 : List Int) (x3 : Int) (x4 : Int) : St := ⟨25, lookA [(0, .dat (.list (.int .i64)) x0), (3, .dat (.int .i64) x3), (4, .dat (.int .i64) x4)], Go.V.look []⟩
def p108_0 : List Bool := [true, true, true, false, true, false]
theorem r108_0 (k : Nat) (rec : St → Option (Int)) (v : (List Int) × Int × Int) : roundF (E108 k) (S108 k) Try.f108 p108_0 [] rec (n108_0 v.1 v.2.1 v.2.2) = slices_Max_int64_int64.s0 k (fun a0 a1 a2 => rec (n108_0 a0 a1 a2)) v.1 v.2.1 v.2.2 := by
  kernel_rfl
theorem q108_0 (k : Nat) (n : Nat) : ∀ v : (List Int) × Int × Int, loopF (E108 k) (S108 k) Try.f108 p108_0 [] n (n108_0 v.1 v.2.1 v.2.2) = slices_Max_int64_int64.l0 k n v.1 v.2.1 v.2.2 :=
  loopF_eq (E108 k) (S108 k) Try.f108 p108_0 [] (fun v : (List Int) × Int × Int => n108_0 v.1 v.2.1 v.2.2) (fun rec v => slices_Max_int64_int64.s0 k (fun a0 a1 a2 => rec (a0, a1, a2)) v.1 v.2.1 v.2.2) (fun n v => slices_Max_int64_int64.l0 k n v.1 v.2.1 v.2.2) (fun _ => rfl) (fun _ _ => rfl) (fun rec v => r108_0 k rec v) n
theorem e108 (k : Nat) (x : dens (flatC (S108 k).ps)) : funK (E108 k) (S108 k) Try.f108 x = (S108 k).fn x := by
  have h : funK (E108 k) (S108 k) Try.f108 x = slices_Max_int64_int64.g k (fun a0 a1 a2 => loopF (E108 k) (S108 k) Try.f108 p108_0 [] k (n108_0 a0 a1 a2)) x := by kernel_rfl
  rw [h]
  rw [show (fun a0 a1 a2 => loopF (E108 k) (S108 k) Try.f108 p108_0 [] k (n108_0 a0 a1 a2)) = slices_Max_int64_int64.l0 k k from funext fun a0 => funext fun a1 => funext fun a2 => q108_0 k k (a0, a1, a2)]
  rfl
theorem M108 (k : Nat) : Meets Try.prog 108 (S108 k) := meets_of Try.func108 (by kernel_rfl) tbOk orc_nil mixOk (fun x y h => (e108 k x).trans h) rfl

/-! impl_share: function 161 -/
noncomputable def impl_share.s0 (k : Nat) (r0 : Int → Int → (List Int) → Int → Int → Option (Int)) (x1 : Int) (x5 : Int) (x8 : List Int) (x9 : Int) (x10 : Int) : Option (Int) := if x10 < x9 then (if 0 ≤ x10 then (if x10 < (x8.length : Int) then (if (rd x8 x10) = x1 then (r0 x1 (wrap64 (x5 + 1)) x8 x9 (wrap64 (x10 + 1))) else (r0 x1 x5 x8 x9 (wrap64 (x10 + 1)))) else (none)) else (none)) else (some x5)
noncomputable def impl_share.l0 (k : Nat) : Nat → Int → Int → (List Int) → Int → Int → Option (Int)
  | 0, _, _, _, _, _ => none
  | n + 1, x0, x1, x2, x3, x4 => impl_share.s0 k (impl_share.l0 k n) x0 x1 x2 x3 x4
noncomputable def impl_share.g (k : Nat) (r0 : Int → Int → (List Int) → Int → Int → Option (Int)) (l0 : List Int) (a1 : Int) : Option (Int) := r0 a1 0 l0 (l0.length : Int) 0
noncomputable def impl_share.f (k : Nat) (l0 : List Int) (a1 : Int) : Option (Int) := impl_share.g k (impl_share.l0 k k) l0 a1
noncomputable def S161 (k : Nat) : Does := ⟨[(false, [.dat (.list (.int .i64))]), (false, [.dat (.int .i64)])], [(false, [.dat (.int .i64)])], fun x => impl_share.f k x.1 x.2⟩
noncomputable def E161 (k : Nat) : En := ⟨tb, orcOf [], lvOf [(0, [(1, []), (5, []), (8, []), (9, []), (10, [])])], k, 0, lvOf [], []⟩
noncomputable def n161_0 (x1 : Int) (x5 : Int) (x8 : List Int) (x9 : Int) (x10 : Int) : St := ⟨21, lookA [(1, .dat (.int .i64) x1), (5, .dat (.int .i64) x5), (8, .dat (.list (.int .i64)) x8), (9, .dat (.int .i64) x9), (10, .dat (.int .i64) x10)], Go.V.look []⟩
def p161_0 : List Bool := [true, true, false, true, false]
theorem r161_0 (k : Nat) (rec : St → Option (Int)) (v : Int × Int × (List Int) × Int × Int) : roundF (E161 k) (S161 k) Try.f161 p161_0 [] rec (n161_0 v.1 v.2.1 v.2.2.1 v.2.2.2.1 v.2.2.2.2) = impl_share.s0 k (fun a0 a1 a2 a3 a4 => rec (n161_0 a0 a1 a2 a3 a4)) v.1 v.2.1 v.2.2.1 v.2.2.2.1 v.2.2.2.2 := by
  kernel_rfl
theorem q161_0 (k : Nat) (n : Nat) : ∀ v : Int × Int × (List Int) × Int × Int, loopF (E161 k) (S161 k) Try.f161 p161_0 [] n (n161_0 v.1 v.2.1 v.2.2.1 v.2.2.2.1 v.2.2.2.2) = impl_share.l0 k n v.1 v.2.1 v.2.2.1 v.2.2.2.1 v.2.2.2.2 :=
  loopF_eq (E161 k) (S161 k) Try.f161 p161_0 [] (fun v : Int × Int × (List Int) × Int × Int => n161_0 v.1 v.2.1 v.2.2.1 v.2.2.2.1 v.2.2.2.2) (fun rec v => impl_share.s0 k (fun a0 a1 a2 a3 a4 => rec (a0, a1, a2, a3, a4)) v.1 v.2.1 v.2.2.1 v.2.2.2.1 v.2.2.2.2) (fun n v => impl_share.l0 k n v.1 v.2.1 v.2.2.1 v.2.2.2.1 v.2.2.2.2) (fun _ => rfl) (fun _ _ => rfl) (fun rec v => r161_0 k rec v) n
theorem e161 (k : Nat) (x : dens (flatC (S161 k).ps)) : funK (E161 k) (S161 k) Try.f161 x = (S161 k).fn x := by
  have h : funK (E161 k) (S161 k) Try.f161 x = impl_share.g k (fun a0 a1 a2 a3 a4 => loopF (E161 k) (S161 k) Try.f161 p161_0 [] k (n161_0 a0 a1 a2 a3 a4)) x.1 x.2 := by kernel_rfl
  rw [h]
  rw [show (fun a0 a1 a2 a3 a4 => loopF (E161 k) (S161 k) Try.f161 p161_0 [] k (n161_0 a0 a1 a2 a3 a4)) = impl_share.l0 k k from funext fun a0 => funext fun a1 => funext fun a2 => funext fun a3 => funext fun a4 => q161_0 k k (a0, a1, a2, a3, a4)]
  rfl
theorem M161 (k : Nat) : Meets Try.prog 161 (S161 k) := meets_of Try.func161 (by kernel_rfl) tbOk orc_nil mixOk (fun x y h => (e161 k x).trans h) rfl

/-! impl_sharesOf: function 107 -/
noncomputable def impl_sharesOf.s0 (k : Nat) (r0 : (List Int) → (List Int) → Int → Int → Option ((List Int))) (x0 : List Int) (x3 : List Int) (x7 : Int) (x8 : Int) : Option ((List Int)) := if x8 < x7 then ((impl_share.f k x0 x8).bind fun t2 => if x3.length + 1 ≤ 1099511627776 then (r0 x0 (x3 ++ [t2]) x7 (wrap64 (x8 + 1))) else (none)) else (some x3)
noncomputable def impl_sharesOf.l0 (k : Nat) : Nat → (List Int) → (List Int) → Int → Int → Option ((List Int))
  | 0, _, _, _, _ => none
  | n + 1, x0, x1, x2, x3 => impl_sharesOf.s0 k (impl_sharesOf.l0 k n) x0 x1 x2 x3
noncomputable def impl_sharesOf.g (k : Nat) (r0 : (List Int) → (List Int) → Int → Int → Option ((List Int))) (l0 : List Int) : Option ((List Int)) := (slices_Max_int64_int64.f k l0).bind fun t1 => r0 l0 [] (wrap64 (t1 + 1)) 0
noncomputable def impl_sharesOf.f (k : Nat) (l0 : List Int) : Option ((List Int)) := impl_sharesOf.g k (impl_sharesOf.l0 k k) l0
noncomputable def S107 (k : Nat) : Does := ⟨[(false, [.dat (.list (.int .i64))])], [(false, [.own 2 (.int .i64)])], fun x => impl_sharesOf.f k x⟩
noncomputable def E107 (k : Nat) : En := ⟨tb, orcOf [(108, S108 k), (161, S161 k)], lvOf [(0, [(0, []), (3, [.nil 2 (.int .i64)]), (7, []), (8, [])])], k, 0, lvOf [], []⟩
noncomputable def n107_0 (x0 : List Int) (x3 : List Int) (x7 : Int) (x8 : Int) : St := ⟨19, lookA [(0, .dat (.list (.int .i64)) x0), (3, .own 0), (7, .dat (.int .i64) x7), (8, .dat (.int .i64) x8)], Go.V.look [(0, .flat 2 (.int .i64) x3)]⟩
def p107_0 : List Bool := [true, true, false, true, false]
theorem r107_0 (k : Nat) (rec : St → Option ((List Int))) (v : (List Int) × (List Int) × Int × Int) : roundF (E107 k) (S107 k) Try.f107 p107_0 [] rec (n107_0 v.1 v.2.1 v.2.2.1 v.2.2.2) = impl_sharesOf.s0 k (fun a0 a1 a2 a3 => rec (n107_0 a0 a1 a2 a3)) v.1 v.2.1 v.2.2.1 v.2.2.2 := by
  kernel_rfl
theorem q107_0 (k : Nat) (n : Nat) : ∀ v : (List Int) × (List Int) × Int × Int, loopF (E107 k) (S107 k) Try.f107 p107_0 [] n (n107_0 v.1 v.2.1 v.2.2.1 v.2.2.2) = impl_sharesOf.l0 k n v.1 v.2.1 v.2.2.1 v.2.2.2 :=
  loopF_eq (E107 k) (S107 k) Try.f107 p107_0 [] (fun v : (List Int) × (List Int) × Int × Int => n107_0 v.1 v.2.1 v.2.2.1 v.2.2.2) (fun rec v => impl_sharesOf.s0 k (fun a0 a1 a2 a3 => rec (a0, a1, a2, a3)) v.1 v.2.1 v.2.2.1 v.2.2.2) (fun n v => impl_sharesOf.l0 k n v.1 v.2.1 v.2.2.1 v.2.2.2) (fun _ => rfl) (fun _ _ => rfl) (fun rec v => r107_0 k rec v) n
theorem e107 (k : Nat) (x : dens (flatC (S107 k).ps)) : funK (E107 k) (S107 k) Try.f107 x = (S107 k).fn x := by
  have h : funK (E107 k) (S107 k) Try.f107 x = impl_sharesOf.g k (fun a0 a1 a2 a3 => loopF (E107 k) (S107 k) Try.f107 p107_0 [] k (n107_0 a0 a1 a2 a3)) x := by kernel_rfl
  rw [h]
  rw [show (fun a0 a1 a2 a3 => loopF (E107 k) (S107 k) Try.f107 p107_0 [] k (n107_0 a0 a1 a2 a3)) = impl_sharesOf.l0 k k from funext fun a0 => funext fun a1 => funext fun a2 => funext fun a3 => q107_0 k k (a0, a1, a2, a3)]
  rfl
theorem M107 (k : Nat) : Meets Try.prog 107 (S107 k) := meets_of Try.func107 (by kernel_rfl) tbOk (orc_cons (M108 k) (orc_cons (M161 k) orc_nil)) mixOk (fun x y h => (e107 k x).trans h) rfl

/-! impl_wait: function 137 -/
noncomputable def impl_wait.s0 (k : Nat) (r0 : (List Int) → Int → Int → Int → Option (Int)) (x0 : List Int) (x1 : Int) (x2 : Int) (x7 : Int) : Option (Int) := (impl_length_int64.f x0).bind fun t1 => if t1 = 0 then (none) else (if 0 ≤ (Int.tmod (wrap64 (x2 + x7)) t1) then (if (Int.tmod (wrap64 (x2 + x7)) t1) < (x0.length : Int) then (if (rd x0 (Int.tmod (wrap64 (x2 + x7)) t1)) = x1 then (some x7) else (r0 x0 x1 x2 (wrap64 (x7 + 1)))) else (none)) else (none))
noncomputable def impl_wait.l0 (k : Nat) : Nat → (List Int) → Int → Int → Int → Option (Int)
  | 0, _, _, _, _ => none
  | n + 1, x0, x1, x2, x3 => impl_wait.s0 k (impl_wait.l0 k n) x0 x1 x2 x3
noncomputable def impl_wait.g (k : Nat) (r0 : (List Int) → Int → Int → Int → Option (Int)) (l0 : List Int) (a1 : Int) (a2 : Int) : Option (Int) := r0 l0 a1 a2 0
noncomputable def impl_wait.f (k : Nat) (l0 : List Int) (a1 : Int) (a2 : Int) : Option (Int) := impl_wait.g k (impl_wait.l0 k k) l0 a1 a2
noncomputable def S137 (k : Nat) : Does := ⟨[(false, [.dat (.list (.int .i64))]), (false, [.dat (.int .i64)]), (false, [.dat (.int .i64)])], [(false, [.dat (.int .i64)])], fun x => impl_wait.f k x.1 x.2.1 x.2.2⟩
noncomputable def E137 (k : Nat) : En := ⟨tb, orcOf [(101, S101 k)], lvOf [(0, [(0, []), (1, []), (2, []), (7, [])])], k, 0, lvOf [], []⟩
noncomputable def n137_0 (x0 : List Int) (x1 : Int) (x2 : Int) (x7 : Int) : St := ⟨22, lookA [(0, .dat (.list (.int .i64)) x0), (1, .dat (.int .i64) x1), (2, .dat (.int .i64) x2), (7, .dat (.int .i64) x7)], Go.V.look []⟩
def p137_0 : List Bool := [true, true, false, false]
theorem r137_0 (k : Nat) (rec : St → Option (Int)) (v : (List Int) × Int × Int × Int) : roundF (E137 k) (S137 k) Try.f137 p137_0 [] rec (n137_0 v.1 v.2.1 v.2.2.1 v.2.2.2) = impl_wait.s0 k (fun a0 a1 a2 a3 => rec (n137_0 a0 a1 a2 a3)) v.1 v.2.1 v.2.2.1 v.2.2.2 := by
  kernel_rfl
theorem q137_0 (k : Nat) (n : Nat) : ∀ v : (List Int) × Int × Int × Int, loopF (E137 k) (S137 k) Try.f137 p137_0 [] n (n137_0 v.1 v.2.1 v.2.2.1 v.2.2.2) = impl_wait.l0 k n v.1 v.2.1 v.2.2.1 v.2.2.2 :=
  loopF_eq (E137 k) (S137 k) Try.f137 p137_0 [] (fun v : (List Int) × Int × Int × Int => n137_0 v.1 v.2.1 v.2.2.1 v.2.2.2) (fun rec v => impl_wait.s0 k (fun a0 a1 a2 a3 => rec (a0, a1, a2, a3)) v.1 v.2.1 v.2.2.1 v.2.2.2) (fun n v => impl_wait.l0 k n v.1 v.2.1 v.2.2.1 v.2.2.2) (fun _ => rfl) (fun _ _ => rfl) (fun rec v => r137_0 k rec v) n
theorem e137 (k : Nat) (x : dens (flatC (S137 k).ps)) : funK (E137 k) (S137 k) Try.f137 x = (S137 k).fn x := by
  have h : funK (E137 k) (S137 k) Try.f137 x = impl_wait.g k (fun a0 a1 a2 a3 => loopF (E137 k) (S137 k) Try.f137 p137_0 [] k (n137_0 a0 a1 a2 a3)) x.1 x.2.1 x.2.2 := by kernel_rfl
  rw [h]
  rw [show (fun a0 a1 a2 a3 => loopF (E137 k) (S137 k) Try.f137 p137_0 [] k (n137_0 a0 a1 a2 a3)) = impl_wait.l0 k k from funext fun a0 => funext fun a1 => funext fun a2 => funext fun a3 => q137_0 k k (a0, a1, a2, a3)]
  rfl
theorem M137 (k : Nat) : Meets Try.prog 137 (S137 k) := meets_of Try.func137 (by kernel_rfl) tbOk (orc_cons (M101 k) orc_nil) mixOk (fun x y h => (e137 k x).trans h) rfl

/-! impl_sumOfWaits: function 134 -/
noncomputable def impl_sumOfWaits.s0 (k : Nat) (r0 : (List Int) → Int → Int → Int → Int → Option (Int)) (x0 : List Int) (x1 : Int) (x5 : Int) (x8 : Int) (x9 : Int) : Option (Int) := if x9 < x8 then ((impl_wait.f k x0 x1 x9).bind fun t2 => r0 x0 x1 (wrap64 (x5 + t2)) x8 (wrap64 (x9 + 1))) else (some x5)
noncomputable def impl_sumOfWaits.l0 (k : Nat) : Nat → (List Int) → Int → Int → Int → Int → Option (Int)
  | 0, _, _, _, _, _ => none
  | n + 1, x0, x1, x2, x3, x4 => impl_sumOfWaits.s0 k (impl_sumOfWaits.l0 k n) x0 x1 x2 x3 x4
noncomputable def impl_sumOfWaits.g (k : Nat) (r0 : (List Int) → Int → Int → Int → Int → Option (Int)) (l0 : List Int) (a1 : Int) : Option (Int) := (impl_length_int64.f l0).bind fun t1 => r0 l0 a1 0 t1 0
noncomputable def impl_sumOfWaits.f (k : Nat) (l0 : List Int) (a1 : Int) : Option (Int) := impl_sumOfWaits.g k (impl_sumOfWaits.l0 k k) l0 a1
noncomputable def S134 (k : Nat) : Does := ⟨[(false, [.dat (.list (.int .i64))]), (false, [.dat (.int .i64)])], [(false, [.dat (.int .i64)])], fun x => impl_sumOfWaits.f k x.1 x.2⟩
noncomputable def E134 (k : Nat) : En := ⟨tb, orcOf [(101, S101 k), (137, S137 k)], lvOf [(0, [(0, []), (1, []), (5, []), (8, []), (9, [])])], k, 0, lvOf [], []⟩
noncomputable def n134_0 (x0 : List Int) (x1 : Int) (x5 : Int) (x8 : Int) (x9 : Int) : St := ⟨20, lookA [(0, .dat (.list (.int .i64)) x0), (1, .dat (.int .i64) x1), (5, .dat (.int .i64) x5), (8, .dat (.int .i64) x8), (9, .dat (.int .i64) x9)], Go.V.look []⟩
def p134_0 : List Bool := [true, true, false, true, false]
theorem r134_0 (k : Nat) (rec : St → Option (Int)) (v : (List Int) × Int × Int × Int × Int) : roundF (E134 k) (S134 k) Try.f134 p134_0 [] rec (n134_0 v.1 v.2.1 v.2.2.1 v.2.2.2.1 v.2.2.2.2) = impl_sumOfWaits.s0 k (fun a0 a1 a2 a3 a4 => rec (n134_0 a0 a1 a2 a3 a4)) v.1 v.2.1 v.2.2.1 v.2.2.2.1 v.2.2.2.2 := by
  kernel_rfl
theorem q134_0 (k : Nat) (n : Nat) : ∀ v : (List Int) × Int × Int × Int × Int, loopF (E134 k) (S134 k) Try.f134 p134_0 [] n (n134_0 v.1 v.2.1 v.2.2.1 v.2.2.2.1 v.2.2.2.2) = impl_sumOfWaits.l0 k n v.1 v.2.1 v.2.2.1 v.2.2.2.1 v.2.2.2.2 :=
  loopF_eq (E134 k) (S134 k) Try.f134 p134_0 [] (fun v : (List Int) × Int × Int × Int × Int => n134_0 v.1 v.2.1 v.2.2.1 v.2.2.2.1 v.2.2.2.2) (fun rec v => impl_sumOfWaits.s0 k (fun a0 a1 a2 a3 a4 => rec (a0, a1, a2, a3, a4)) v.1 v.2.1 v.2.2.1 v.2.2.2.1 v.2.2.2.2) (fun n v => impl_sumOfWaits.l0 k n v.1 v.2.1 v.2.2.1 v.2.2.2.1 v.2.2.2.2) (fun _ => rfl) (fun _ _ => rfl) (fun rec v => r134_0 k rec v) n
theorem e134 (k : Nat) (x : dens (flatC (S134 k).ps)) : funK (E134 k) (S134 k) Try.f134 x = (S134 k).fn x := by
  have h : funK (E134 k) (S134 k) Try.f134 x = impl_sumOfWaits.g k (fun a0 a1 a2 a3 a4 => loopF (E134 k) (S134 k) Try.f134 p134_0 [] k (n134_0 a0 a1 a2 a3 a4)) x.1 x.2 := by kernel_rfl
  rw [h]
  rw [show (fun a0 a1 a2 a3 a4 => loopF (E134 k) (S134 k) Try.f134 p134_0 [] k (n134_0 a0 a1 a2 a3 a4)) = impl_sumOfWaits.l0 k k from funext fun a0 => funext fun a1 => funext fun a2 => funext fun a3 => funext fun a4 => q134_0 k k (a0, a1, a2, a3, a4)]
  rfl
theorem M134 (k : Nat) : Meets Try.prog 134 (S134 k) := meets_of Try.func134 (by kernel_rfl) tbOk (orc_cons (M101 k) (orc_cons (M137 k) orc_nil)) mixOk (fun x y h => (e134 k x).trans h) rfl

/-! impl_weighted: function 109 -/
noncomputable def impl_weighted.s0 (k : Nat) (r0 : (List Int) → Int → (List Int) → Int → Int → Option (Int)) (x0 : List Int) (x5 : Int) (x8 : List Int) (x9 : Int) (x10 : Int) : Option (Int) := if x10 < x9 then (if 0 ≤ x10 then (if x10 < (x8.length : Int) then (if 0 < (rd x8 x10) then ((impl_sumOfWaits.f k x0 x10).bind fun t1 => r0 x0 (wrap64 (x5 + (wrap64 ((rd x8 x10) * t1)))) x8 x9 (wrap64 (x10 + 1))) else (r0 x0 x5 x8 x9 (wrap64 (x10 + 1)))) else (none)) else (none)) else (some x5)
noncomputable def impl_weighted.l0 (k : Nat) : Nat → (List Int) → Int → (List Int) → Int → Int → Option (Int)
  | 0, _, _, _, _, _ => none
  | n + 1, x0, x1, x2, x3, x4 => impl_weighted.s0 k (impl_weighted.l0 k n) x0 x1 x2 x3 x4
noncomputable def impl_weighted.g (k : Nat) (r0 : (List Int) → Int → (List Int) → Int → Int → Option (Int)) (l0 : List Int) (l1 : List Int) : Option (Int) := r0 l0 0 l1 (l1.length : Int) 0
noncomputable def impl_weighted.f (k : Nat) (l0 : List Int) (l1 : List Int) : Option (Int) := impl_weighted.g k (impl_weighted.l0 k k) l0 l1
noncomputable def S109 (k : Nat) : Does := ⟨[(false, [.dat (.list (.int .i64))]), (false, [.dat (.list (.int .i64))])], [(false, [.dat (.int .i64)])], fun x => impl_weighted.f k x.1 x.2⟩
noncomputable def E109 (k : Nat) : En := ⟨tb, orcOf [(134, S134 k)], lvOf [(0, [(0, []), (5, []), (8, []), (9, []), (10, [])])], k, 0, lvOf [], []⟩
noncomputable def n109_0 (x0 : List Int) (x5 : Int) (x8 : List Int) (x9 : Int) (x10 : Int) : St := ⟨26, lookA [(0, .dat (.list (.int .i64)) x0), (5, .dat (.int .i64) x5), (8, .dat (.list (.int .i64)) x8), (9, .dat (.int .i64) x9), (10, .dat (.int .i64) x10)], Go.V.look []⟩
def p109_0 : List Bool := [true, true, false, true, false]
theorem r109_0 (k : Nat) (rec : St → Option (Int)) (v : (List Int) × Int × (List Int) × Int × Int) : roundF (E109 k) (S109 k) Try.f109 p109_0 [] rec (n109_0 v.1 v.2.1 v.2.2.1 v.2.2.2.1 v.2.2.2.2) = impl_weighted.s0 k (fun a0 a1 a2 a3 a4 => rec (n109_0 a0 a1 a2 a3 a4)) v.1 v.2.1 v.2.2.1 v.2.2.2.1 v.2.2.2.2 := by
  kernel_rfl
theorem q109_0 (k : Nat) (n : Nat) : ∀ v : (List Int) × Int × (List Int) × Int × Int, loopF (E109 k) (S109 k) Try.f109 p109_0 [] n (n109_0 v.1 v.2.1 v.2.2.1 v.2.2.2.1 v.2.2.2.2) = impl_weighted.l0 k n v.1 v.2.1 v.2.2.1 v.2.2.2.1 v.2.2.2.2 :=
  loopF_eq (E109 k) (S109 k) Try.f109 p109_0 [] (fun v : (List Int) × Int × (List Int) × Int × Int => n109_0 v.1 v.2.1 v.2.2.1 v.2.2.2.1 v.2.2.2.2) (fun rec v => impl_weighted.s0 k (fun a0 a1 a2 a3 a4 => rec (a0, a1, a2, a3, a4)) v.1 v.2.1 v.2.2.1 v.2.2.2.1 v.2.2.2.2) (fun n v => impl_weighted.l0 k n v.1 v.2.1 v.2.2.1 v.2.2.2.1 v.2.2.2.2) (fun _ => rfl) (fun _ _ => rfl) (fun rec v => r109_0 k rec v) n
theorem e109 (k : Nat) (x : dens (flatC (S109 k).ps)) : funK (E109 k) (S109 k) Try.f109 x = (S109 k).fn x := by
  have h : funK (E109 k) (S109 k) Try.f109 x = impl_weighted.g k (fun a0 a1 a2 a3 a4 => loopF (E109 k) (S109 k) Try.f109 p109_0 [] k (n109_0 a0 a1 a2 a3 a4)) x.1 x.2 := by kernel_rfl
  rw [h]
  rw [show (fun a0 a1 a2 a3 a4 => loopF (E109 k) (S109 k) Try.f109 p109_0 [] k (n109_0 a0 a1 a2 a3 a4)) = impl_weighted.l0 k k from funext fun a0 => funext fun a1 => funext fun a2 => funext fun a3 => funext fun a4 => q109_0 k k (a0, a1, a2, a3, a4)]
  rfl
theorem M109 (k : Nat) : Meets Try.prog 109 (S109 k) := meets_of Try.func109 (by kernel_rfl) tbOk (orc_cons (M134 k) orc_nil) mixOk (fun x y h => (e109 k x).trans h) rfl

/-! slices_Clone_int64_int64: function 160 -/
def slices_Clone_int64_int64.f (l : List Int) : Option (List Int) := if l.length = 0 then some [] else if 0 + l.length ≤ 1099511627776 then some ([] ++ l) else none
def S160 (k : Nat) : Does := ⟨[(false, [.dat (.list (.int .i64))])], [(false, [.own 2 (.int .i64)])], fun x => slices_Clone_int64_int64.f x⟩
def E160 : En := ⟨tb, orcOf [], lvOf [], 0, 0, lvOf [], []⟩
theorem slices_Clone_int64_int64.e (l : List Int) (h : l.length ≠ 0) : slices_Clone_int64_int64.f l = (if l.length = 0 then none else if 0 + l.length ≤ 1099511627776 then some ([] ++ l) else none) := by
  unfold slices_Clone_int64_int64.f; rw [if_neg h, if_neg h]
theorem M160 (k : Nat) : Meets Try.prog 160 (S160 k) := by
  refine meets_nil (E := E160) (t := (.int .i64)) (rs := [(false, [.own 2 (.int .i64)])]) (F := slices_Clone_int64_int64.f) Try.func160 (by kernel_rfl) tbOk orc_nil mixOk rfl rfl rfl (fun l hl => ?_) (by kernel_rfl) (by kernel_rfl)
  refine Eq.trans ?_ (slices_Clone_int64_int64.e l hl).symm
  kernel_rfl

/-! impl_BestTurns: function 24 -/
/-! impl_BestTurns: functions 24, 105, 106 -/
structure Aside1 (p : Prop) : Prop where mk :: (out : p)
abbrev bLT : Ty := .list (.int .i64)
def bRL (w : World) (N : Nat → Prop) (v : Value) (l : List Int) : Prop := Rc w N bLT l [v]
def bOw (w : World) (base : Nat) (v : Value) (l : List Int) : Prop := w.ownsRow base 2 1 v l.length (l.map (Value.int .i64))

theorem b_elems {w : World} {N : Nat → Prop} : ∀ {l : List Int} {xs : List Value}, Elems w N (.int .i64) l xs ↔ xs = l.map (Value.int .i64)
  | [], xs => Iff.rfl
  | x :: l, xs => by
    constructor
    · rintro ⟨c, d, e, h, k⟩
      have h : c = [Value.int .i64 x] := h
      rw [e, h, b_elems.1 k]; rfl
    · intro h
      exact ⟨[Value.int .i64 x], l.map (Value.int .i64), h, rfl, b_elems.2 rfl⟩

theorem bOw.base0 {w : World} {base : Nat} {v : Value} {l : List Int} (h : bOw w base v l) : bOw w 0 v l := by
  refine ⟨h.1, ?_⟩
  rcases h.2 with h | ⟨g, cap, cur, e, hb, rest⟩
  · exact .inl h
  · exact .inr ⟨g, cap, cur, e, Nat.zero_le _, rest⟩
theorem bOw.rl {w : World} {base : Nat} {v : Value} {l : List Int} {N : Nat → Prop} (h : bOw w base v l) (hN : ∀ r, base ≤ r → ¬ N r) : bRL w N v l := by
  refine row_Rc (t := .int .i64) (N := N) (show w.ownsRow 0 2 1 v (List.length l) _ from h.base0) (b_elems.2 rfl) (fun _ h => h) (fun r hr => ?_)
  rcases h.2 with ⟨rfl, _⟩ | ⟨g, cap, cur, rfl, hb, rest⟩
  · cases hr
  · have e : g = r := by simpa [blockOf] using hr
    exact hN r (by omega)
theorem bOw.keep {w w' : World} {base : Nat} {v : Value} {l : List Int} (h : bOw w base v l) (hk : ∀ r, base ≤ r → r < w.heap.size → w'.heap[r]? = w.heap[r]?) : bOw w' base v l := by
  refine ⟨h.1, ?_⟩
  rcases h.2 with h | ⟨g, cap, cur, e, hb, hg, rest⟩
  · exact .inl h
  · have hlt : g < w.heap.size := by
      rcases Nat.lt_or_ge g w.heap.size with c | c
      · exact c
      · rw [Array.getElem?_eq_none c] at hg; cases hg
    exact .inr ⟨g, cap, cur, e, hb, (hk g hb hlt).trans hg, rest⟩
theorem bOw.mono {w : World} {base base' : Nat} {v : Value} {l : List Int} (h : bOw w base v l) (hb : base' ≤ base) : bOw w base' v l := by
  refine ⟨h.1, ?_⟩
  rcases h.2 with h | ⟨g, cap, cur, e, hg, rest⟩
  · exact .inl h
  · exact .inr ⟨g, cap, cur, e, Nat.le_trans hb hg, rest⟩
theorem bRL.keep {w w' : World} {N N' : Nat → Prop} {v : Value} {l : List Int} (h : bRL w N v l) (hk : ∀ r, ¬ N r → r < w.heap.size → ¬ N' r ∧ w'.heap[r]? = w.heap[r]?) : bRL w' N' v l := by
  refine Rc.move (fun r o hn ho => ?_) h
  have hlt : r < w.heap.size := by
    rcases Nat.lt_or_ge r w.heap.size with c | c
    · exact c
    · rw [Array.getElem?_eq_none c] at ho; cases ho
  exact ⟨(hk r hn hlt).1, (hk r hn hlt).2.trans ho⟩
theorem bRL.one {w : World} {N : Nat → Prop} {v : Value} {l : List Int} (h : bRL w N v l) : v.oneCell' = true := Rc.oneCell h v (List.mem_singleton.2 rfl)

theorem b_dat {P : Program} {f : FuncId} {F : List Int → Option Int} {w : World} {N : Nat → Prop} {v : Value} {l : List Int} {y : Int} (hm : Meets P f ⟨[(false, [.dat bLT])], [(false, [.dat (.int .i64)])], F⟩) (h : bRL w N v l) (hy : F l = some y) :
    Calls P f #[v] w fun e w' => e = .returned (.int .i64 y) ∧ Below w.heap.size w w' := by
  refine (hm.calls w (fun _ => False) [v] [v] l y ?_ (fun _ h => h.elim) ?_ List.nodup_nil hy).mono ?_
  · exact ⟨_, _, _, rfl, rfl, h.one, rfl, rfl, rfl⟩
  · exact ⟨_, rfl, h.weaken (fun b hb => by rcases hb with hb | hb; exact hb.elim; cases hb)⟩
  · rintro e w' ⟨u, vs, rc, rfl, hg, hc, hf, hp, -, -⟩
    obtain ⟨v1, vs1, cs1, -, rfl, -, rfl, rfl, rfl⟩ := hc
    obtain ⟨u1, e1, h1⟩ := hp
    obtain ⟨rfl, -⟩ := List.cons.inj e1
    have h1 : [v1] = [Value.int .i64 y] := h1
    cases h1
    have hg : u = _ := hg
    subst hg
    exact ⟨rfl, hf.os, hf.tape, hf.output, hf.size, fun k hk => hf.block k hk fun h => by cases h⟩

theorem b_own {P : Program} {f : FuncId} {F : List Int → Option (List Int)} {w : World} {N : Nat → Prop} {v : Value} {l y : List Int} (hm : Meets P f ⟨[(false, [.dat bLT])], [(false, [.own 2 (.int .i64)])], F⟩) (h : bRL w N v l) (hy : F l = some y) :
    Calls P f #[v] w fun e w' => ∃ u, e = .returned u ∧ bOw w' w.heap.size u y ∧ Below w.heap.size w w' := by
  refine (hm.calls w (fun _ => False) [v] [v] l y ?_ (fun _ h => h.elim) ?_ List.nodup_nil hy).mono ?_
  · exact ⟨_, _, _, rfl, rfl, h.one, rfl, rfl, rfl⟩
  · exact ⟨_, rfl, h.weaken (fun b hb => by rcases hb with hb | hb; exact hb.elim; cases hb)⟩
  · rintro e w' ⟨u, vs, rc, rfl, hg, hc, hf, hp, -, hfr⟩
    obtain ⟨v1, vs1, cs1, -, rfl, -, rfl, rfl, rfl⟩ := hc
    obtain ⟨u1, e1, h1⟩ := hp
    obtain ⟨rfl, -⟩ := List.cons.inj e1
    obtain ⟨xs, ho, hE⟩ := h1
    have hg : u = _ := hg
    subst hg
    have hE := b_elems.1 hE
    subst hE
    refine ⟨_, rfl, ⟨ho.1, ?_⟩, hf.os, hf.tape, hf.output, hf.size, fun k hk => hf.block k hk fun h => by cases h⟩
    rcases ho.2 with h | ⟨g, cap, cur, e, hb, rest⟩
    · exact .inl h
    · exact .inr ⟨g, cap, cur, e, hfr g (by subst e; simp [ownB, flatC, blockOf]), rest⟩

theorem b_mem {P : Program} {f : FuncId} {F : List Int × Int → Option Bool} {w : World} {N : Nat → Prop} {v : Value} {l : List Int} {x : Int} {y : Bool} (hm : Meets P f ⟨[(false, [.dat bLT]), (false, [.dat (.int .i64)])], [(false, [.dat .bool])], F⟩) (h : bRL w N v l) (hy : F (l, x) = some y) :
    Calls P f #[v, .int .i64 x] w fun e w' => e = .returned (.bool y) ∧ Below w.heap.size w w' := by
  refine (hm.calls w (fun _ => False) [v, .int .i64 x] [v, .int .i64 x] (l, x) y ?_ (fun _ h => h.elim) ?_ List.nodup_nil hy).mono ?_
  · exact ⟨_, _, _, rfl, rfl, h.one, rfl, _, _, _, rfl, rfl, rfl, rfl, rfl, rfl⟩
  · exact ⟨_, _, rfl, h.weaken (fun b hb => by rcases hb with hb | hb; exact hb.elim; cases hb), _, rfl, rfl⟩
  · rintro e w' ⟨u, vs, rc, rfl, hg, hc, hf, hp, -, -⟩
    obtain ⟨v1, vs1, cs1, -, rfl, -, rfl, rfl, rfl⟩ := hc
    obtain ⟨u1, e1, h1⟩ := hp
    obtain ⟨rfl, -⟩ := List.cons.inj e1
    have h1 : [v1] = [Value.bool y] := h1
    cases h1
    have hg : u = _ := hg
    subst hg
    exact ⟨rfl, hf.os, hf.tape, hf.output, hf.size, fun k hk => hf.block k hk fun h => by cases h⟩

theorem b_two {P : Program} {f : FuncId} {F : List Int × List Int → Option Int} {w : World} {N N' : Nat → Prop} {v v' : Value} {l l' : List Int} {y : Int} (hm : Meets P f ⟨[(false, [.dat bLT]), (false, [.dat bLT])], [(false, [.dat (.int .i64)])], F⟩) (h : bRL w N v l) (h' : bRL w N' v' l') (hy : F (l, l') = some y) :
    Calls P f #[v, v'] w fun e w' => e = .returned (.int .i64 y) ∧ Below w.heap.size w w' := by
  refine (hm.calls w (fun _ => False) [v, v'] [v, v'] (l, l') y ?_ (fun _ h => h.elim) ?_ List.nodup_nil hy).mono ?_
  · exact ⟨_, _, _, rfl, rfl, h.one, rfl, _, _, _, rfl, rfl, h'.one, rfl, rfl, rfl⟩
  · exact ⟨_, _, rfl, h.weaken (fun b hb => by rcases hb with hb | hb; exact hb.elim; cases hb), _, rfl, h'.weaken (fun b hb => by rcases hb with hb | hb; exact hb.elim; cases hb)⟩
  · rintro e w' ⟨u, vs, rc, rfl, hg, hc, hf, hp, -, -⟩
    obtain ⟨v1, vs1, cs1, -, rfl, -, rfl, rfl, rfl⟩ := hc
    obtain ⟨u1, e1, h1⟩ := hp
    obtain ⟨rfl, -⟩ := List.cons.inj e1
    have h1 : [v1] = [Value.int .i64 y] := h1
    cases h1
    have hg : u = _ := hg
    subst hg
    exact ⟨rfl, hf.os, hf.tape, hf.output, hf.size, fun k hk => hf.block k hk fun h => by cases h⟩

theorem b_datb {P : Program} {f : FuncId} {F : List Int → Option Bool} {w : World} {N : Nat → Prop} {v : Value} {l : List Int} {y : Bool} (hm : Meets P f ⟨[(false, [.dat bLT])], [(false, [.dat .bool])], F⟩) (h : bRL w N v l) (hy : F l = some y) :
    Calls P f #[v] w fun e w' => e = .returned (.bool y) ∧ Below w.heap.size w w' := by
  refine (hm.calls w (fun _ => False) [v] [v] l y ?_ (fun _ h => h.elim) ?_ List.nodup_nil hy).mono ?_
  · exact ⟨_, _, _, rfl, rfl, h.one, rfl, rfl, rfl⟩
  · exact ⟨_, rfl, h.weaken (fun b hb => by rcases hb with hb | hb; exact hb.elim; cases hb)⟩
  · rintro e w' ⟨u, vs, rc, rfl, hg, hc, hf, hp, -, -⟩
    obtain ⟨v1, vs1, cs1, -, rfl, -, rfl, rfl, rfl⟩ := hc
    obtain ⟨u1, e1, h1⟩ := hp
    obtain ⟨rfl, -⟩ := List.cons.inj e1
    have h1 : [v1] = [Value.bool y] := h1
    cases h1
    have hg : u = _ := hg
    subst hg
    exact ⟨rfl, hf.os, hf.tape, hf.output, hf.size, fun k hk => hf.block k hk fun h => by cases h⟩

theorem b_int3 {P : Program} {f : FuncId} {F : Int × Int × Int → Option Bool} {w : World} {a b c : Int} {y : Bool} (hm : Meets P f ⟨[(false, [.dat (.int .i64)]), (false, [.dat (.int .i64)]), (false, [.dat (.int .i64)])], [(false, [.dat .bool])], F⟩) (hy : F (a, b, c) = some y) :
    Calls P f #[.int .i64 a, .int .i64 b, .int .i64 c] w fun e w' => e = .returned (.bool y) ∧ Below w.heap.size w w' := by
  refine (hm.calls w (fun _ => False) [.int .i64 a, .int .i64 b, .int .i64 c] [.int .i64 a, .int .i64 b, .int .i64 c] (a, b, c) y ?_ (fun _ h => h.elim) ?_ List.nodup_nil hy).mono ?_
  · exact ⟨_, _, _, rfl, rfl, rfl, rfl, _, _, _, rfl, rfl, rfl, rfl, _, _, _, rfl, rfl, rfl, rfl, rfl, rfl⟩
  · exact ⟨_, _, rfl, rfl, _, _, rfl, rfl, _, rfl, rfl⟩
  · rintro e w' ⟨u, vs, rc, rfl, hg, hc, hf, hp, -, -⟩
    obtain ⟨v1, vs1, cs1, -, rfl, -, rfl, rfl, rfl⟩ := hc
    obtain ⟨u1, e1, h1⟩ := hp
    obtain ⟨rfl, -⟩ := List.cons.inj e1
    have h1 : [v1] = [Value.bool y] := h1
    cases h1
    have hg : u = _ := hg
    subst hg
    exact ⟨rfl, hf.os, hf.tape, hf.output, hf.size, fun k hk => hf.block k hk fun h => by cases h⟩
abbrev bAcc := Option (List Int) × Int
noncomputable def impl_visit (k : Nat) (ws : List Int) (m : Int) (l : List Int) (acc : bAcc) : Option bAcc :=
  (impl_sharesOf.f k l).bind fun s => (slices_Contains_int64_int64.f k s 0).bind fun c => if c = true then some acc else
    (slices_Max_int64_int64.f k l).bind fun t => if t < wrap64 (m - 1) then some acc else
      (impl_weighted.f k l ws).bind fun own => match acc.1 with
        | none => some (some l, own)
        | some _ => if own < acc.2 then some (some l, own) else some acc

structure bBx (w : World) (base : Nat) (m : Int) (ws : List Int) (bm bw bb bl : Nat) (acc : bAcc) : Prop where
  hm : w.heap[bm]? = some (.cells #[.int .i64 m] 2 (0, 0))
  hw : ∃ vW, w.heap[bw]? = some (.cells #[vW] 22 (0, 0)) ∧ bRL w (fun r => r = bb ∨ r = bl) vW ws
  hb : ∃ vB, w.heap[bb]? = some (.cells #[vB] 22 (0, 0)) ∧ (match acc.1 with
    | none => vB = .slice none 0 0
    | some l => l ≠ [] ∧ bOw w base vB l)
  hl : w.heap[bl]? = some (.cells #[.int .i64 acc.2] 2 (0, 0))
  ms : bm < base ∧ bw < base ∧ bb < base ∧ bl < base ∧ base ≤ w.heap.size
  nb : bm ≠ bb ∧ bm ≠ bl ∧ bw ≠ bb ∧ bw ≠ bl ∧ bb ≠ bl

theorem b_cell {w : World} {b : Nat} {v : Value} {e : TypeId} (h : w.heap[b]? = some (.cells #[v] e (0, 0))) : w.cell? ⟨b, 0, none⟩ = some v := by simp [World.cell?, h]

theorem b_froz {w : World} {b : Nat} {v : Value} {e : TypeId} (h : w.heap[b]? = some (.cells #[v] e (0, 0))) : w.frozen? ⟨b, 0, none⟩ = false := by simp [World.frozen?, h]
theorem b_wrap (x : Int) : IntKind.i64.wrap x = wrap64 x := by
  unfold wrap64
  simp [IntKind.wrap, IntKind.bits, IntKind.signed]
  split <;> omega

theorem bBx.later {w w' : World} {base bm bw bb bl : Nat} {m : Int} {ws : List Int} {acc : bAcc} (B : bBx w base m ws bm bw bb bl acc) (h : Below w.heap.size w w') : bBx w' base m ws bm bw bb bl acc := by
  have o := B.ms
  obtain ⟨vW, h1, h2⟩ := B.hw
  obtain ⟨vB, h3, h4⟩ := B.hb
  refine { hm := (h.block bm (by omega)).trans B.hm, hw := ⟨vW, (h.block bw (by omega)).trans h1, h2.keep fun r hn hr => ⟨hn, h.block r hr⟩⟩, hb := ⟨vB, (h.block bb (by omega)).trans h3, ?_⟩, hl := (h.block bl (by omega)).trans B.hl, ms := ⟨o.1, o.2.1, o.2.2.1, o.2.2.2.1, Nat.le_trans o.2.2.2.2 h.size⟩, nb := B.nb }
  match acc, h4 with
  | (none, _), h4 => exact h4
  | (some l, _), h4 => exact ⟨h4.1, bOw.keep h4.2 fun r _ hr => h.block r hr⟩

theorem b_nil (W : World) : (binOp .eql 22 (.slice none 0 0) (.slice none 0 0)).run Try.prog W = .ok (.bool true) W := by
  have hu : Try.prog.underlying 22 = some (.slice 2) := by kernel_rfl
  rw [show binOp .eql 22 (.slice none 0 0) (.slice none 0 0) = (do pure (.bool (← Op.equal 22 (.slice none 0 0) (.slice none 0 0)))) from rfl]
  simp only [Sem.run_bind, run_equal_nil hu, Result.andThen_ok, Sem.run_pure]; rfl
theorem b_notnil (W : World) (a : Addr) (n c : Nat) : (binOp .eql 22 (.slice (some a) n c) (.slice none 0 0)).run Try.prog W = .ok (.bool false) W := by
  have hu : Try.prog.underlying 22 = some (.slice 2) := by kernel_rfl
  rw [show binOp .eql 22 (.slice (some a) n c) (.slice none 0 0) = (do pure (.bool (← Op.equal 22 (.slice (some a) n c) (.slice none 0 0)))) from rfl]
  simp only [Sem.run_bind, run_equal_nil hu, Result.andThen_ok, Sem.run_pure]; rfl
theorem b_set {w : World} {b b' : Nat} {v u : Value} {e : TypeId} (h : w.heap[b]? = some (.cells #[v] e (0, 0))) : (w.setCell ⟨b, 0, none⟩ u).heap[b]? = some (.cells #[u] e (0, 0)) := by
  simp [World.setCell, Array.getElem?_modify, h]
theorem bBx.store {w W : World} {base bm bw bb bl : Nat} {m own : Int} {ws l : List Int} {acc : bAcc} {v : Value} (B : bBx W base m ws bm bw bb bl acc) (h : Below w.heap.size w W) (hv : bOw W base v l) (hl : l ≠ []) :
    bBx ((W.setCell ⟨bb, 0, none⟩ v).setCell ⟨bl, 0, none⟩ (.int .i64 own)) base m ws bm bw bb bl (some l, own) ∧ Frame0 w ((W.setCell ⟨bb, 0, none⟩ v).setCell ⟨bl, 0, none⟩ (.int .i64 own)) (fun r => r = bb ∨ r = bl) := by
  obtain ⟨o1, o2, o3, o4, o5⟩ := B.ms
  obtain ⟨n1, n2, n3, n4, n5⟩ := B.nb
  obtain ⟨vW, h1, h2⟩ := B.hw
  obtain ⟨vB, h3, h4⟩ := B.hb
  have far : ∀ r, r ≠ bb → r ≠ bl → ((W.setCell ⟨bb, 0, none⟩ v).setCell ⟨bl, 0, none⟩ (.int .i64 own)).heap[r]? = W.heap[r]? := fun r x y => (Below.heap_setCell _ _ _ _ y).trans (Below.heap_setCell _ _ _ _ x)
  have sz : ((W.setCell ⟨bb, 0, none⟩ v).setCell ⟨bl, 0, none⟩ (.int .i64 own)).heap.size = W.heap.size := by simp [World.setCell]
  refine ⟨{ hm := (far bm n1 n2).trans B.hm, hw := ⟨vW, (far bw n3 n4).trans h1, h2.keep fun r hn hr => ⟨hn, far r (fun e => hn (Or.inl e)) (fun e => hn (Or.inr e))⟩⟩, hb := ⟨v, (Below.heap_setCell _ _ _ _ n5).trans (b_set (b' := 0) h3), hl, bOw.keep hv fun r hr _ => far r (by omega) (by omega)⟩, hl := b_set (b' := 0) ((Below.heap_setCell _ _ _ _ n5.symm).trans B.hl), ms := ⟨o1, o2, o3, o4, by rw [sz]; exact o5⟩, nb := B.nb }, h.os, h.tape, h.output, by rw [sz]; exact h.size, fun r hr hn => (far r (fun e => hn (Or.inl e)) (fun e => hn (Or.inr e))).trans (h.block r hr)⟩

set_option maxHeartbeats 4000000 in
theorem vis_calls (k : Nat) {w : World} {base bm bw bb bl : Nat} {m : Int} {ws l : List Int} {acc acc' : bAcc} {v : Value} (B : bBx w base m ws bm bw bb bl acc) (hv : bOw w base v l) (hl : l ≠ []) (hy : impl_visit k ws m l acc = some acc') :
    Calls Try.prog 106 #[v, .pointer (some ⟨bm, 0, none⟩), .pointer (some ⟨bw, 0, none⟩), .pointer (some ⟨bb, 0, none⟩), .pointer (some ⟨bl, 0, none⟩)] w fun e w' => e = .returned (.tuple #[]) ∧ bBx w' base m ws bm bw bb bl acc' ∧ Frame0 w w' (fun r => r = bb ∨ r = bl) := by
  obtain ⟨g0, p0, rfl⟩ : ∃ g p, v = .slice (some ⟨g, 0, none⟩) l.length p := by
    rcases hv.2 with ⟨_, h0⟩ | ⟨g, cap, cur, h0, _⟩
    · exact absurd (List.eq_nil_of_length_eq_zero h0) hl
    · exact ⟨_, _, h0⟩
  unfold impl_visit at hy
  obtain ⟨s, e1, hy⟩ := Option.bind_eq_some_iff.1 hy
  obtain ⟨c, e2, hy⟩ := Option.bind_eq_some_iff.1 hy
  have hvr : ∀ W, Below w.heap.size w W → bRL W (fun _ => False) (.slice (some ⟨g0, 0, none⟩) l.length p0) l := fun W hW => (bOw.rl hv (N := fun _ => False) (fun _ _ h => h)).keep fun r _ hr => ⟨id, hW.block r hr⟩
  have HS : Aside1 (∀ W, Below w.heap.size w W → Calls Try.prog 107 #[.slice (some ⟨g0, 0, none⟩) l.length p0] W fun e w' => ∃ u, e = .returned u ∧ bOw w' W.heap.size u s ∧ Below W.heap.size W w') := ⟨fun W hW => b_own (M107 k) (hvr W hW) e1⟩
  have HC : Aside1 (∀ (W : World) (b : Nat) (u : Value), bOw W b u s → Calls Try.prog 103 #[u, .int .i64 0] W fun e w' => e = .returned (.bool c) ∧ Below W.heap.size W w') := ⟨fun W b u hu => b_mem (M103 k) (bOw.rl hu (N := fun _ => False) (fun _ _ h => h)) e2⟩
  have HB0 : Aside1 (bBx w base m ws bm bw bb bl acc) := ⟨B⟩
  have HE : Aside1 (∀ W, Below w.heap.size w W → bBx W base m ws bm bw bb bl acc ∧ Frame0 w W (fun r => r = bb ∨ r = bl)) := ⟨fun W hW => ⟨B.later hW, hW.os, hW.tape, hW.output, hW.size, fun r hr _ => hW.block r hr⟩⟩
  have HT : Aside1 (∀ {A C D : World}, Below w.heap.size w A → Below A.heap.size A C → Below w.heap.size w C) := ⟨fun h1 h2 => h1.trans (h2.mono h1.size)⟩
  obtain ⟨vW, hvW, hvWr⟩ := B.hw
  obtain ⟨vB, hvB, hvBr⟩ := B.hb
  have HX : Aside1 (∀ W, Below w.heap.size w W → W.cell? ⟨bm, 0, none⟩ = some (.int .i64 m) ∧ W.cell? ⟨bw, 0, none⟩ = some vW ∧ W.cell? ⟨bb, 0, none⟩ = some vB ∧ W.cell? ⟨bl, 0, none⟩ = some (.int .i64 acc.2) ∧ W.frozen? ⟨bb, 0, none⟩ = false ∧ W.frozen? ⟨bl, 0, none⟩ = false ∧ ∀ X, (W.setCell ⟨bb, 0, none⟩ X).cell? ⟨bl, 0, none⟩ = some (.int .i64 acc.2) ∧ (W.setCell ⟨bb, 0, none⟩ X).frozen? ⟨bl, 0, none⟩ = false) := ⟨fun W hW => by
    have o := B.ms
    have far : ∀ X, (W.setCell ⟨bb, 0, none⟩ X).heap[bl]? = some (.cells #[.int .i64 acc.2] 2 (0, 0)) := fun X => (Below.heap_setCell _ _ _ _ B.nb.2.2.2.2.symm).trans ((hW.block bl (by omega)).trans B.hl)
    exact ⟨b_cell ((hW.block bm (by omega)).trans B.hm), b_cell ((hW.block bw (by omega)).trans hvW), b_cell ((hW.block bb (by omega)).trans hvB), b_cell ((hW.block bl (by omega)).trans B.hl), b_froz ((hW.block bb (by omega)).trans hvB), b_froz ((hW.block bl (by omega)).trans B.hl), fun X => ⟨b_cell (far X), b_froz (far X)⟩⟩⟩
  have hwr : ∀ W, Below w.heap.size w W → bRL W (fun _ => False) vW ws := fun W hW => bRL.keep hvWr fun r _ hr => ⟨id, hW.block r hr⟩
  cases hc : c with
  | true =>
    subst hc
    rw [if_pos rfl] at hy
    obtain rfl := Option.some.inj hy
    clear hy B hv hvr hwr e1 e2 hl hvW hvWr hvB hvBr HX
    clear ‹Option.bind _ _ = _›
    go_enter Try.func106, Try.ntmps106
    go_wp2
    first | (go_region_with (first
      | (go_at_call 107; refine (HS.out _ (Below.drew (Below.refl _ _))).mono ?_; rintro e w1 ⟨u, rfl, hu, hb1⟩)
      | (go_at_call 103; refine (HC.out _ _ _ hu).mono ?_; rintro e w2 ⟨rfl, hb2⟩))) | fail "region"
    all_goals (simp only [Act.put, List.getElem_toArray, List.getElem_cons_succ, List.getElem_cons_zero, List.setIfInBounds_toArray, List.set_cons_succ, List.set_cons_zero]; go_wp2; go_returns; exact ⟨rfl, HE.out _ (HT.out (D := w) (HT.out (D := w) (Below.drew (Below.refl _ _)) hb1) hb2)⟩)
  | false =>
    subst hc
    rw [if_neg (by decide)] at hy
    obtain ⟨t, e3, hy⟩ := Option.bind_eq_some_iff.1 hy
    have HM : Aside1 (∀ W, Below w.heap.size w W → Calls Try.prog 108 #[.slice (some ⟨g0, 0, none⟩) l.length p0] W fun e w' => e = .returned (.int .i64 t) ∧ Below W.heap.size W w') := ⟨fun W hW => b_dat (M108 k) (hvr W hW) e3⟩
    by_cases hm : t < wrap64 (m - 1)
    · rw [if_pos hm] at hy
      obtain rfl := Option.some.inj hy
      have hmd : decide (t < IntKind.i64.wrap (m - 1)) = true := by rw [b_wrap]; exact decide_eq_true hm
      clear hy B hv hvr hwr e1 e2 e3 hl hvW hvWr hvB hvBr hm
      repeat clear ‹Option.bind _ _ = _›
      go_enter Try.func106, Try.ntmps106
      go_wp2
      first | (go_region_with (first
        | (go_at_call 107; refine (HS.out _ (Below.drew (Below.refl _ _))).mono ?_; rintro e w1 ⟨u, rfl, hu, hb1⟩)
        | (go_at_call 103; refine (HC.out _ _ _ hu).mono ?_; rintro e w2 ⟨rfl, hb2⟩; have hB2 := HT.out (D := w) (HT.out (D := w) (Below.drew (Below.refl _ _)) hb1) hb2; obtain ⟨q1, -⟩ := HX.out w2 hB2)
        | (go_at_call 108; refine (HM.out _ hB2).mono ?_; rintro e w3 ⟨rfl, hb3⟩; have hB3 := HT.out (D := w) hB2 hb3; obtain ⟨q2, -⟩ := HX.out w3 hB3))) | fail "region"
      all_goals (simp only [Act.put, List.getElem_toArray, List.getElem_cons_succ, List.getElem_cons_zero, List.setIfInBounds_toArray, List.set_cons_succ, List.set_cons_zero]; go_wp2; go_returns; exact ⟨rfl, HE.out _ hB3⟩)
    · rw [if_neg hm] at hy
      obtain ⟨own, e4, hy⟩ := Option.bind_eq_some_iff.1 hy
      have HW : Aside1 (∀ W, Below w.heap.size w W → Calls Try.prog 109 #[.slice (some ⟨g0, 0, none⟩) l.length p0, vW] W fun e w' => e = .returned (.int .i64 own) ∧ Below W.heap.size W w') := ⟨fun W hW => b_two (M109 k) (hvr W hW) (hwr W hW) e4⟩
      have hmd : decide (t < IntKind.i64.wrap (m - 1)) = false := by rw [b_wrap]; exact decide_eq_false hm
      have HN : Aside1 (∀ W, Below w.heap.size w W → bBx ((W.setCell ⟨bb, 0, none⟩ (.slice (some ⟨g0, 0, none⟩) l.length p0)).setCell ⟨bl, 0, none⟩ (.int .i64 own)) base m ws bm bw bb bl (some l, own) ∧ Frame0 w ((W.setCell ⟨bb, 0, none⟩ (.slice (some ⟨g0, 0, none⟩) l.length p0)).setCell ⟨bl, 0, none⟩ (.int .i64 own)) (fun r => r = bb ∨ r = bl)) := ⟨fun W hW => (B.later hW).store hW (bOw.keep hv fun r _ hr => hW.block r hr) hl⟩
      obtain ⟨a1, a2⟩ := acc
      match a1, hvBr, hy with
      | none, hvBr, hy =>
        have hvBr : vB = .slice none 0 0 := hvBr
        subst hvBr
        obtain rfl := Option.some.inj hy
        clear hy B hv hvr hwr e1 e2 e3 e4 hl hvW hvWr hvB hm
        repeat clear ‹Option.bind _ _ = _›
        have hnil := b_nil
        go_enter Try.func106, Try.ntmps106
        go_wp2
        first | (go_region_with (first
          | (go_at_call 107; refine (HS.out _ (Below.drew (Below.refl _ _))).mono ?_; rintro e w1 ⟨u, rfl, hu, hb1⟩)
          | (go_at_call 103; refine (HC.out _ _ _ hu).mono ?_; rintro e w2 ⟨rfl, hb2⟩; have hB2 := HT.out (D := w) (HT.out (D := w) (Below.drew (Below.refl _ _)) hb1) hb2; obtain ⟨q1, -⟩ := HX.out w2 hB2)
          | (go_at_call 108; refine (HM.out _ hB2).mono ?_; rintro e w3 ⟨rfl, hb3⟩; have hB3 := HT.out (D := w) hB2 hb3; obtain ⟨q2, q3, -⟩ := HX.out w3 hB3))) | fail "region"
        all_goals (simp only [Act.put, List.getElem_toArray, List.getElem_cons_succ, List.getElem_cons_zero, List.setIfInBounds_toArray, List.set_cons_succ, List.set_cons_zero]; go_wp2_with (go_at_call 109; refine (HW.out _ hB3).mono ?_; rintro e w4 ⟨rfl, hb4⟩; have hB4 := HT.out (D := w) hB3 hb4; obtain ⟨-, -, q4, q5, q6, q7, q8⟩ := HX.out w4 hB4; have q9 := fun X => (q8 X).1; have q10 := fun X => (q8 X).2; clear q8); go_returns; exact ⟨rfl, HN.out _ hB4⟩)
      | some l0, hvBr, hy =>
        obtain ⟨hl0, hvBo⟩ : l0 ≠ [] ∧ bOw w base vB l0 := hvBr
        obtain ⟨a0, n0, c0, rfl⟩ : ∃ a n c, vB = .slice (some a) n c := by
          rcases hvBo.2 with ⟨_, h0⟩ | ⟨g, cap, cur, h0, _⟩
          · exact absurd (List.eq_nil_of_length_eq_zero h0) hl0
          · exact ⟨_, _, _, h0⟩
        have hnn := fun W => b_notnil W a0 n0 c0
        have hy : (if own < a2 then some (some l, own) else some (some l0, a2)) = some acc' := hy
        by_cases ho : own < a2
        · rw [if_pos ho] at hy
          obtain rfl := Option.some.inj hy
          have hod : decide (own < a2) = true := decide_eq_true ho
          clear hy B hv hvr hwr e1 e2 e3 e4 hl hvW hvWr hvB hm ho hl0 hvBo hvBr
          repeat clear ‹Option.bind _ _ = _›
          go_enter Try.func106, Try.ntmps106
          go_wp2
          first | (go_region_with (first
            | (go_at_call 107; refine (HS.out _ (Below.drew (Below.refl _ _))).mono ?_; rintro e w1 ⟨u, rfl, hu, hb1⟩)
            | (go_at_call 103; refine (HC.out _ _ _ hu).mono ?_; rintro e w2 ⟨rfl, hb2⟩; have hB2 := HT.out (D := w) (HT.out (D := w) (Below.drew (Below.refl _ _)) hb1) hb2; obtain ⟨q1, -⟩ := HX.out w2 hB2)
            | (go_at_call 108; refine (HM.out _ hB2).mono ?_; rintro e w3 ⟨rfl, hb3⟩; have hB3 := HT.out (D := w) hB2 hb3; obtain ⟨q2, q3, -⟩ := HX.out w3 hB3))) | fail "region"
          all_goals (simp only [Act.put, List.getElem_toArray, List.getElem_cons_succ, List.getElem_cons_zero, List.setIfInBounds_toArray, List.set_cons_succ, List.set_cons_zero]; go_wp2_with (go_at_call 109; refine (HW.out _ hB3).mono ?_; rintro e w4 ⟨rfl, hb4⟩; have hB4 := HT.out (D := w) hB3 hb4; obtain ⟨-, -, q4, q5, q6, q7, q8⟩ := HX.out w4 hB4; have q9 := fun X => (q8 X).1; have q10 := fun X => (q8 X).2; clear q8); go_returns; exact ⟨rfl, HN.out _ hB4⟩)
        · rw [if_neg ho] at hy
          obtain rfl := Option.some.inj hy
          have hod : decide (own < a2) = false := decide_eq_false ho
          clear hy B hv hvr hwr e1 e2 e3 e4 hl hvW hvWr hvB hm ho hl0 hvBo hvBr
          repeat clear ‹Option.bind _ _ = _›
          go_enter Try.func106, Try.ntmps106
          go_wp2
          first | (go_region_with (first
            | (go_at_call 107; refine (HS.out _ (Below.drew (Below.refl _ _))).mono ?_; rintro e w1 ⟨u, rfl, hu, hb1⟩)
            | (go_at_call 103; refine (HC.out _ _ _ hu).mono ?_; rintro e w2 ⟨rfl, hb2⟩; have hB2 := HT.out (D := w) (HT.out (D := w) (Below.drew (Below.refl _ _)) hb1) hb2; obtain ⟨q1, -⟩ := HX.out w2 hB2)
            | (go_at_call 108; refine (HM.out _ hB2).mono ?_; rintro e w3 ⟨rfl, hb3⟩; have hB3 := HT.out (D := w) hB2 hb3; obtain ⟨q2, q3, -⟩ := HX.out w3 hB3))) | fail "region"
          all_goals (simp only [Act.put, List.getElem_toArray, List.getElem_cons_succ, List.getElem_cons_zero, List.setIfInBounds_toArray, List.set_cons_succ, List.set_cons_zero]; go_wp2_with (go_at_call 109; refine (HW.out _ hB3).mono ?_; rintro e w4 ⟨rfl, hb4⟩; have hB4 := HT.out (D := w) hB3 hb4; obtain ⟨-, -, q4, q5, q6, q7, q8⟩ := HX.out w4 hB4; have q9 := fun X => (q8 X).1; have q10 := fun X => (q8 X).2; clear q8); go_returns; exact ⟨rfl, HE.out _ hB4⟩)
noncomputable def impl_allL (rec : List Int → bAcc → Option bAcc) (l : List Int) : Nat → Nat → bAcc → Option bAcc
  | 0, _, acc => some acc
  | d + 1, i, acc => (rec (l ++ [(i : Int)]) acc).bind fun a => impl_allL rec l d (i + 1) a
noncomputable def impl_all (k : Nat) (ws : List Int) (m n : Nat) : Nat → List Int → bAcc → Option bAcc
  | 0, _, _ => none
  | f + 1, l, acc => if l.length = n then impl_visit k ws m l acc else impl_allL (impl_all k ws m n f) l m 0 acc

theorem bFr.trans {w w1 w2 : World} {bb bl : Nat} (h : Frame0 w w1 (fun r => r = bb ∨ r = bl)) (k : Frame0 w1 w2 (fun r => r = bb ∨ r = bl)) : Frame0 w w2 (fun r => r = bb ∨ r = bl) := Frame0.trans h k fun _ _ h => h
theorem bFr.of {w w1 : World} {bb bl : Nat} (h : Below w.heap.size w w1) : Frame0 w w1 (fun r => r = bb ∨ r = bl) := ⟨h.os, h.tape, h.output, h.size, fun r hr _ => h.block r hr⟩

set_option maxHeartbeats 4000000 in
theorem all_calls (k : Nat) {base bm bw bb bl m n : Nat} {ws : List Int} (n1 : 1 ≤ n) (n2 : n ≤ 1000) (m2 : m ≤ 1000) : ∀ (f : Nat) {w : World} {l : List Int} {acc acc' : bAcc} {v : Value}, bBx w base m ws bm bw bb bl acc → bOw w base v l → l.length ≤ n → impl_all k ws m n f l acc = some acc' →
    Calls Try.prog 105 #[.int .i64 m, .int .i64 n, v, .func (.func 106) #[] #[.pointer (some ⟨bm, 0, none⟩), .pointer (some ⟨bw, 0, none⟩), .pointer (some ⟨bb, 0, none⟩), .pointer (some ⟨bl, 0, none⟩)]] w fun e w' => e = .returned (.tuple #[]) ∧ bBx w' base m ws bm bw bb bl acc' ∧ Frame0 w w' (fun r => r = bb ∨ r = bl) := by
  intro f
  induction f with
  | zero => intro w l acc acc' v _ _ _ hy; cases hy
  | succ f ih =>
    intro w l acc acc' v B hv hl hy
    have HL : Aside1 (∀ W, Below w.heap.size w W → Calls Try.prog 101 #[v] W fun e w' => e = .returned (.int .i64 l.length) ∧ Below W.heap.size W w') := ⟨fun W hW => b_dat (M101 k) ((bOw.rl hv (N := fun _ => False) (fun _ _ h => h)).keep (N' := fun _ => False) fun r _ hr => ⟨id, hW.block r hr⟩) rfl⟩
    unfold impl_all at hy
    by_cases hn : l.length = n
    · rw [if_pos hn] at hy
      have HV : Aside1 (∀ W, Below w.heap.size w W → Calls Try.prog 106 #[v, .pointer (some ⟨bm, 0, none⟩), .pointer (some ⟨bw, 0, none⟩), .pointer (some ⟨bb, 0, none⟩), .pointer (some ⟨bl, 0, none⟩)] W fun e w' => e = .returned (.tuple #[]) ∧ bBx w' base m ws bm bw bb bl acc' ∧ Frame0 w w' (fun r => r = bb ∨ r = bl)) := ⟨fun W hW => (vis_calls k (B.later hW) (bOw.keep hv fun r _ hr => hW.block r hr) (fun e => by rw [e] at hn; simp at hn; omega) hy).mono fun e w' h => ⟨h.1, h.2.1, bFr.trans (bFr.of hW) h.2.2⟩⟩
      have hd : ((l.length : Int) == (n : Int)) = true := by rw [hn]; simp
      have hd2 : decide ((l.length : Int) = (n : Int)) = true := by rw [hn]; simp
      clear hy B hv hn ih
      go_enter Try.func105, Try.ntmps105
      go_wp2_with (first
        | (go_at_call 101; refine (HL.out _ (Below.refl _ _)).mono ?_; rintro e w1 ⟨rfl, hb1⟩)
        | (go_at_call 106; refine (HV.out _ hb1).mono ?_; rintro e w2 ⟨rfl, hr⟩))
      go_returns
      exact ⟨rfl, hr⟩
    · rw [if_neg hn] at hy
      have hd : ((l.length : Int) == (n : Int)) = false := by rw [beq_eq_false_iff_ne]; omega
      have hd2 : decide ((l.length : Int) = (n : Int)) = false := decide_eq_false (by omega)
      have hc0 : slices_Clone_int64_int64.f l = some l := by
        unfold slices_Clone_int64_int64.f
        by_cases c : l.length = 0
        · rw [if_pos c, List.eq_nil_of_length_eq_zero c]
        · rw [if_neg c, if_pos (by omega), List.nil_append]
      have o := B.ms
      have HCL : Aside1 (∀ W0 W, Frame0 w W0 (fun r => r = bb ∨ r = bl) → Below W0.heap.size W0 W → Calls Try.prog 160 #[v] W fun e w' => ∃ u, e = .returned u ∧ bOw w' W.heap.size u l ∧ Below W.heap.size W w') := ⟨fun W0 W h0 hW => by
        have hk : bOw W base v l := bOw.keep hv fun r hr hlt => (hW.block r (Nat.lt_of_lt_of_le hlt h0.size)).trans (h0.block r hlt (by omega))
        exact b_own (M160 k) (bOw.rl hk (N := fun _ => False) (fun _ _ h => h)) hc0⟩
      have HI : Aside1 (∃ i0 : TypeInfo, Try.prog.info? 2 = some i0 ∧ i0.zero = some (.int .i64 0) ∧ i0.size = 1 ∧ i0.bytes = 8) := ⟨by
        have hinfo : (Try.prog.info? 2).map (fun i => (i.zero, i.size, i.bytes)) = some (some (.int .i64 0), 1, 8) := by kernel_rfl
        obtain ⟨i0, h1, h2⟩ := Option.map_eq_some_iff.1 hinfo
        simp only [Prod.mk.injEq] at h2
        exact ⟨i0, h1, h2.1, h2.2.1, h2.2.2⟩⟩
      have HU : Aside1 (Try.prog.underlying 22 = some (.slice 2)) := ⟨by kernel_rfl⟩
      have HO : Aside1 (base ≤ w.heap.size) := ⟨o.2.2.2.2⟩
      have HY := Aside1.mk hy
      have HB := Aside1.mk B
      have HIH : Aside1 (∀ {W : World} {l : List Int} {acc acc' : bAcc} {v : Value}, bBx W base m ws bm bw bb bl acc → bOw W base v l → l.length ≤ n → impl_all k ws m n f l acc = some acc' →
        Calls Try.prog 105 #[.int .i64 m, .int .i64 n, v, .func (.func 106) #[] #[.pointer (some ⟨bm, 0, none⟩), .pointer (some ⟨bw, 0, none⟩), .pointer (some ⟨bb, 0, none⟩), .pointer (some ⟨bl, 0, none⟩)]] W fun e w' => e = .returned (.tuple #[]) ∧ bBx w' base m ws bm bw bb bl acc' ∧ Frame0 W w' (fun r => r = bb ∨ r = bl)) := ⟨@ih⟩
      have HLN : Aside1 (l.length + 1 ≤ n) := ⟨by omega⟩
      clear hy B hv hn ih o hc0 hl
      go_enter Try.func105, Try.ntmps105
      go_wp2_with (go_at_call 101; refine (HL.out _ (Below.refl _ _)).mono ?_; rintro e w1 ⟨rfl, hb1⟩)
      go_loopg [17] m (fun gg s17 wr => ∃ (i : Nat) (a : bAcc), i ≤ m ∧ m - i ≤ gg ∧ s17 = .int .i64 i ∧ Aside1 (bBx wr base m ws bm bw bb bl a) ∧ Aside1 (Frame0 w wr (fun r => r = bb ∨ r = bl)) ∧ Aside1 (impl_allL (impl_all k ws m n f) l (m - i) i a = some acc'))
      case atStart => exact ⟨0, acc, Nat.zero_le _, by omega, rfl, ⟨HB.out.later hb1⟩, ⟨bFr.of hb1⟩, ⟨by rw [Nat.sub_zero]; exact HY.out⟩⟩
      case round =>
        obtain ⟨i, a, hi, hgg, rfl, HBx, HF, HA⟩ := hrel
        by_cases hlt : i < m
        · have ha := HA.out
          obtain ⟨d, ed⟩ : ∃ d, m - i = d + 1 := ⟨m - i - 1, by omega⟩
          rw [ed] at ha
          obtain ⟨a1, er, ec⟩ := Option.bind_eq_some_iff.1 (show ((impl_all k ws m n f) (l ++ [(i : Int)]) a).bind (fun a => impl_allL (impl_all k ws m n f) l d (i + 1) a) = some acc' from ha)
          have HEC : Aside1 (impl_allL (impl_all k ws m n f) l (m - (i + 1)) (i + 1) a1 = some acc') := ⟨by rw [show m - (i + 1) = d by omega]; exact ec⟩
          have HR : Aside1 (∀ (W : World) (v' : Value), Below wr.heap.size wr W → bOw W base v' (l ++ [(i : Int)]) → Calls Try.prog 105 #[.int .i64 m, .int .i64 n, v', .func (.func 106) #[] #[.pointer (some ⟨bm, 0, none⟩), .pointer (some ⟨bw, 0, none⟩), .pointer (some ⟨bb, 0, none⟩), .pointer (some ⟨bl, 0, none⟩)]] W fun e w' => e = .returned (.tuple #[]) ∧ bBx w' base m ws bm bw bb bl a1 ∧ Frame0 w w' (fun r => r = bb ∨ r = bl)) := ⟨fun W v' hW hv' => (HIH.out (HBx.out.later hW) hv' (by rw [List.length_append]; exact HLN.out) er).mono fun e w' h => ⟨h.1, h.2.1, bFr.trans (bFr.trans HF.out (bFr.of hW)) h.2.2⟩⟩
          have hltz : decide ((i : Int) < (m : Int)) = true := decide_eq_true (by omega)
          clear ha er ec ed
          obtain ⟨i0, hi0, hz0, hs0, hy0⟩ := HI.out
          have HI0 := Aside1.mk hi0
          have HZ0 := Aside1.mk hz0
          have HS0 := Aside1.mk hs0
          have HY0 := Aside1.mk hy0
          have HO3 : Aside1 (base ≤ wr.heap.size) := ⟨Nat.le_trans HO.out HF.out.size⟩
          have HP : Aside1 (∀ (w2 : World) (u : Value), bOw w2 wr.heap.size u l → Below wr.heap.size wr w2 → (w2.alloc (.cells #[Value.int .i64 (i : Int)] 2)).ownsRow wr.heap.size 2 1 u l.length (l.map (Value.int .i64))) := ⟨fun w2 u hu hb => bOw.keep hu fun r _ hr => Below.heap_alloc _ _ _ hr⟩
          have HC1 : Aside1 (∀ (w2 : World) (j : Nat) (u : Value), [Value.int .i64 (i : Int)][j]? = some u → (w2.alloc (.cells #[Value.int .i64 (i : Int)] 2)).cell? ((⟨w2.heap.size, 0, none⟩ : Addr).add j) = some u) := ⟨fun w2 j u hu => by
            match j, hu with
            | 0, hu =>
              have hu : some (Value.int .i64 (i : Int)) = some u := hu
              cases hu
              have ea : (⟨w2.heap.size, 0, none⟩ : Addr).add 0 = ⟨w2.heap.size, 0, none⟩ := by unfold Addr.add; split <;> simp_all
              rw [ea]
              exact b_cell (heap_alloc_new w2 _)
            | j + 1, hu => simp at hu⟩
          have HC2 : Aside1 (∀ u ∈ [Value.int .i64 (i : Int)], u.oneCell' = true) := ⟨fun u hu => by rw [List.mem_singleton.1 hu]; rfl⟩
          have HG : Aside1 (∀ (w2 w3 : World) (u v' : Value), bOw w2 wr.heap.size u l → Below wr.heap.size wr w2 → (w2.alloc (.cells #[Value.int .i64 (i : Int)] 2)).grownBy w3 u.ownBlock → w3.ownsRow wr.heap.size 2 1 v' (l.length + 1) (l.map (Value.int .i64) ++ [Value.int .i64 (i : Int)]) → Below wr.heap.size wr w3 ∧ bOw w3 base v' (l ++ [(i : Int)])) := ⟨fun w2 w3 u v' hu hb hg ho => by
            refine ⟨(hb.alloc hb.size _).grown hg (Nat.le_trans hb.size (by simp)) (fun k hk => ?_), bOw.mono (base := wr.heap.size) ?_ HO3.out⟩
            · rcases hu.2 with ⟨rfl, _⟩ | ⟨g, cap, cur, rfl, hbg, _⟩
              · cases hk
              · have : g = k := by simpa [Value.ownBlock] using hk
                omega
            · unfold bOw
              rw [List.length_append, List.map_append]; exact ho⟩
          have HM1 : Aside1 (l.length + 1 ≤ maxLen ∧ (l.length + 1) * 8 ≤ 140737488355328) := ⟨by have := HLN.out; unfold maxLen; omega⟩
          clear hi0 hz0 hs0 hy0
          go_wp2_with (first
            | (at_builtin; (refine wpList_append_own_at _ rfl _ _ 22 rfl wr.heap.size 2 i0 (.int .i64 0) 1 8 HU.out HI0.out HZ0.out HS0.out HY0.out rfl (by decide) u l.length (l.map (Value.int .i64)) rfl (HP.out _ _ hu hb2) ⟨w2.heap.size, 0, none⟩ 1 1 [Value.int .i64 (i : Int)] rfl rfl (HC1.out _) HC2.out HM1.out.1 HM1.out.2 (Nat.le_trans hb2.size (by simp)) ?_; intro v3 w3 hown3 hgr3 _ _; obtain ⟨hB3, hv3⟩ := HG.out _ _ _ _ hu hb2 hgr3 hown3; clear hown3 hgr3))
            | (go_at_call 160; refine (HCL.out _ _ HF.out (Below.refl _ _)).mono ?_; rintro e w2 ⟨u, rfl, hu, hb2⟩)
            | (go_at_call 105; refine (HR.out _ _ hB3 hv3).mono ?_; rintro e w4 ⟨rfl, hBx4, hF4⟩))
          go_roundg (m - (i + 1))
          case measure => omega
          case rel => exact ⟨i + 1, a1, by omega, Nat.le_refl _, (by first | go_num | (rw [show wrap64 ((i : Int) + 1) = ((i + 1 : Nat) : Int) by unfold wrap64; omega])), ⟨hBx4⟩, ⟨hF4⟩, HEC⟩
        · have hltz : decide ((i : Int) < (m : Int)) = false := decide_eq_false (by omega)
          have HFI : Aside1 (a = acc') := ⟨by
            have := HA.out
            rw [show m - i = 0 by omega] at this
            exact Option.some.inj this⟩
          go_wp2
          go_returns
          exact ⟨rfl, HFI.out ▸ HBx.out, HF.out⟩
noncomputable def impl_BestTurns.f (k : Nat) (ws : List Int) (n : Int) : Option (List Int × Int) :=
  (impl_areWeights.f k ws).bind fun t1 => if t1 = true then (if 3 < ws.length then some ([], 2) else
    (slices_Contains_int64_int64.f k ws 0).bind fun t2 => if t2 = true then some ([], 2) else
      (impl_within.f n 1 8).bind fun t3 => if t3 = true then (if n < ws.length then some ([], 3) else if 1 ≤ n ∧ n ≤ 8 then
        (impl_all k ws ws.length n.toNat (n.toNat + 1) [] (none, 0)).bind fun a => some (a.1.getD [], 0) else none) else some ([], 2)) else some ([], 2)

/-- The world behind the first boxes. -/
structure bW1 (w W : World) (b1 : Nat) (vW : Value) (len : Int) : Prop where
  b : Below w.heap.size w W
  lt : w.heap.size < b1
  hw : W.heap[w.heap.size]? = some (.cells #[vW] 22 (0, 0))
  hm : W.heap[b1]? = some (.cells #[.int .i64 len] 2 (0, 0))
theorem bW1.later {w W W' : World} {b1 : Nat} {vW : Value} {len : Int} (h : bW1 w W b1 vW len) (hb : Below W.heap.size W W') : bW1 w W' b1 vW len := by
  have s : ∀ {b : Nat} {o : Obj}, W.heap[b]? = some o → b < W.heap.size := fun {b o} e => by
    rcases Nat.lt_or_ge b W.heap.size with c | c
    · exact c
    · rw [Array.getElem?_eq_none c] at e; cases e
  exact ⟨h.b.trans (hb.mono h.b.size), h.lt, (hb.block _ (s h.hw)).trans h.hw, (hb.block _ (s h.hm)).trans h.hm⟩
theorem bW1.of {w w1 : World} {vW : Value} {len : Int} (hb : Below (w.alloc (.cells #[vW] 22)).heap.size (w.alloc (.cells #[vW] 22)) w1) :
    bW1 w (w1.alloc (.cells #[.int .i64 len] 2)) w1.heap.size vW len := by
  have sz : (w.alloc (.cells #[vW] 22)).heap.size = w.heap.size + 1 := by simp
  have s1 := hb.size
  rw [sz] at s1
  have h0 : Below w.heap.size w (w.alloc (.cells #[vW] 22)) := (Below.refl _ w).alloc (Nat.le_refl _) _
  have h1 : Below w.heap.size w w1 := h0.trans (hb.mono (by omega))
  refine ⟨h1.alloc (by omega) _, by omega, ?_, heap_alloc_new w1 _⟩
  rw [Below.heap_alloc _ _ _ (by omega), hb.block _ (by omega)]
  exact heap_alloc_new w _

theorem bBx.first {w W : World} {b1 : Nat} {vW : Value} {ws : List Int} (h : bW1 w W b1 vW ws.length) (hv : bRL w (fun _ => False) vW ws) :
    bBx ((W.alloc (.cells #[.slice none 0 0] 22)).alloc (.cells #[.int .i64 0] 2)) (W.heap.size + 2) ws.length ws b1 w.heap.size W.heap.size (W.heap.size + 1) (none, 0) := by
  have s : ∀ {b : Nat} {o : Obj}, W.heap[b]? = some o → b < W.heap.size := fun {b o} e => by
    rcases Nat.lt_or_ge b W.heap.size with c | c
    · exact c
    · rw [Array.getElem?_eq_none c] at e; cases e
  have s1 := s h.hw
  have s2 := s h.hm
  have sz1 : (W.alloc (.cells #[.slice none 0 0] 22)).heap.size = W.heap.size + 1 := by simp
  have old : ∀ r, r < W.heap.size → ((W.alloc (.cells #[.slice none 0 0] 22)).alloc (.cells #[.int .i64 0] 2)).heap[r]? = W.heap[r]? := fun r hr => (Below.heap_alloc _ _ _ (by rw [sz1]; omega)).trans (Below.heap_alloc _ _ _ hr)
  refine { hm := (old _ s2).trans h.hm, hw := ⟨vW, (old _ s1).trans h.hw, bRL.keep hv fun r _ hr => ⟨by omega, (old r (by omega)).trans (h.b.block r hr)⟩⟩, hb := ⟨.slice none 0 0, (Below.heap_alloc _ _ _ (by rw [sz1]; omega)).trans (heap_alloc_new W _), rfl⟩, hl := ?_, ms := ⟨by omega, by omega, by omega, by omega, ?_⟩, nb := ⟨by omega, by omega, by omega, by omega, by omega⟩ }
  · have := heap_alloc_new (W.alloc (.cells #[.slice none 0 0] 22)) (.cells #[.int .i64 0] 2)
    rw [sz1] at this
    exact this
  · simp

theorem bBx.best {w : World} {base bm bw bb bl : Nat} {m : Int} {ws : List Int} {acc : bAcc} (B : bBx w base m ws bm bw bb bl acc) : ∃ A n c, w.cell? ⟨bb, 0, none⟩ = some (.slice A n c) ∧ bOw w base (.slice A n c) (acc.1.getD []) := by
  obtain ⟨vB, h1, h2⟩ := B.hb
  match acc, h2 with
  | (none, _), h2 =>
    have h2 : vB = .slice none 0 0 := h2
    subst h2
    exact ⟨none, 0, 0, b_cell h1, World.ownsRow_nil _ _ _ _⟩
  | (some l, _), h2 =>
    rcases h2.2.2 with ⟨e, _⟩ | ⟨g, cap, cur, e, _⟩
    · subst e; exact ⟨none, 0, 0, b_cell h1, h2.2⟩
    · subst e; exact ⟨_, _, _, b_cell h1, h2.2⟩

set_option maxHeartbeats 4000000 in
theorem best_calls (k : Nat) {w : World} {ws : List Int} {n : Int} {vW : Value} {y : List Int} {c : Int} (hv : bRL w (fun _ => False) vW ws) (hy : impl_BestTurns.f k ws n = some (y, c)) :
    Calls Try.prog 24 #[vW, .int .i64 n] w fun e w' => ∃ u, e = .returned (.tuple #[u, .int .i64 c]) ∧ bOw w' w.heap.size u y ∧ Below w.heap.size w w' := by
  have nil0 : ∀ W, Below w.heap.size w W → bOw W w.heap.size (.slice none 0 0) [] := fun W _ => World.ownsRow_nil _ _ _ _
  have HN := Aside1.mk nil0
  obtain ⟨A, cap, rfl⟩ : ∃ A cap, vW = .slice A ws.length cap := by
    obtain ⟨A, cap, e, _⟩ := hv
    exact ⟨A, cap, (List.cons.inj e).1⟩
  have hvr : ∀ W, Below w.heap.size w W → bRL W (fun _ => False) (.slice A ws.length cap) ws := fun W hW => bRL.keep hv fun r _ hr => ⟨id, hW.block r hr⟩
  have HL : Aside1 (∀ W, Below w.heap.size w W → Calls Try.prog 101 #[.slice A ws.length cap] W fun e w' => e = .returned (.int .i64 ws.length) ∧ Below W.heap.size W w') := ⟨fun W hW => b_dat (M101 k) (hvr W hW) rfl⟩
  have HA0 : Aside1 (Below w.heap.size w (w.alloc (.cells #[.slice A ws.length cap] 22))) := ⟨(Below.refl _ w).alloc (Nat.le_refl _) _⟩
  have HX : Aside1 (∀ (W : World) (b1 : Nat), bW1 w W b1 (.slice A ws.length cap) ws.length → W.cell? ⟨w.heap.size, 0, none⟩ = some (.slice A ws.length cap) ∧ W.cell? ⟨b1, 0, none⟩ = some (.int .i64 ws.length)) := ⟨fun W b1 h => ⟨b_cell h.hw, b_cell h.hm⟩⟩
  unfold impl_BestTurns.f at hy
  obtain ⟨t1, e1, hy⟩ := Option.bind_eq_some_iff.1 hy
  have HW : Aside1 (∀ (W : World) (b1 : Nat), bW1 w W b1 (.slice A ws.length cap) ws.length → Calls Try.prog 102 #[.slice A ws.length cap] W fun e w' => e = .returned (.bool t1) ∧ Below W.heap.size W w') := ⟨fun W b1 hW => b_datb (M102 k) (hvr W hW.b) e1⟩
  cases ht1 : t1 with
  | false =>
    subst ht1
    rw [if_neg (by decide)] at hy
    obtain ⟨rfl, rfl⟩ := Prod.mk.inj (Option.some.inj hy)
    clear hy hv hvr e1 nil0
    repeat clear ‹Option.bind _ _ = _›
    go_enter Try.func24, Try.ntmps24
    go_wp2_with (first
      | (go_at_call 101; (refine (HL.out _ HA0.out).mono ?_; rintro e w1 ⟨rfl, hb1⟩; have hB1 := bW1.of (len := ws.length) hb1; obtain ⟨q1, q2⟩ := HX.out _ _ hB1))
      | (go_at_call 102; (refine (HW.out _ _ hB1).mono ?_; rintro e w2 ⟨rfl, hb2⟩; have hB2 := bW1.later hB1 hb2; obtain ⟨q3, q4⟩ := HX.out _ _ hB2)))
    go_returns
    exact ⟨_, rfl, HN.out _ hB2.b, hB2.b⟩
  | true =>
    subst ht1
    rw [if_pos rfl] at hy
    by_cases h3 : 3 < ws.length
    · rw [if_pos h3] at hy
      obtain ⟨rfl, rfl⟩ := Prod.mk.inj (Option.some.inj hy)
      have hd : decide ((3 : Int) < (ws.length : Int)) = true := decide_eq_true (by omega)
      have hd' : decide ((ws.length : Int) > 3) = true := decide_eq_true (by omega)
      clear hy hv hvr e1 nil0 h3
      repeat clear ‹Option.bind _ _ = _›
      go_enter Try.func24, Try.ntmps24
      go_wp2_with (first
        | (go_at_call 101; (refine (HL.out _ HA0.out).mono ?_; rintro e w1 ⟨rfl, hb1⟩; have hB1 := bW1.of (len := ws.length) hb1; obtain ⟨q1, q2⟩ := HX.out _ _ hB1))
        | (go_at_call 102; (refine (HW.out _ _ hB1).mono ?_; rintro e w2 ⟨rfl, hb2⟩; have hB2 := bW1.later hB1 hb2; obtain ⟨q3, q4⟩ := HX.out _ _ hB2)))
      go_returns
      exact ⟨_, rfl, HN.out _ hB2.b, hB2.b⟩
    · rw [if_neg h3] at hy
      have hd : decide ((3 : Int) < (ws.length : Int)) = false := decide_eq_false (by omega)
      have hd' : decide ((ws.length : Int) > 3) = false := decide_eq_false (by omega)
      obtain ⟨t2, e2, hy⟩ := Option.bind_eq_some_iff.1 hy
      have HC : Aside1 (∀ (W : World) (b1 : Nat), bW1 w W b1 (.slice A ws.length cap) ws.length → Calls Try.prog 103 #[.slice A ws.length cap, .int .i64 0] W fun e w' => e = .returned (.bool t2) ∧ Below W.heap.size W w') := ⟨fun W b1 hW => b_mem (M103 k) (hvr W hW.b) e2⟩
      cases ht2 : t2 with
      | true =>
        subst ht2
        rw [if_pos rfl] at hy
        obtain ⟨rfl, rfl⟩ := Prod.mk.inj (Option.some.inj hy)
        clear hy hv hvr e1 e2 nil0 h3
        repeat clear ‹Option.bind _ _ = _›
        go_enter Try.func24, Try.ntmps24
        go_wp2_with (first
          | (go_at_call 101; (refine (HL.out _ HA0.out).mono ?_; rintro e w1 ⟨rfl, hb1⟩; have hB1 := bW1.of (len := ws.length) hb1; obtain ⟨q1, q2⟩ := HX.out _ _ hB1))
          | (go_at_call 102; (refine (HW.out _ _ hB1).mono ?_; rintro e w2 ⟨rfl, hb2⟩; have hB2 := bW1.later hB1 hb2; obtain ⟨q3, q4⟩ := HX.out _ _ hB2))
          | (go_at_call 103; (refine (HC.out _ _ hB2).mono ?_; rintro e w3 ⟨rfl, hb3⟩; have hB3 := bW1.later hB2 hb3; obtain ⟨q5, q6⟩ := HX.out _ _ hB3)))
        go_returns
        exact ⟨_, rfl, HN.out _ hB3.b, hB3.b⟩
      | false =>
        subst ht2
        rw [if_neg (by decide)] at hy
        obtain ⟨t3, e3, hy⟩ := Option.bind_eq_some_iff.1 hy
        have HI : Aside1 (∀ (W : World), Calls Try.prog 104 #[.int .i64 n, .int .i64 1, .int .i64 8] W fun e w' => e = .returned (.bool t3) ∧ Below W.heap.size W w') := ⟨fun W => b_int3 (M104 k) e3⟩
        cases ht3 : t3 with
        | false =>
          subst ht3
          rw [if_neg (by decide)] at hy
          obtain ⟨rfl, rfl⟩ := Prod.mk.inj (Option.some.inj hy)
          clear hy hv hvr e1 e2 e3 nil0 h3
          repeat clear ‹Option.bind _ _ = _›
          go_enter Try.func24, Try.ntmps24
          go_wp2_with (first
            | (go_at_call 101; (refine (HL.out _ HA0.out).mono ?_; rintro e w1 ⟨rfl, hb1⟩; have hB1 := bW1.of (len := ws.length) hb1; obtain ⟨q1, q2⟩ := HX.out _ _ hB1))
            | (go_at_call 102; (refine (HW.out _ _ hB1).mono ?_; rintro e w2 ⟨rfl, hb2⟩; have hB2 := bW1.later hB1 hb2; obtain ⟨q3, q4⟩ := HX.out _ _ hB2))
            | (go_at_call 103; (refine (HC.out _ _ hB2).mono ?_; rintro e w3 ⟨rfl, hb3⟩; have hB3 := bW1.later hB2 hb3; obtain ⟨q5, q6⟩ := HX.out _ _ hB3))
            | (go_at_call 104; (refine (HI.out _).mono ?_; rintro e w4 ⟨rfl, hb4⟩; have hB4 := bW1.later hB3 hb4; obtain ⟨q7, q8⟩ := HX.out _ _ hB4)))
          go_returns
          exact ⟨_, rfl, HN.out _ hB4.b, hB4.b⟩
        | true =>
          subst ht3
          rw [if_pos rfl] at hy
          by_cases hn : n < ws.length
          · rw [if_pos hn] at hy
            have hnd : decide (n < (ws.length : Int)) = true := decide_eq_true hn
            obtain ⟨rfl, rfl⟩ := Prod.mk.inj (Option.some.inj hy)
            clear hy hv hvr e1 e2 e3 nil0 h3 hn
            repeat clear ‹Option.bind _ _ = _›
            go_enter Try.func24, Try.ntmps24
            go_wp2_with (first
              | (go_at_call 101; (refine (HL.out _ HA0.out).mono ?_; rintro e w1 ⟨rfl, hb1⟩; have hB1 := bW1.of (len := ws.length) hb1; obtain ⟨q1, q2⟩ := HX.out _ _ hB1))
              | (go_at_call 102; (refine (HW.out _ _ hB1).mono ?_; rintro e w2 ⟨rfl, hb2⟩; have hB2 := bW1.later hB1 hb2; obtain ⟨q3, q4⟩ := HX.out _ _ hB2))
              | (go_at_call 103; (refine (HC.out _ _ hB2).mono ?_; rintro e w3 ⟨rfl, hb3⟩; have hB3 := bW1.later hB2 hb3; obtain ⟨q5, q6⟩ := HX.out _ _ hB3))
              | (go_at_call 104; (refine (HI.out _).mono ?_; rintro e w4 ⟨rfl, hb4⟩; have hB4 := bW1.later hB3 hb4; obtain ⟨q7, q8⟩ := HX.out _ _ hB4)))
            go_returns
            exact ⟨_, rfl, HN.out _ hB4.b, hB4.b⟩
          · rw [if_neg hn] at hy
            have hnd : decide (n < (ws.length : Int)) = false := decide_eq_false hn
            by_cases hr : 1 ≤ n ∧ n ≤ 8
            · rw [if_pos hr] at hy
              obtain ⟨N, rfl⟩ := Int.eq_ofNat_of_zero_le (show 0 ≤ n by omega)
              have hnd2 : decide (N < ws.length) = false := decide_eq_false (by omega)
              rw [Int.toNat_natCast] at hy
              obtain ⟨acc, e4, hy⟩ := Option.bind_eq_some_iff.1 hy
              obtain ⟨rfl, rfl⟩ := Prod.mk.inj (Option.some.inj hy)
              have HALL : Aside1 (∀ (W : World) (b1 : Nat), bW1 w W b1 (.slice A ws.length cap) ws.length → Calls Try.prog 105 #[.int .i64 ws.length, .int .i64 N, .slice none 0 0, .func (.func 106) #[] #[.pointer (some ⟨b1, 0, none⟩), .pointer (some ⟨w.heap.size, 0, none⟩), .pointer (some ⟨W.heap.size, 0, none⟩), .pointer (some ⟨W.heap.size + 1, 0, none⟩)]]
                ((W.alloc (.cells #[.slice none 0 0] 22)).alloc (.cells #[.int .i64 0] 2)) fun e w' => e = .returned (.tuple #[]) ∧ (∃ A n c, w'.cell? ⟨W.heap.size, 0, none⟩ = some (.slice A n c) ∧ bOw w' w.heap.size (.slice A n c) (acc.1.getD [])) ∧ Below w.heap.size w w') := ⟨fun W b1 hW => by
                have B := bBx.first hW hv
                refine (all_calls k (n := N) (m := ws.length) (by omega) (by omega) (by omega) (N + 1) (l := []) (v := .slice none 0 0) B (World.ownsRow_nil _ _ _ _) (by simp) e4).mono ?_
                rintro e w' ⟨rfl, B', hf⟩
                obtain ⟨A', n', c', q1, q2⟩ := B'.best
                have hs := hW.b.size
                have sz2 : ((W.alloc (.cells #[.slice none 0 0] 22)).alloc (.cells #[.int .i64 0] 2)).heap.size = W.heap.size + 2 := by simp
                have hb2 : Below w.heap.size w ((W.alloc (.cells #[.slice none 0 0] 22)).alloc (.cells #[.int .i64 0] 2)) := (hW.b.alloc hs _).alloc (by simp; omega) _
                exact ⟨rfl, ⟨A', n', c', q1, q2.mono (by omega)⟩, hf.os.trans hb2.os, hf.tape.trans hb2.tape, hf.output.trans hb2.output, Nat.le_trans hb2.size hf.size, fun r hr => (hf.block r (by omega) (by omega)).trans (hb2.block r hr)⟩⟩
              have HX2 : Aside1 (∀ (W : World) (b1 : Nat), bW1 w W b1 (.slice A ws.length cap) ws.length → ((W.alloc (.cells #[.slice none 0 0] 22)).alloc (.cells #[.int .i64 0] 2)).cell? ⟨b1, 0, none⟩ = some (.int .i64 ws.length)) := ⟨fun W b1 hW => (HX.out _ _ (bW1.later hW (((Below.refl _ W).alloc (Nat.le_refl _) _).alloc (by simp) _))).2⟩
              clear hy hv hvr e1 e2 e3 e4 nil0 h3 hn hr
              repeat clear ‹Option.bind _ _ = _›
              go_enter Try.func24, Try.ntmps24
              go_wp2_with (first
                | (go_at_call 101; (refine (HL.out _ HA0.out).mono ?_; rintro e w1 ⟨rfl, hb1⟩; have hB1 := bW1.of (len := ws.length) hb1; obtain ⟨q1, q2⟩ := HX.out _ _ hB1))
                | (go_at_call 102; (refine (HW.out _ _ hB1).mono ?_; rintro e w2 ⟨rfl, hb2⟩; have hB2 := bW1.later hB1 hb2; obtain ⟨q3, q4⟩ := HX.out _ _ hB2))
                | (go_at_call 103; (refine (HC.out _ _ hB2).mono ?_; rintro e w3 ⟨rfl, hb3⟩; have hB3 := bW1.later hB2 hb3; obtain ⟨q5, q6⟩ := HX.out _ _ hB3))
                | (go_at_call 104; (refine (HI.out _).mono ?_; rintro e w4 ⟨rfl, hb4⟩; have hB4 := bW1.later hB3 hb4; obtain ⟨q7, q8⟩ := HX.out _ _ hB4; have q9 := HX2.out _ _ hB4))
                | (go_at_call 105; (refine (HALL.out _ _ hB4).mono ?_; rintro e w5 ⟨rfl, ⟨A5, n5, c5, q10, ho5⟩, hb5⟩)))
              go_returns
              exact ⟨_, rfl, ho5, hb5⟩
            · rw [if_neg hr] at hy; cases hy

noncomputable def S24 (k : Nat) : Does := ⟨[(false, [.dat (.list (.int .i64))]), (false, [.dat (.int .i64)])], [(false, [.own 2 (.int .i64)]), (false, [.dat (.int .i64)])], fun x => impl_BestTurns.f k x.1 x.2⟩
theorem M24 (k : Nat) : Meets Try.prog 24 (S24 k) := by
  refine ⟨fun args w => by
    have hf := Try.func24
    have h1 : (Try.f24.name == "runtime.NumGoroutine") = false := by kernel_rfl
    have h1 : Try.f24.name ≠ "runtime.NumGoroutine" := by simpa using h1
    obtain ⟨c, hc⟩ := Option.isSome_iff_exists.1 (show Try.f24.body.isSome = true by kernel_rfl)
    simp [callFunc, hf, h1, hc, mark], ?_⟩
  intro w X args cells x y hc hX hp hn hy
  obtain ⟨v1, vs1, cs1, -, rfl, -, rfl, v2, vs2, cs2, -, rfl, -, rfl, rfl, rfl⟩ := hc
  obtain ⟨u1, us, e1, h1, u2, e2, h2⟩ := hp
  obtain ⟨rfl, rfl⟩ := List.cons.inj e1
  obtain ⟨rfl, -⟩ := List.cons.inj e2
  obtain ⟨l0, a1⟩ := x
  obtain ⟨yl, yc⟩ := y
  have e4 : [v2] = [Value.int .i64 a1] := h2
  cases e4
  have hr : bRL w (fun _ => False) v1 l0 := Rc.weaken (fun _ h => h.elim) h1
  refine (best_calls k hr hy).mono ?_
  rintro e w' ⟨u, rfl, ho, hB⟩
  refine ⟨_, [u, .int .i64 yc], [u, .int .i64 yc], rfl, rfl, ⟨_, _, _, rfl, rfl, owns_one ho, rfl, _, _, _, rfl, rfl, rfl, rfl, rfl, rfl⟩, ⟨hB.os, hB.tape, hB.output, hB.size, fun r hr _ => hB.block r hr⟩, ?_, ?_, ?_⟩
  · exact ⟨_, _, rfl, ⟨_, ho.base0, b_elems.2 rfl⟩, _, rfl, rfl⟩
  · show (ownB [.own 2 (.int .i64), .dat (.int .i64)] [u, .int .i64 yc]).Nodup
    cases hb : blockOf u with
    | none => simp [ownB, hb]
    | some r => simp [ownB, hb]
  · intro r hr
    have hr : r ∈ ownB [.own 2 (.int .i64), .dat (.int .i64)] [u, .int .i64 yc] := hr
    rcases ho.2 with ⟨rfl, _⟩ | ⟨g, cap, cur, rfl, hb, _⟩
    · simp [ownB, blockOf] at hr
    · have e : r = g := by simpa [ownB, blockOf] using hr
      rw [e]; exact hb

/-! spec_l01In: function 99 -/
noncomputable def spec_l01In.f (a0 : Int) (a1 : Int) (a2 : Int) : Option (Bool) := if a1 ≤ a0 then (some (decide (a0 ≤ a2))) else (some false)
noncomputable def S99 (k : Nat) : Does := ⟨[(false, [.dat (.int .i64)]), (false, [.dat (.int .i64)]), (false, [.dat (.int .i64)])], [(false, [.dat .bool])], fun x => spec_l01In.f x.1 x.2.1 x.2.2⟩
noncomputable def E99 (k : Nat) : En := ⟨tb, orcOf [], lvOf [], k, 0, lvOf [], []⟩
theorem e99 (k : Nat) (x : dens (flatC (S99 k).ps)) : funK (E99 k) (S99 k) Try.f99 x = (S99 k).fn x := by
  kernel_rfl
theorem M99 (k : Nat) : Meets Try.prog 99 (S99 k) := meets_of Try.func99 (by kernel_rfl) tbOk orc_nil mixOk (fun x y h => (e99 k x).trans h) rfl

/-! spec_l10Weights: function 98 -/
noncomputable def spec_l10Weights.s0 (k : Nat) (r0 : (List Int) → Int → Int → Int → Int → Option (Bool)) (x0 : List Int) (x1 : Int) (x2 : Int) (x7 : Int) (x8 : Int) : Option (Bool) := if x8 < (x0.length : Int) then (if 0 ≤ x8 then (if x8 < (x0.length : Int) then ((spec_l01In.f (rd x0 x8) x1 100).bind fun t1 => if t1 = true then (if 0 ≤ x8 then (if x8 < (x0.length : Int) then (r0 x0 x1 x2 (wrap64 (x7 + (rd x0 x8))) (wrap64 (x8 + 1))) else (none)) else (none)) else (some false)) else (none)) else (none)) else (if 0 < x7 then (some (decide ((x0.length : Int) ≤ x2))) else (some false))
noncomputable def spec_l10Weights.l0 (k : Nat) : Nat → (List Int) → Int → Int → Int → Int → Option (Bool)
  | 0, _, _, _, _, _ => none
  | n + 1, x0, x1, x2, x3, x4 => spec_l10Weights.s0 k (spec_l10Weights.l0 k n) x0 x1 x2 x3 x4
noncomputable def spec_l10Weights.g (k : Nat) (r0 : (List Int) → Int → Int → Int → Int → Option (Bool)) (l0 : List Int) (a1 : Int) (a2 : Int) : Option (Bool) := r0 l0 a1 a2 0 0
noncomputable def spec_l10Weights.f (k : Nat) (l0 : List Int) (a1 : Int) (a2 : Int) : Option (Bool) := spec_l10Weights.g k (spec_l10Weights.l0 k k) l0 a1 a2
noncomputable def S98 (k : Nat) : Does := ⟨[(false, [.dat (.list (.int .i64))]), (false, [.dat (.int .i64)]), (false, [.dat (.int .i64)])], [(false, [.dat .bool])], fun x => spec_l10Weights.f k x.1 x.2.1 x.2.2⟩
noncomputable def E98 (k : Nat) : En := ⟨tb, orcOf [(99, S99 k)], lvOf [(0, [(0, []), (1, []), (2, []), (7, []), (8, [])])], k, 0, lvOf [], []⟩
noncomputable def n98_0 (x0 : List Int) (x1 : Int) (x2 : Int) (x7 : Int) (x8 : Int) : St := ⟨36, lookA [(0, .dat (.list (.int .i64)) x0), (1, .dat (.int .i64) x1), (2, .dat (.int .i64) x2), (7, .dat (.int .i64) x7), (8, .dat (.int .i64) x8)], Go.V.look []⟩
def p98_0 : List Bool := [true, true, false, true, false]
theorem r98_0 (k : Nat) (rec : St → Option (Bool)) (v : (List Int) × Int × Int × Int × Int) : roundF (E98 k) (S98 k) Try.f98 p98_0 [] rec (n98_0 v.1 v.2.1 v.2.2.1 v.2.2.2.1 v.2.2.2.2) = spec_l10Weights.s0 k (fun a0 a1 a2 a3 a4 => rec (n98_0 a0 a1 a2 a3 a4)) v.1 v.2.1 v.2.2.1 v.2.2.2.1 v.2.2.2.2 := by
  kernel_rfl
theorem q98_0 (k : Nat) (n : Nat) : ∀ v : (List Int) × Int × Int × Int × Int, loopF (E98 k) (S98 k) Try.f98 p98_0 [] n (n98_0 v.1 v.2.1 v.2.2.1 v.2.2.2.1 v.2.2.2.2) = spec_l10Weights.l0 k n v.1 v.2.1 v.2.2.1 v.2.2.2.1 v.2.2.2.2 :=
  loopF_eq (E98 k) (S98 k) Try.f98 p98_0 [] (fun v : (List Int) × Int × Int × Int × Int => n98_0 v.1 v.2.1 v.2.2.1 v.2.2.2.1 v.2.2.2.2) (fun rec v => spec_l10Weights.s0 k (fun a0 a1 a2 a3 a4 => rec (a0, a1, a2, a3, a4)) v.1 v.2.1 v.2.2.1 v.2.2.2.1 v.2.2.2.2) (fun n v => spec_l10Weights.l0 k n v.1 v.2.1 v.2.2.1 v.2.2.2.1 v.2.2.2.2) (fun _ => rfl) (fun _ _ => rfl) (fun rec v => r98_0 k rec v) n
theorem e98 (k : Nat) (x : dens (flatC (S98 k).ps)) : funK (E98 k) (S98 k) Try.f98 x = (S98 k).fn x := by
  have h : funK (E98 k) (S98 k) Try.f98 x = spec_l10Weights.g k (fun a0 a1 a2 a3 a4 => loopF (E98 k) (S98 k) Try.f98 p98_0 [] k (n98_0 a0 a1 a2 a3 a4)) x.1 x.2.1 x.2.2 := by kernel_rfl
  rw [h]
  rw [show (fun a0 a1 a2 a3 a4 => loopF (E98 k) (S98 k) Try.f98 p98_0 [] k (n98_0 a0 a1 a2 a3 a4)) = spec_l10Weights.l0 k k from funext fun a0 => funext fun a1 => funext fun a2 => funext fun a3 => funext fun a4 => q98_0 k k (a0, a1, a2, a3, a4)]
  rfl
theorem M98 (k : Nat) : Meets Try.prog 98 (S98 k) := meets_of Try.func98 (by kernel_rfl) tbOk (orc_cons (M99 k) orc_nil) mixOk (fun x y h => (e98 k x).trans h) rfl

/-! spec_l10Wait: function 138 -/
noncomputable def spec_l10Wait.s0 (k : Nat) (r0 : (List Int) → Int → Int → Int → Int → Option (Int)) (x0 : List Int) (x1 : Int) (x2 : Int) (x7 : Int) (x8 : Int) : Option (Int) := if x8 < x7 then (if x7 = 0 then (none) else (if 0 ≤ (Int.tmod (wrap64 (x2 + x8)) x7) then (if (Int.tmod (wrap64 (x2 + x8)) x7) < (x0.length : Int) then (if (rd x0 (Int.tmod (wrap64 (x2 + x8)) x7)) = x1 then (some x8) else (r0 x0 x1 x2 x7 (wrap64 (x8 + 1)))) else (none)) else (none))) else (some (-1))
noncomputable def spec_l10Wait.l0 (k : Nat) : Nat → (List Int) → Int → Int → Int → Int → Option (Int)
  | 0, _, _, _, _, _ => none
  | n + 1, x0, x1, x2, x3, x4 => spec_l10Wait.s0 k (spec_l10Wait.l0 k n) x0 x1 x2 x3 x4
noncomputable def spec_l10Wait.g (k : Nat) (r0 : (List Int) → Int → Int → Int → Int → Option (Int)) (l0 : List Int) (a1 : Int) (a2 : Int) : Option (Int) := r0 l0 a1 a2 (l0.length : Int) 0
noncomputable def spec_l10Wait.f (k : Nat) (l0 : List Int) (a1 : Int) (a2 : Int) : Option (Int) := spec_l10Wait.g k (spec_l10Wait.l0 k k) l0 a1 a2
noncomputable def S138 (k : Nat) : Does := ⟨[(false, [.dat (.list (.int .i64))]), (false, [.dat (.int .i64)]), (false, [.dat (.int .i64)])], [(false, [.dat (.int .i64)])], fun x => spec_l10Wait.f k x.1 x.2.1 x.2.2⟩
noncomputable def E138 (k : Nat) : En := ⟨tb, orcOf [], lvOf [(0, [(0, []), (1, []), (2, []), (7, []), (8, [])])], k, 0, lvOf [], []⟩
noncomputable def n138_0 (x0 : List Int) (x1 : Int) (x2 : Int) (x7 : Int) (x8 : Int) : St := ⟨27, lookA [(0, .dat (.list (.int .i64)) x0), (1, .dat (.int .i64) x1), (2, .dat (.int .i64) x2), (7, .dat (.int .i64) x7), (8, .dat (.int .i64) x8)], Go.V.look []⟩
def p138_0 : List Bool := [true, true, false, true, false]
theorem r138_0 (k : Nat) (rec : St → Option (Int)) (v : (List Int) × Int × Int × Int × Int) : roundF (E138 k) (S138 k) Try.f138 p138_0 [] rec (n138_0 v.1 v.2.1 v.2.2.1 v.2.2.2.1 v.2.2.2.2) = spec_l10Wait.s0 k (fun a0 a1 a2 a3 a4 => rec (n138_0 a0 a1 a2 a3 a4)) v.1 v.2.1 v.2.2.1 v.2.2.2.1 v.2.2.2.2 := by
  kernel_rfl
theorem q138_0 (k : Nat) (n : Nat) : ∀ v : (List Int) × Int × Int × Int × Int, loopF (E138 k) (S138 k) Try.f138 p138_0 [] n (n138_0 v.1 v.2.1 v.2.2.1 v.2.2.2.1 v.2.2.2.2) = spec_l10Wait.l0 k n v.1 v.2.1 v.2.2.1 v.2.2.2.1 v.2.2.2.2 :=
  loopF_eq (E138 k) (S138 k) Try.f138 p138_0 [] (fun v : (List Int) × Int × Int × Int × Int => n138_0 v.1 v.2.1 v.2.2.1 v.2.2.2.1 v.2.2.2.2) (fun rec v => spec_l10Wait.s0 k (fun a0 a1 a2 a3 a4 => rec (a0, a1, a2, a3, a4)) v.1 v.2.1 v.2.2.1 v.2.2.2.1 v.2.2.2.2) (fun n v => spec_l10Wait.l0 k n v.1 v.2.1 v.2.2.1 v.2.2.2.1 v.2.2.2.2) (fun _ => rfl) (fun _ _ => rfl) (fun rec v => r138_0 k rec v) n
theorem e138 (k : Nat) (x : dens (flatC (S138 k).ps)) : funK (E138 k) (S138 k) Try.f138 x = (S138 k).fn x := by
  have h : funK (E138 k) (S138 k) Try.f138 x = spec_l10Wait.g k (fun a0 a1 a2 a3 a4 => loopF (E138 k) (S138 k) Try.f138 p138_0 [] k (n138_0 a0 a1 a2 a3 a4)) x.1 x.2.1 x.2.2 := by kernel_rfl
  rw [h]
  rw [show (fun a0 a1 a2 a3 a4 => loopF (E138 k) (S138 k) Try.f138 p138_0 [] k (n138_0 a0 a1 a2 a3 a4)) = spec_l10Wait.l0 k k from funext fun a0 => funext fun a1 => funext fun a2 => funext fun a3 => funext fun a4 => q138_0 k k (a0, a1, a2, a3, a4)]
  rfl
theorem M138 (k : Nat) : Meets Try.prog 138 (S138 k) := meets_of Try.func138 (by kernel_rfl) tbOk orc_nil mixOk (fun x y h => (e138 k x).trans h) rfl

/-! spec_l10Sum: function 136 -/
noncomputable def spec_l10Sum.s0 (k : Nat) (r0 : (List Int) → Int → Int → Int → Int → Option (Int)) (x0 : List Int) (x1 : Int) (x2 : Int) (x7 : Int) (x8 : Int) : Option (Int) := if x8 < (x0.length : Int) then ((spec_l10Wait.f k x0 x1 x8).bind fun t1 => (spec_l10Wait.f k x0 x2 x8).bind fun t2 => r0 x0 x1 x2 (wrap64 (x7 + (maxV t1 t2))) (wrap64 (x8 + 1))) else (some x7)
noncomputable def spec_l10Sum.l0 (k : Nat) : Nat → (List Int) → Int → Int → Int → Int → Option (Int)
  | 0, _, _, _, _, _ => none
  | n + 1, x0, x1, x2, x3, x4 => spec_l10Sum.s0 k (spec_l10Sum.l0 k n) x0 x1 x2 x3 x4
noncomputable def spec_l10Sum.g (k : Nat) (r0 : (List Int) → Int → Int → Int → Int → Option (Int)) (l0 : List Int) (a1 : Int) (a2 : Int) : Option (Int) := r0 l0 a1 a2 0 0
noncomputable def spec_l10Sum.f (k : Nat) (l0 : List Int) (a1 : Int) (a2 : Int) : Option (Int) := spec_l10Sum.g k (spec_l10Sum.l0 k k) l0 a1 a2
noncomputable def S136 (k : Nat) : Does := ⟨[(false, [.dat (.list (.int .i64))]), (false, [.dat (.int .i64)]), (false, [.dat (.int .i64)])], [(false, [.dat (.int .i64)])], fun x => spec_l10Sum.f k x.1 x.2.1 x.2.2⟩
noncomputable def E136 (k : Nat) : En := ⟨tb, orcOf [(138, S138 k)], lvOf [(0, [(0, []), (1, []), (2, []), (7, []), (8, [])])], k, 0, lvOf [], []⟩
noncomputable def n136_0 (x0 : List Int) (x1 : Int) (x2 : Int) (x7 : Int) (x8 : Int) : St := ⟨27, lookA [(0, .dat (.list (.int .i64)) x0), (1, .dat (.int .i64) x1), (2, .dat (.int .i64) x2), (7, .dat (.int .i64) x7), (8, .dat (.int .i64) x8)], Go.V.look []⟩
def p136_0 : List Bool := [true, true, false, true, false]
theorem r136_0 (k : Nat) (rec : St → Option (Int)) (v : (List Int) × Int × Int × Int × Int) : roundF (E136 k) (S136 k) Try.f136 p136_0 [] rec (n136_0 v.1 v.2.1 v.2.2.1 v.2.2.2.1 v.2.2.2.2) = spec_l10Sum.s0 k (fun a0 a1 a2 a3 a4 => rec (n136_0 a0 a1 a2 a3 a4)) v.1 v.2.1 v.2.2.1 v.2.2.2.1 v.2.2.2.2 := by
  kernel_rfl
theorem q136_0 (k : Nat) (n : Nat) : ∀ v : (List Int) × Int × Int × Int × Int, loopF (E136 k) (S136 k) Try.f136 p136_0 [] n (n136_0 v.1 v.2.1 v.2.2.1 v.2.2.2.1 v.2.2.2.2) = spec_l10Sum.l0 k n v.1 v.2.1 v.2.2.1 v.2.2.2.1 v.2.2.2.2 :=
  loopF_eq (E136 k) (S136 k) Try.f136 p136_0 [] (fun v : (List Int) × Int × Int × Int × Int => n136_0 v.1 v.2.1 v.2.2.1 v.2.2.2.1 v.2.2.2.2) (fun rec v => spec_l10Sum.s0 k (fun a0 a1 a2 a3 a4 => rec (a0, a1, a2, a3, a4)) v.1 v.2.1 v.2.2.1 v.2.2.2.1 v.2.2.2.2) (fun n v => spec_l10Sum.l0 k n v.1 v.2.1 v.2.2.1 v.2.2.2.1 v.2.2.2.2) (fun _ => rfl) (fun _ _ => rfl) (fun rec v => r136_0 k rec v) n
theorem e136 (k : Nat) (x : dens (flatC (S136 k).ps)) : funK (E136 k) (S136 k) Try.f136 x = (S136 k).fn x := by
  have h : funK (E136 k) (S136 k) Try.f136 x = spec_l10Sum.g k (fun a0 a1 a2 a3 a4 => loopF (E136 k) (S136 k) Try.f136 p136_0 [] k (n136_0 a0 a1 a2 a3 a4)) x.1 x.2.1 x.2.2 := by kernel_rfl
  rw [h]
  rw [show (fun a0 a1 a2 a3 a4 => loopF (E136 k) (S136 k) Try.f136 p136_0 [] k (n136_0 a0 a1 a2 a3 a4)) = spec_l10Sum.l0 k k from funext fun a0 => funext fun a1 => funext fun a2 => funext fun a3 => funext fun a4 => q136_0 k k (a0, a1, a2, a3, a4)]
  rfl
theorem M136 (k : Nat) : Meets Try.prog 136 (S136 k) := meets_of Try.func136 (by kernel_rfl) tbOk (orc_cons (M138 k) orc_nil) mixOk (fun x y h => (e136 k x).trans h) rfl

/-! spec_l10Mean: function 144 -/
noncomputable def spec_l10Mean.s0 (k : Nat) (r0 : (List Int) → (List Int) → Int → Int → Option (Int)) (x0 : List Int) (x1 : List Int) (x5 : Int) (x6 : Int) : Option (Int) := if x6 < (x1.length : Int) then (if 0 ≤ x6 then (if x6 < (x1.length : Int) then (if 0 < (rd x1 x6) then (if 0 ≤ x6 then (if x6 < (x1.length : Int) then ((spec_l10Sum.f k x0 x6 x6).bind fun t1 => r0 x0 x1 (wrap64 (x5 + (wrap64 ((rd x1 x6) * t1)))) (wrap64 (x6 + 1))) else (none)) else (none)) else (r0 x0 x1 x5 (wrap64 (x6 + 1)))) else (none)) else (none)) else (some x5)
noncomputable def spec_l10Mean.l0 (k : Nat) : Nat → (List Int) → (List Int) → Int → Int → Option (Int)
  | 0, _, _, _, _ => none
  | n + 1, x0, x1, x2, x3 => spec_l10Mean.s0 k (spec_l10Mean.l0 k n) x0 x1 x2 x3
noncomputable def spec_l10Mean.g (k : Nat) (r0 : (List Int) → (List Int) → Int → Int → Option (Int)) (l0 : List Int) (l1 : List Int) : Option (Int) := r0 l0 l1 0 0
noncomputable def spec_l10Mean.f (k : Nat) (l0 : List Int) (l1 : List Int) : Option (Int) := spec_l10Mean.g k (spec_l10Mean.l0 k k) l0 l1
noncomputable def S144 (k : Nat) : Does := ⟨[(false, [.dat (.list (.int .i64))]), (false, [.dat (.list (.int .i64))])], [(false, [.dat (.int .i64)])], fun x => spec_l10Mean.f k x.1 x.2⟩
noncomputable def E144 (k : Nat) : En := ⟨tb, orcOf [(136, S136 k)], lvOf [(0, [(0, []), (1, []), (5, []), (6, [])])], k, 0, lvOf [], []⟩
noncomputable def n144_0 (x0 : List Int) (x1 : List Int) (x5 : Int) (x6 : Int) : St := ⟨30, lookA [(0, .dat (.list (.int .i64)) x0), (1, .dat (.list (.int .i64)) x1), (5, .dat (.int .i64) x5), (6, .dat (.int .i64) x6)], Go.V.look []⟩
def p144_0 : List Bool := [true, true, false, true, false]
theorem r144_0 (k : Nat) (rec : St → Option (Int)) (v : (List Int) × (List Int) × Int × Int) : roundF (E144 k) (S144 k) Try.f144 p144_0 [] rec (n144_0 v.1 v.2.1 v.2.2.1 v.2.2.2) = spec_l10Mean.s0 k (fun a0 a1 a2 a3 => rec (n144_0 a0 a1 a2 a3)) v.1 v.2.1 v.2.2.1 v.2.2.2 := by
  kernel_rfl
theorem q144_0 (k : Nat) (n : Nat) : ∀ v : (List Int) × (List Int) × Int × Int, loopF (E144 k) (S144 k) Try.f144 p144_0 [] n (n144_0 v.1 v.2.1 v.2.2.1 v.2.2.2) = spec_l10Mean.l0 k n v.1 v.2.1 v.2.2.1 v.2.2.2 :=
  loopF_eq (E144 k) (S144 k) Try.f144 p144_0 [] (fun v : (List Int) × (List Int) × Int × Int => n144_0 v.1 v.2.1 v.2.2.1 v.2.2.2) (fun rec v => spec_l10Mean.s0 k (fun a0 a1 a2 a3 => rec (a0, a1, a2, a3)) v.1 v.2.1 v.2.2.1 v.2.2.2) (fun n v => spec_l10Mean.l0 k n v.1 v.2.1 v.2.2.1 v.2.2.2) (fun _ => rfl) (fun _ _ => rfl) (fun rec v => r144_0 k rec v) n
theorem e144 (k : Nat) (x : dens (flatC (S144 k).ps)) : funK (E144 k) (S144 k) Try.f144 x = (S144 k).fn x := by
  have h : funK (E144 k) (S144 k) Try.f144 x = spec_l10Mean.g k (fun a0 a1 a2 a3 => loopF (E144 k) (S144 k) Try.f144 p144_0 [] k (n144_0 a0 a1 a2 a3)) x.1 x.2 := by kernel_rfl
  rw [h]
  rw [show (fun a0 a1 a2 a3 => loopF (E144 k) (S144 k) Try.f144 p144_0 [] k (n144_0 a0 a1 a2 a3)) = spec_l10Mean.l0 k k from funext fun a0 => funext fun a1 => funext fun a2 => funext fun a3 => q144_0 k k (a0, a1, a2, a3)]
  rfl
theorem M144 (k : Nat) : Meets Try.prog 144 (S144 k) := meets_of Try.func144 (by kernel_rfl) tbOk (orc_cons (M136 k) orc_nil) mixOk (fun x y h => (e144 k x).trans h) rfl

/-! spec_l01Own: function 155 -/
noncomputable def spec_l01Own.f (l0 : List Int) : Option ((List Int)) := if 0 + l0.length ≤ 1099511627776 then (some ([] ++ l0)) else (none)
noncomputable def S155 (k : Nat) : Does := ⟨[(false, [.dat (.list (.int .i64))])], [(false, [.own 2 (.int .i64)])], fun x => spec_l01Own.f x⟩
noncomputable def E155 (k : Nat) : En := ⟨tb, orcOf [], lvOf [], k, 0, lvOf [], []⟩
theorem e155 (k : Nat) (x : dens (flatC (S155 k).ps)) : funK (E155 k) (S155 k) Try.f155 x = (S155 k).fn x := by
  kernel_rfl
theorem M155 (k : Nat) : Meets Try.prog 155 (S155 k) := meets_of Try.func155 (by kernel_rfl) tbOk orc_nil mixOk (fun x y h => (e155 k x).trans h) rfl

/-! spec_l10Best: function 100 -/
noncomputable def Sr100 (rf : (List Int) → (List Int) → Int → Option ((List Int) × Int)) : Does := ⟨[(false, [.dat (.list (.int .i64))]), (false, [.dat (.list (.int .i64))]), (false, [.dat (.int .i64)])], [(false, [.dat (.list (.int .i64))]), (false, [.dat (.int .i64)])], fun x => rf x.1 x.2.1 x.2.2⟩
noncomputable def spec_l10Best.s1 (k : Nat) (rf : (List Int) → (List Int) → Int → Option ((List Int) × Int)) (r1 : (List Int) → (List Int) → Int → (List Int) → Int → Int → Option ((List Int) × Int)) (x0 : List Int) (x1 : List Int) (x2 : Int) (x9 : List Int) (x10 : Int) (x11 : Int) : Option ((List Int) × Int) := if x11 < (x0.length : Int) then ((spec_l01Own.f x1).bind fun t3 => if t3.length + 1 ≤ 1099511627776 then ((rf x0 (t3 ++ [x11]) x2).bind fun t4 => if 0 ≤ t4.2 then (if x10 < 0 then (r1 x0 x1 x2 t4.1 t4.2 (wrap64 (x11 + 1))) else (if t4.2 < x10 then (r1 x0 x1 x2 t4.1 t4.2 (wrap64 (x11 + 1))) else (r1 x0 x1 x2 x9 x10 (wrap64 (x11 + 1))))) else (r1 x0 x1 x2 x9 x10 (wrap64 (x11 + 1)))) else (none)) else (some (x9, x10))
noncomputable def spec_l10Best.l1 (k : Nat) (rf : (List Int) → (List Int) → Int → Option ((List Int) × Int)) : Nat → (List Int) → (List Int) → Int → (List Int) → Int → Int → Option ((List Int) × Int)
  | 0, _, _, _, _, _, _ => none
  | n + 1, x0, x1, x2, x3, x4, x5 => spec_l10Best.s1 k rf (spec_l10Best.l1 k rf n) x0 x1 x2 x3 x4 x5
noncomputable def spec_l10Best.s0 (k : Nat) (rf : (List Int) → (List Int) → Int → Option ((List Int) × Int)) (r0 : (List Int) → (List Int) → Int → Option ((List Int) × Int)) (x0 : List Int) (x1 : List Int) (x8 : Int) : Option ((List Int) × Int) := if x8 < (x0.length : Int) then ((spec_l10Wait.f k x1 x8 0).bind fun t1 => if t1 < 0 then (some ([], (-1))) else (r0 x0 x1 (wrap64 (x8 + 1)))) else ((spec_l10Mean.f k x1 x0).bind fun t2 => some (x1, t2))
noncomputable def spec_l10Best.l0 (k : Nat) (rf : (List Int) → (List Int) → Int → Option ((List Int) × Int)) : Nat → (List Int) → (List Int) → Int → Option ((List Int) × Int)
  | 0, _, _, _ => none
  | n + 1, x0, x1, x2 => spec_l10Best.s0 k rf (spec_l10Best.l0 k rf n) x0 x1 x2
noncomputable def spec_l10Best.g (k : Nat) (rf : (List Int) → (List Int) → Int → Option ((List Int) × Int)) (r0 : (List Int) → (List Int) → Int → Option ((List Int) × Int)) (r1 : (List Int) → (List Int) → Int → (List Int) → Int → Int → Option ((List Int) × Int)) (l0 : List Int) (l1 : List Int) (a2 : Int) : Option ((List Int) × Int) := if (l1.length : Int) = a2 then (r0 l0 l1 0) else (r1 l0 l1 a2 [] (-1) 0)
noncomputable def spec_l10Best.b (k : Nat) (rf : (List Int) → (List Int) → Int → Option ((List Int) × Int)) (l0 : List Int) (l1 : List Int) (a2 : Int) : Option ((List Int) × Int) := spec_l10Best.g k rf (spec_l10Best.l0 k rf k) (spec_l10Best.l1 k rf k) l0 l1 a2
noncomputable def Sb100 (k : Nat) (rf : (List Int) → (List Int) → Int → Option ((List Int) × Int)) : Does := ⟨[(false, [.dat (.list (.int .i64))]), (false, [.dat (.list (.int .i64))]), (false, [.dat (.int .i64)])], [(false, [.dat (.list (.int .i64))]), (false, [.dat (.int .i64)])], fun x => spec_l10Best.b k rf x.1 x.2.1 x.2.2⟩
noncomputable def E100 (k : Nat) (rf : (List Int) → (List Int) → Int → Option ((List Int) × Int)) : En := ⟨tb, orcOf [(138, S138 k), (144, S144 k), (155, S155 k), (100, Sr100 rf)], lvOf [(0, [(0, []), (1, []), (8, [])]), (2, [(0, []), (1, []), (2, []), (9, [.data (.int .i64)]), (10, []), (11, [])])], k, 0, lvOf [], []⟩
noncomputable def n100_0 (x0 : List Int) (x1 : List Int) (x8 : Int) : St := ⟨65, lookA [(0, .dat (.list (.int .i64)) x0), (1, .dat (.list (.int .i64)) x1), (8, .dat (.int .i64) x8)], Go.V.look []⟩
def p100_0 : List Bool := [true, false, true, false, false, true, false]
noncomputable def n100_1 (x0 : List Int) (x1 : List Int) (x2 : Int) (x9 : List Int) (x10 : Int) (x11 : Int) : St := ⟨65, lookA [(0, .dat (.list (.int .i64)) x0), (1, .dat (.list (.int .i64)) x1), (2, .dat (.int .i64) x2), (9, .dat (.list (.int .i64)) x9), (10, .dat (.int .i64) x10), (11, .dat (.int .i64) x11)], Go.V.look []⟩
def p100_1 : List Bool := [true, true, true, false, true, false]
theorem r100_1 (k : Nat) (rf : (List Int) → (List Int) → Int → Option ((List Int) × Int)) (rec : St → Option ((List Int) × Int)) (v : (List Int) × (List Int) × Int × (List Int) × Int × Int) : roundF (E100 k rf) (Sb100 k rf) Try.f100 p100_1 [] rec (n100_1 v.1 v.2.1 v.2.2.1 v.2.2.2.1 v.2.2.2.2.1 v.2.2.2.2.2) = spec_l10Best.s1 k rf (fun a0 a1 a2 a3 a4 a5 => rec (n100_1 a0 a1 a2 a3 a4 a5)) v.1 v.2.1 v.2.2.1 v.2.2.2.1 v.2.2.2.2.1 v.2.2.2.2.2 := by
  kernel_rfl
theorem q100_1 (k : Nat) (rf : (List Int) → (List Int) → Int → Option ((List Int) × Int)) (n : Nat) : ∀ v : (List Int) × (List Int) × Int × (List Int) × Int × Int, loopF (E100 k rf) (Sb100 k rf) Try.f100 p100_1 [] n (n100_1 v.1 v.2.1 v.2.2.1 v.2.2.2.1 v.2.2.2.2.1 v.2.2.2.2.2) = spec_l10Best.l1 k rf n v.1 v.2.1 v.2.2.1 v.2.2.2.1 v.2.2.2.2.1 v.2.2.2.2.2 :=
  loopF_eq (E100 k rf) (Sb100 k rf) Try.f100 p100_1 [] (fun v : (List Int) × (List Int) × Int × (List Int) × Int × Int => n100_1 v.1 v.2.1 v.2.2.1 v.2.2.2.1 v.2.2.2.2.1 v.2.2.2.2.2) (fun rec v => spec_l10Best.s1 k rf (fun a0 a1 a2 a3 a4 a5 => rec (a0, a1, a2, a3, a4, a5)) v.1 v.2.1 v.2.2.1 v.2.2.2.1 v.2.2.2.2.1 v.2.2.2.2.2) (fun n v => spec_l10Best.l1 k rf n v.1 v.2.1 v.2.2.1 v.2.2.2.1 v.2.2.2.2.1 v.2.2.2.2.2) (fun _ => rfl) (fun _ _ => rfl) (fun rec v => r100_1 k rf rec v) n
theorem r100_0 (k : Nat) (rf : (List Int) → (List Int) → Int → Option ((List Int) × Int)) (rec : St → Option ((List Int) × Int)) (v : (List Int) × (List Int) × Int) : roundF (E100 k rf) (Sb100 k rf) Try.f100 p100_0 [] rec (n100_0 v.1 v.2.1 v.2.2) = spec_l10Best.s0 k rf (fun a0 a1 a2 => rec (n100_0 a0 a1 a2)) v.1 v.2.1 v.2.2 := by
  kernel_rfl
theorem q100_0 (k : Nat) (rf : (List Int) → (List Int) → Int → Option ((List Int) × Int)) (n : Nat) : ∀ v : (List Int) × (List Int) × Int, loopF (E100 k rf) (Sb100 k rf) Try.f100 p100_0 [] n (n100_0 v.1 v.2.1 v.2.2) = spec_l10Best.l0 k rf n v.1 v.2.1 v.2.2 :=
  loopF_eq (E100 k rf) (Sb100 k rf) Try.f100 p100_0 [] (fun v : (List Int) × (List Int) × Int => n100_0 v.1 v.2.1 v.2.2) (fun rec v => spec_l10Best.s0 k rf (fun a0 a1 a2 => rec (a0, a1, a2)) v.1 v.2.1 v.2.2) (fun n v => spec_l10Best.l0 k rf n v.1 v.2.1 v.2.2) (fun _ => rfl) (fun _ _ => rfl) (fun rec v => r100_0 k rf rec v) n
theorem e100 (k : Nat) (rf : (List Int) → (List Int) → Int → Option ((List Int) × Int)) (x : dens (flatC (Sb100 k rf).ps)) : funK (E100 k rf) (Sb100 k rf) Try.f100 x = (Sb100 k rf).fn x := by
  have h : funK (E100 k rf) (Sb100 k rf) Try.f100 x = spec_l10Best.g k rf (fun a0 a1 a2 => loopF (E100 k rf) (Sb100 k rf) Try.f100 p100_0 [] k (n100_0 a0 a1 a2)) (fun a0 a1 a2 a3 a4 a5 => loopF (E100 k rf) (Sb100 k rf) Try.f100 p100_1 [] k (n100_1 a0 a1 a2 a3 a4 a5)) x.1 x.2.1 x.2.2 := by kernel_rfl
  rw [h]
  rw [show (fun a0 a1 a2 => loopF (E100 k rf) (Sb100 k rf) Try.f100 p100_0 [] k (n100_0 a0 a1 a2)) = spec_l10Best.l0 k rf k from funext fun a0 => funext fun a1 => funext fun a2 => q100_0 k rf k (a0, a1, a2)]
  rw [show (fun a0 a1 a2 a3 a4 a5 => loopF (E100 k rf) (Sb100 k rf) Try.f100 p100_1 [] k (n100_1 a0 a1 a2 a3 a4 a5)) = spec_l10Best.l1 k rf k from funext fun a0 => funext fun a1 => funext fun a2 => funext fun a3 => funext fun a4 => funext fun a5 => q100_1 k rf k (a0, a1, a2, a3, a4, a5)]
  rfl
noncomputable def spec_l10Best.r (k : Nat) : Nat → (List Int) → (List Int) → Int → Option ((List Int) × Int)
  | 0, _, _, _ => none
  | n + 1, x0, x1, x2 => spec_l10Best.b k (spec_l10Best.r k n) x0 x1 x2
noncomputable def spec_l10Best.f (k : Nat) (l0 : List Int) (l1 : List Int) (a2 : Int) : Option ((List Int) × Int) := spec_l10Best.r k k l0 l1 a2
noncomputable def S100 (k : Nat) : Does := ⟨[(false, [.dat (.list (.int .i64))]), (false, [.dat (.list (.int .i64))]), (false, [.dat (.int .i64)])], [(false, [.dat (.list (.int .i64))]), (false, [.dat (.int .i64)])], fun x => spec_l10Best.f k x.1 x.2.1 x.2.2⟩
theorem m100 (k : Nat) : ∀ n, Meets Try.prog 100 (Sr100 (spec_l10Best.r k n))
  | 0 => meets_none Try.func100 (by kernel_rfl) (by kernel_rfl) (fun _ => rfl)
  | n + 1 => show Meets Try.prog 100 (Sb100 k (spec_l10Best.r k n)) from meets_of Try.func100 (by kernel_rfl) tbOk (orc_cons (M138 k) (orc_cons (M144 k) (orc_cons (M155 k) (orc_cons (m100 k n) orc_nil)))) mixOk (fun x y h => (e100 k (spec_l10Best.r k n) x).trans h) rfl
theorem M100 (k : Nat) : Meets Try.prog 100 (S100 k) := m100 k k

/-! spec_BestTurns: function 23 -/
noncomputable def spec_BestTurns.f (k : Nat) (l0 : List Int) (a1 : Int) : Option ((List Int) × Int) := (spec_l10Weights.f k l0 1 3).bind fun t1 => if t1 = true then ((spec_l01In.f a1 1 8).bind fun t2 => if t2 = true then (if a1 < (l0.length : Int) then (some ([], 3)) else ((spec_l10Best.f k l0 [] a1).bind fun t3 => some (t3.1, 0))) else (some ([], 2))) else (some ([], 2))
noncomputable def S23 (k : Nat) : Does := ⟨[(false, [.dat (.list (.int .i64))]), (false, [.dat (.int .i64)])], [(false, [.dat (.list (.int .i64))]), (false, [.dat (.int .i64)])], fun x => spec_BestTurns.f k x.1 x.2⟩
noncomputable def E23 (k : Nat) : En := ⟨tb, orcOf [(98, S98 k), (99, S99 k), (100, S100 k)], lvOf [], k, 0, lvOf [], []⟩
theorem e23 (k : Nat) (x : dens (flatC (S23 k).ps)) : funK (E23 k) (S23 k) Try.f23 x = (S23 k).fn x := by
  kernel_rfl
theorem M23 (k : Nat) : Meets Try.prog 23 (S23 k) := meets_of Try.func23 (by kernel_rfl) tbOk (orc_cons (M98 k) (orc_cons (M99 k) (orc_cons (M100 k) orc_nil))) mixOk (fun x y h => (e23 k x).trans h) rfl

/-! laws_likeInts: function 38 -/
noncomputable def laws_likeInts.s0 (k : Nat) (r0 : (List Int) → (List Int) → Int → Option (Bool)) (x0 : List Int) (x1 : List Int) (x5 : Int) : Option (Bool) := if x5 < (x0.length : Int) then (if 0 ≤ x5 then (if x5 < (x0.length : Int) then (if 0 ≤ x5 then (if x5 < (x1.length : Int) then (if (rd x0 x5) = (rd x1 x5) then (r0 x0 x1 (wrap64 (x5 + 1))) else (some false)) else (none)) else (none)) else (none)) else (none)) else (some true)
noncomputable def laws_likeInts.l0 (k : Nat) : Nat → (List Int) → (List Int) → Int → Option (Bool)
  | 0, _, _, _ => none
  | n + 1, x0, x1, x2 => laws_likeInts.s0 k (laws_likeInts.l0 k n) x0 x1 x2
noncomputable def laws_likeInts.g (k : Nat) (r0 : (List Int) → (List Int) → Int → Option (Bool)) (l0 : List Int) (l1 : List Int) : Option (Bool) := if (l0.length : Int) = (l1.length : Int) then (r0 l0 l1 0) else (some false)
noncomputable def laws_likeInts.f (k : Nat) (l0 : List Int) (l1 : List Int) : Option (Bool) := laws_likeInts.g k (laws_likeInts.l0 k k) l0 l1
noncomputable def S38 (k : Nat) : Does := ⟨[(false, [.dat (.list (.int .i64))]), (false, [.dat (.list (.int .i64))])], [(false, [.dat .bool])], fun x => laws_likeInts.f k x.1 x.2⟩
noncomputable def E38 (k : Nat) : En := ⟨tb, orcOf [], lvOf [(0, [(0, []), (1, []), (5, [])])], k, 0, lvOf [], []⟩
noncomputable def n38_0 (x0 : List Int) (x1 : List Int) (x5 : Int) : St := ⟨26, lookA [(0, .dat (.list (.int .i64)) x0), (1, .dat (.list (.int .i64)) x1), (5, .dat (.int .i64) x5)], Go.V.look []⟩
def p38_0 : List Bool := [true, true, false, true, false]
theorem r38_0 (k : Nat) (rec : St → Option (Bool)) (v : (List Int) × (List Int) × Int) : roundF (E38 k) (S38 k) Try.f38 p38_0 [] rec (n38_0 v.1 v.2.1 v.2.2) = laws_likeInts.s0 k (fun a0 a1 a2 => rec (n38_0 a0 a1 a2)) v.1 v.2.1 v.2.2 := by
  kernel_rfl
theorem q38_0 (k : Nat) (n : Nat) : ∀ v : (List Int) × (List Int) × Int, loopF (E38 k) (S38 k) Try.f38 p38_0 [] n (n38_0 v.1 v.2.1 v.2.2) = laws_likeInts.l0 k n v.1 v.2.1 v.2.2 :=
  loopF_eq (E38 k) (S38 k) Try.f38 p38_0 [] (fun v : (List Int) × (List Int) × Int => n38_0 v.1 v.2.1 v.2.2) (fun rec v => laws_likeInts.s0 k (fun a0 a1 a2 => rec (a0, a1, a2)) v.1 v.2.1 v.2.2) (fun n v => laws_likeInts.l0 k n v.1 v.2.1 v.2.2) (fun _ => rfl) (fun _ _ => rfl) (fun rec v => r38_0 k rec v) n
theorem e38 (k : Nat) (x : dens (flatC (S38 k).ps)) : funK (E38 k) (S38 k) Try.f38 x = (S38 k).fn x := by
  have h : funK (E38 k) (S38 k) Try.f38 x = laws_likeInts.g k (fun a0 a1 a2 => loopF (E38 k) (S38 k) Try.f38 p38_0 [] k (n38_0 a0 a1 a2)) x.1 x.2 := by kernel_rfl
  rw [h]
  rw [show (fun a0 a1 a2 => loopF (E38 k) (S38 k) Try.f38 p38_0 [] k (n38_0 a0 a1 a2)) = laws_likeInts.l0 k k from funext fun a0 => funext fun a1 => funext fun a2 => q38_0 k k (a0, a1, a2)]
  rfl
theorem M38 (k : Nat) : Meets Try.prog 38 (S38 k) := meets_of Try.func38 (by kernel_rfl) tbOk orc_nil mixOk (fun x y h => (e38 k x).trans h) rfl

/-! spec_DrawSharesByWeights: function 75 -/
noncomputable def spec_DrawSharesByWeights.f (k : Nat) (l0 : List Int) : Option ((List Int) × Int) := (spec_l01From.f k l0).bind fun t1 => (spec_l10DrawWeights.f k (t1.1, t1.2.1, t1.2.2) 8).bind fun t2 => (spec_l01Pick.f (t2.2.1, t2.2.2.1, t2.2.2.2) [8, 20, 120]).bind fun t3 => (spec_l01Near.f (t3.2.1, t3.2.2.1, t3.2.2.2) t3.1).bind fun t4 => some (t2.1, t4.1)
noncomputable def S75 (k : Nat) : Does := ⟨[(false, [.dat (.list (.int .u8))])], [(false, [.own 2 (.int .i64)]), (false, [.dat (.int .i64)])], fun x => spec_DrawSharesByWeights.f k x⟩
noncomputable def E75 (k : Nat) : En := ⟨tb, orcOf [(126, S126 k), (141, S141 k), (128, S128 k), (127, S127 k)], lvOf [], k, 0, lvOf [], []⟩
theorem e75 (k : Nat) (x : dens (flatC (S75 k).ps)) : funK (E75 k) (S75 k) Try.f75 x = (S75 k).fn x := by
  kernel_rfl
theorem M75 (k : Nat) : Meets Try.prog 75 (S75 k) := meets_of Try.func75 (by kernel_rfl) tbOk (orc_cons (M126 k) (orc_cons (M141 k) (orc_cons (M128 k) (orc_cons (M127 k) orc_nil)))) mixOk (fun x y h => (e75 k x).trans h) rfl

/-! bits_Mul64: function 188 -/
noncomputable def bits_Mul64.f (a0 : Int) (a1 : Int) : Option (Int × Int) := some ((IntKind.wrap .u64 ((IntKind.wrap .u64 ((IntKind.wrap .u64 ((shrV .u64 a0 32) * (shrV .u64 a1 32))) + (shrV .u64 (IntKind.wrap .u64 ((IntKind.wrap .u64 ((shrV .u64 a0 32) * (andV .u64 a1 4294967295))) + (shrV .u64 (IntKind.wrap .u64 ((andV .u64 a0 4294967295) * (andV .u64 a1 4294967295))) 32))) 32))) + (shrV .u64 (IntKind.wrap .u64 ((andV .u64 (IntKind.wrap .u64 ((IntKind.wrap .u64 ((shrV .u64 a0 32) * (andV .u64 a1 4294967295))) + (shrV .u64 (IntKind.wrap .u64 ((andV .u64 a0 4294967295) * (andV .u64 a1 4294967295))) 32))) 4294967295) + (IntKind.wrap .u64 ((andV .u64 a0 4294967295) * (shrV .u64 a1 32))))) 32))), (IntKind.wrap .u64 (a0 * a1)))
noncomputable def S188 (k : Nat) : Does := ⟨[(false, [.dat (.int .u64)]), (false, [.dat (.int .u64)])], [(false, [.dat (.int .u64)]), (false, [.dat (.int .u64)])], fun x => bits_Mul64.f x.1 x.2⟩
noncomputable def E188 (k : Nat) : En := ⟨tb, orcOf [], lvOf [], k, 0, lvOf [], []⟩
theorem e188 (k : Nat) (x : dens (flatC (S188 k).ps)) : funK (E188 k) (S188 k) Try.f188 x = (S188 k).fn x := by
  kernel_rfl
theorem M188 (k : Nat) : Meets Try.prog 188 (S188 k) := meets_of Try.func188 (by kernel_rfl) tbOk orc_nil mixOk (fun x y h => (e188 k x).trans h) rfl

/-! bits_Mul: function 178 -/
noncomputable def bits_Mul.f (a0 : Int) (a1 : Int) : Option (Int × Int) := (bits_Mul64.f a0 a1).bind fun t1 => some (t1.1, t1.2)
noncomputable def S178 (k : Nat) : Does := ⟨[(false, [.dat (.int .u64)]), (false, [.dat (.int .u64)])], [(false, [.dat (.int .u64)]), (false, [.dat (.int .u64)])], fun x => bits_Mul.f x.1 x.2⟩
noncomputable def E178 (k : Nat) : En := ⟨tb, orcOf [(188, S188 k)], lvOf [], k, 0, lvOf [], []⟩
theorem e178 (k : Nat) (x : dens (flatC (S178 k).ps)) : funK (E178 k) (S178 k) Try.f178 x = (S178 k).fn x := by
  kernel_rfl
theorem M178 (k : Nat) : Meets Try.prog 178 (S178 k) := meets_of Try.func178 (by kernel_rfl) tbOk (orc_cons (M188 k) orc_nil) mixOk (fun x y h => (e178 k x).trans h) rfl

/-! slices_Repeat_int64_int64: function 146 -/
structure Aside0 (p : Prop) : Prop where mk :: (out : p)
theorem rep_mul {n : Nat} (hn : n < 4294967296) : bits_Mul.f 1 (n : Int) = some (0, (n : Int)) := by
  have w : ∀ x : Int, 0 ≤ x → x < 18446744073709551616 → IntKind.u64.wrap x = x := fun x h0 h1 => IntWalk.u64_in x ⟨h0, by omega⟩
  have m0 : ∀ b : Nat, IntKind.u64.bits = 64 := fun _ => rfl
  have a1 : andV .u64 1 4294967295 = 1 := by rw [andV_eq]; decide
  have a2 : andV .u64 (n : Int) 4294967295 = n := by
    rw [andV_eq, wrapV_eq]
    have e : ((BitVec.ofInt IntKind.u64.bits (n : Int) &&& BitVec.ofInt IntKind.u64.bits 4294967295).toNat) = n := by
      show ((BitVec.ofInt 64 (n : Int) &&& BitVec.ofInt 64 4294967295).toNat) = n
      rw [BitVec.toNat_and]
      have e1 : (BitVec.ofInt 64 (n : Int)).toNat = n := by simp; omega
      have e2 : (BitVec.ofInt 64 4294967295).toNat = 2 ^ 32 - 1 := by decide
      rw [e1, e2, Nat.and_two_pow_sub_one_eq_mod, Nat.mod_eq_of_lt (by omega)]
    rw [e]; exact w _ (by omega) (by omega)
  have s1 : shrV .u64 1 32 = 0 := by rw [shrV_eq]; decide
  have s2 : shrV .u64 (n : Int) 32 = 0 := by
    rw [shrV_eq]
    show (n : Int).fdiv 4294967296 = 0
    rw [Int.fdiv_eq_ediv_of_nonneg _ (by omega)]; omega
  have s3 : shrV .u64 0 32 = 0 := by rw [shrV_eq]; decide
  have a0 : andV .u64 0 4294967295 = 0 := by rw [andV_eq]; decide
  unfold bits_Mul.f bits_Mul64.f
  simp only [s1, s2, a1, a2, Int.zero_mul, Int.one_mul, Int.mul_zero, Option.bind_some, w 0 (by omega) (by omega), w n (by omega) (by omega), s3, Int.add_zero, a0]
theorem rep_mulc {n : Nat} (hn : n < 4294967296) (w : World) : Calls Try.prog 178 #[.int .u64 1, .int .u64 (n : Int)] w fun e w' => e = .returned (.tuple #[.int .u64 0, .int .u64 (n : Int)]) ∧ Below w.heap.size w w' := by
  refine ((M178 0).calls w (fun _ => False) [.int .u64 1, .int .u64 (n : Int)] [.int .u64 1, .int .u64 (n : Int)] (show Int × Int from (1, (n : Int))) (show Int × Int from (0, (n : Int))) ?_ (fun _ h => h.elim) ?_ ?_ ?_).mono ?_
  · exact ⟨_, _, _, rfl, rfl, rfl, rfl, _, _, _, rfl, rfl, rfl, rfl, rfl, rfl⟩
  · exact ⟨_, _, rfl, rfl, _, rfl, rfl⟩
  · exact List.nodup_nil
  · exact rep_mul hn
  · rintro e w' ⟨v, vs, rc, rfl, hg, hc, hf, hp, -, -⟩
    obtain ⟨v1, vs1, cs1, -, rfl, -, rfl, v2, vs2, cs2, -, rfl, -, rfl, rfl, rfl⟩ := hc
    obtain ⟨u1, us, e1, h1, u2, e2, h2⟩ := hp
    have e1 : [v1, v2] = u1 :: us := e1
    obtain ⟨rfl, rfl⟩ := List.cons.inj e1
    obtain ⟨rfl, -⟩ := List.cons.inj e2
    have h1 : [v1] = [Value.int .u64 0] := h1
    have h2 : [v2] = [Value.int .u64 (n : Int)] := h2
    cases h1; cases h2
    have hg : v = _ := hg
    subst hg
    exact ⟨rfl, hf.os, hf.tape, hf.output, hf.size, fun k hk => hf.block k hk fun h => by cases (show k ∈ ([] : List Nat) from h)⟩

def repSt (v : Int) (n c : Nat) : List Value := List.replicate c (.int .i64 v) ++ List.replicate (n - c) (.int .i64 0)
def repCs (v : Int) (d : Nat) : List Value := List.replicate d (.int .i64 v)
theorem repSt_len (v : Int) (n c : Nat) (h : c ≤ n) : (repSt v n c).length = n := by simp [repSt]; omega
theorem repSt_zero (v : Int) (n : Nat) : (madeCells #[Value.int .i64 0] n) = (repSt v n 0).toArray := by
  apply Array.ext'
  apply List.ext_getElem
  · simp [repSt, madeCells]
  · intro i h1 h2
    simp [repSt, madeCells, Nat.mod_one]
theorem repSt_splice (v : Int) (n c d : Nat) (h : c + d ≤ n) : splice (repSt v n c) c (repCs v d) = repSt v n (c + d) := by
  unfold splice repSt repCs
  rw [List.take_append_of_le_length (by simp), List.take_of_length_le (by simp), List.length_replicate, List.drop_append, List.drop_eq_nil_of_le (by simp), List.nil_append, List.drop_replicate, List.length_replicate, ← List.append_assoc, List.replicate_append_replicate]
  congr 2
  omega
theorem repCell (v : Int) (n c : Nat) (w : World) (g : Nat) (hg : w.heap[g]? = some (.cells (repSt v n c).toArray 2 (0, 0))) (d : Nat) (hd : d ≤ c) (ad : Addr) (ha : ad = ⟨g, 0, none⟩) : ∀ j u, (repCs v d)[j]? = some u → w.cell? (ad.add j) = some u := by
  intro j u hu
  subst ha
  have hj : j < d := by
    rcases Nat.lt_or_ge j d with h | h
    · exact h
    · simp [repCs, List.getElem?_eq_none (show (List.replicate d (Value.int IntKind.i64 v)).length ≤ j by simpa using h)] at hu
  simp [repCs, hj] at hu
  subst hu
  have e : (repSt v n c)[j]? = some (.int .i64 v) := by
    simp only [repSt]
    rw [List.getElem?_append_left (by simp; omega), List.getElem?_replicate, if_pos (by omega)]
  have ea : (⟨g, 0, none⟩ : Addr).add j = ⟨g, j, none⟩ := by unfold Addr.add; split <;> simp_all
  rw [ea]
  simp [World.cell?, hg, e]

set_option maxHeartbeats 2000000 in
set_option maxRecDepth 100000 in
theorem rep_calls (A0 : Option Addr) (ad0 : Addr) (hA : A0 = some ad0) (c0 : Nat) (v : Int) (n : Nat) (w : World) (hr0 : w.cell? ad0 = some (.int .i64 v)) (hn : n ≤ 1048576) :
    Calls Try.prog 146 #[.slice A0 1 c0, .int .i64 n] w fun e w' => ∃ g, e = .returned (.slice (some ⟨g, 0, none⟩) n n) ∧ w.heap.size ≤ g ∧ w'.heap[g]? = some (.cells (repSt v n n).toArray 2 (0, 0)) ∧ Below w.heap.size w w' := by
  have HM := Aside0.mk (rep_mulc (n := n) (by omega))
  have hinfo : (Try.prog.info? 2).map (fun i => (i.zero, i.size, i.bytes)) = some (some (.int .i64 0), 1, 8) := by kernel_rfl
  have hu : Try.prog.underlying 22 = some (.slice 2) := by kernel_rfl
  have hmk : ∀ W : World, (Instr.makeSlice 22 (.int .i64 (n : Int)) (.int .i64 (n : Int))).run Try.prog W = .ok (.slice (some ⟨W.heap.size, 0, none⟩) n n) (W.alloc (.cells (madeCells #[.int .i64 0] n) 2)) :=
    run_make_row' 22 2 (.int .i64 0) 8 hu hinfo rfl .i64 .i64 n (by omega) (by omega)
  have c1 : decide (9223372036854775807 < (n : Int)) = false := decide_eq_false (by omega)
  have c2 : decide ((n : Int) < 0) = false := decide_eq_false (by omega)
  have HA0 : Aside0 (∀ W : World, Below w.heap.size w W → 0 < (repCs v (Nat.min 1 n)).length → ∃ ad, A0 = some ad ∧ ∀ j u, (repCs v (Nat.min 1 n))[j]? = some u → W.cell? (ad.add j) = some u) := ⟨fun W hW hp => by
    refine ⟨ad0, hA, fun j u hu => ?_⟩
    have hj : j < Nat.min 1 n := by
      rcases Nat.lt_or_ge j (Nat.min 1 n) with h | h
      · exact h
      · rw [repCs, List.getElem?_eq_none (by simpa using h)] at hu; cases hu
    have hm : Nat.min 1 n ≤ 1 := Nat.min_le_left 1 n
    have hj0 : j = 0 := by omega
    subst hj0
    rw [repCs, List.getElem?_replicate, if_pos hj] at hu
    obtain rfl := Option.some.inj hu
    have ea : ad0.add 0 = ad0 := by cases ad0; unfold Addr.add; split <;> simp_all
    rw [ea, hW.cell (World.block_lt_of_cell? w _ hr0)]
    exact hr0⟩
  have HL : Aside0 ((repCs v (Nat.min 1 n)).length = Nat.min 1 n) := ⟨by simp [repCs]⟩
  have HF : Aside0 (0 + (repCs v (Nat.min 1 n)).length ≤ (repSt v n 0).length) := ⟨by rw [repSt_len v n 0 (by omega), HL.out]; have : Nat.min 1 n ≤ n := Nat.min_le_right 1 n; omega⟩
  have HO : Aside0 (∀ d, ∀ u ∈ repCs v d, u.oneCell' = true) := ⟨fun d u hu => by rw [(List.mem_replicate.mp hu).2]; rfl⟩
  have hsz : (Try.prog.info? 2).map (·.size) = some 1 := by kernel_rfl
  have HU := Aside0.mk hu
  clear hr0 hA hinfo hu
  go_enter Try.func146, Try.ntmps146
  go_wp2_with fail
  refine (HM.out _).mono ?_
  rintro e wb ⟨rfl, hwb⟩
  have HB0 := Aside0.mk hwb
  clear hwb
  have HG : Aside0 ((wb.alloc (.cells (madeCells #[Value.int .i64 0] n) 2)).heap[wb.heap.size]? = some (.cells (repSt v n 0).toArray 2 (0, 0))) := ⟨by rw [repSt_zero v n]; exact heap_alloc_new wb _⟩
  go_wp2_with ((refine wpList_copy_splice rfl (.tmp 31) (.tmp 32) 22 22 rfl 2 HU.out hsz _ _ n n 1 c0 rfl rfl wb.heap.size 0 (repSt v n 0) 2 HG.out (repCs v (Nat.min 1 n)) HL.out (fun hp => ⟨rfl, HA0.out _ (HB0.out.alloc HB0.out.size _) hp⟩) HF.out (HO.out _) w.heap.size w (HB0.out.alloc HB0.out.size _) HB0.out.size ?_; intro w1 hg1 hb1))
  replace hg1 : Hid (w1.heap[wb.heap.size]? = some (.cells (repSt v n (Nat.min 1 n)).toArray 2 (0, 0))) := by
    have h := hg1
    rw [repSt_splice v n 0 (Nat.min 1 n) (by have : Nat.min 1 n ≤ n := Nat.min_le_right 1 n; omega), Nat.zero_add] at h
    exact h
  have hmin : Nat.min 1 n ≤ n := Nat.min_le_right 1 n
  have hmin1 : n = 0 ∨ 1 ≤ Nat.min 1 n := by
    rcases Nat.eq_zero_or_pos n with h | h
    · exact .inl h
    · exact .inr (Nat.le_min.mpr ⟨Nat.le_refl _, h⟩)
  go_loopg [8] n (fun gg s8 wr => ∃ c : Nat, c ≤ n ∧ Aside0 (n = 0 ∨ 1 ≤ c) ∧ n - c ≤ gg ∧ s8 = .int .i64 c ∧ Aside0 (wr.heap[wb.heap.size]? = some (.cells (repSt v n c).toArray 2 (0, 0))) ∧ Aside0 (Below w.heap.size w wr))
  case atStart => exact ⟨Nat.min 1 n, hmin, ⟨hmin1⟩, by omega, by rw [HL.out], ⟨hg1⟩, ⟨hb1⟩⟩
  case round =>
    clear HG HA0 hmk
    obtain ⟨c, hc, H1, hgg, rfl, HG, HB⟩ := hrel
    by_cases hlt : c < n
    · have hltz : (c : Int) < (n : Int) := by omega
      have hne : ¬ n = c := by omega
      have HL2 : Aside0 ((repCs v (Nat.min c (n - c))).length = Nat.min c (n - c)) := ⟨by simp [repCs]⟩
      have hm1 : Nat.min c (n - c) ≤ c := Nat.min_le_left _ _
      have hm2 : Nat.min c (n - c) ≤ n - c := Nat.min_le_right _ _
      have HF2 : Aside0 (c + (repCs v (Nat.min c (n - c))).length ≤ (repSt v n c).length) := ⟨by rw [repSt_len v n c hc, HL2.out]; omega⟩
      have HC2 : Aside0 (∀ W : World, W.heap = wr.heap → ∀ j u, (repCs v (Nat.min c (n - c)))[j]? = some u → W.cell? ((⟨wb.heap.size, 0, none⟩ : Addr).add j) = some u) := ⟨fun W hW => repCell v n c W wb.heap.size (by rw [hW]; exact HG.out) _ hm1 _ rfl⟩
      go_wp2
      go_region_law ((refine step_copy_splice rfl (.tmp 41) (.tmp 44) 22 22 rfl 2 HU.out hsz (some ⟨wb.heap.size, c, none⟩) (some ⟨wb.heap.size, 0, none⟩) (n - c) (n - c) c n (by simp [Act.eval, Act.put]) (by simp [Act.eval, Act.put]) wb.heap.size c (repSt v n c) 2 (by exact HG.out) (repCs v (Nat.min c (n - c))) HL2.out (fun _ => ⟨rfl, _, rfl, HC2.out _ rfl⟩) HF2.out (HO.out _) w.heap.size w (by first | exact HB.out | exact HB.out.drew) HB0.out.size ?_; intro w4 hg4 hb4))
      have hg5 : w4.heap[wb.heap.size]? = some (.cells (repSt v n (c + Nat.min c (n - c))).toArray 2 (0, 0)) := by
        have h := hg4
        rw [repSt_splice v n c (Nat.min c (n - c)) (by omega)] at h
        exact h
      have HG5 := Aside0.mk hg5
      have HB5 := Aside0.mk hb4
      clear hg5 hg4 hb4
      have hpos : 1 ≤ Nat.min c (n - c) := Nat.le_min.mpr ⟨by have := H1.out; omega, by omega⟩
      have HW := Aside0.mk (show IntKind.i64.wrap ((c : Int) + ((repCs v (Nat.min c (n - c))).length : Int)) = ((c + Nat.min c (n - c) : Nat) : Int) by rw [HL2.out, IntWalk.i64_in _ (by omega)]; omega)
      go_wp2
      go_roundg (n - (c + Nat.min c (n - c)))
      case measure => omega
      case rel => exact ⟨c + Nat.min c (n - c), by omega, ⟨.inr (by have := H1.out; omega)⟩, Nat.le_refl _, by rw [← HW.out], HG5, HB5⟩
    · have c3 : decide ((c : Int) < (n : Int)) = false := decide_eq_false (by omega)
      have c4 : decide (c < n) = false := decide_eq_false hlt
      have hcn : c = n := by omega
      have HN : Aside0 (repSt v n c = repSt v n n) := ⟨by rw [hcn]⟩
      clear hcn
      go_wp2
      go_ret
      exact ⟨wb.heap.size, rfl, HB0.out.size, by rw [← HN.out]; exact HG.out, HB.out⟩

noncomputable def slices_Repeat_int64_int64.f (l0 : List Int) (a1 : Int) : Option (List Int) :=
  match l0 with
  | [v] => if 0 ≤ a1 ∧ a1 ≤ 1048576 then some (List.replicate a1.toNat v) else none
  | _ => none
noncomputable def S146 (k : Nat) : Does := ⟨[(false, [.dat (.list (.int .i64))]), (false, [.dat (.int .i64)])], [(false, [.own 2 (.int .i64)])], fun x => slices_Repeat_int64_int64.f x.1 x.2⟩
theorem rep_elems (w : World) (N : Nat → Prop) (v : Int) : ∀ n, Elems w N (.int .i64) (List.replicate n v) (List.replicate n (Value.int .i64 v))
  | 0 => rfl
  | n + 1 => ⟨[Value.int .i64 v], List.replicate n (Value.int .i64 v), rfl, rfl, rep_elems w N v n⟩
theorem rep_inv {l0 : List Int} {a1 : Int} {y : List Int} (h : slices_Repeat_int64_int64.f l0 a1 = some y) : ∃ (v : Int) (n : Nat), l0 = [v] ∧ a1 = (n : Int) ∧ n ≤ 1048576 ∧ y = List.replicate n v := by
  unfold slices_Repeat_int64_int64.f at h
  split at h
  · split at h
    · rename_i hb
      cases h
      obtain ⟨n, rfl⟩ := Int.eq_ofNat_of_zero_le hb.1
      exact ⟨_, n, rfl, rfl, by omega, rfl⟩
    · cases h
  · cases h
theorem M146 (k : Nat) : Meets Try.prog 146 (S146 k) := by
  refine ⟨fun args w => by
    have hf := Try.func146
    have h1 : (Try.f146.name == "runtime.NumGoroutine") = false := by kernel_rfl
    have h1 : Try.f146.name ≠ "runtime.NumGoroutine" := by simpa using h1
    obtain ⟨c, hc⟩ := Option.isSome_iff_exists.1 (show Try.f146.body.isSome = true by kernel_rfl)
    simp [callFunc, hf, h1, hc, mark], ?_⟩
  intro w X args cells x y hc hX hp hn hy
  obtain ⟨v1, vs1, cs1, -, rfl, -, rfl, v2, vs2, cs2, -, rfl, -, rfl, rfl, rfl⟩ := hc
  obtain ⟨u1, us, e1, h1, u2, e2, h2⟩ := hp
  obtain ⟨rfl, rfl⟩ := List.cons.inj e1
  obtain ⟨rfl, -⟩ := List.cons.inj e2
  obtain ⟨l0, a1⟩ := x
  obtain ⟨v, n, e5, e6, hb, rfl⟩ := rep_inv hy
  have e5 : l0 = [v] := e5
  have e6 : a1 = (n : Int) := e6
  subst e5; subst e6
  obtain ⟨A, cap, e3, hcap, -, hel⟩ := h1
  have e4 : [v2] = [Value.int .i64 (n : Int)] := h2
  cases e3; cases e4
  obtain ⟨ad, hA, c, hlc, hat, hrc⟩ := hel 0 (Nat.zero_lt_one)
  have hrc : c = [Value.int .i64 v] := hrc
  subst hrc
  have hcell := (hat 0 (by simp)).2
  have ea : (ad.add (0 * (Ty.int IntKind.i64).size)).add 0 = ad := by
    rw [Nat.zero_mul]
    have e : ad.add 0 = ad := by cases ad; unfold Addr.add; split <;> simp_all
    rw [e, e]
  rw [ea] at hcell
  refine (rep_calls A ad hA cap v n w hcell hb).mono ?_
  rintro e w' ⟨g, rfl, hg, hrow, hB⟩
  refine ⟨_, [.slice (some ⟨g, 0, none⟩) n n], [.slice (some ⟨g, 0, none⟩) n n], rfl, rfl, ⟨_, _, _, rfl, rfl, rfl, rfl, rfl, rfl⟩, ⟨hB.os, hB.tape, hB.output, hB.size, fun r hr _ => hB.block r hr⟩, ?_, ?_, ?_⟩
  · refine ⟨_, rfl, List.replicate n (Value.int .i64 v), ?_, ?_⟩
    · show w'.ownsRow 0 2 1 _ (List.replicate n v).length _
      rw [List.length_replicate]
      refine ⟨by simp, .inr ⟨g, n, _, rfl, Nat.zero_le _, hrow, Nat.le_refl _, Nat.le_trans hb (by decide), ?_, ?_⟩⟩
      · simp [repSt]
      · simp [repSt]
    · exact rep_elems _ _ v n
  · show ([g] : List Nat).Nodup
    simp
  · intro r hr
    have hr : r ∈ [g] := hr
    rw [List.mem_singleton.1 hr]; exact hg

/-! impl_SharesByWeights: function 76 -/
noncomputable def impl_SharesByWeights.s1 (k : Nat) (r0 : (List Int) → (List Int) → Int → Int → Option ((List Int) × Int)) (r1 : (List Int) → (List Int) → Int → Int → Int → Int → Int → Option ((List Int) × Int)) (x0 : List Int) (x6 : List Int) (x7 : Int) (x31 : Int) (x32 : Int) (x35 : Int) (x36 : Int) : Option ((List Int) × Int) := if x36 < x35 then (if 0 ≤ x36 then (if x36 < (x6.length : Int) then (if 0 ≤ x36 then (if x36 < (x0.length : Int) then (if 0 ≤ x7 then (if x7 < (x6.length : Int) then (if 0 ≤ x7 then (if x7 < (x6.length : Int) then (if 0 ≤ x7 then (if x7 < (x0.length : Int) then (if (wrap64 ((wrap64 ((rd x0 x7) * (rd x6 x36))) * (wrap64 ((rd x6 x36) + 1)))) < (wrap64 ((wrap64 ((rd x0 x36) * (rd x6 x7))) * (wrap64 ((rd x6 x7) + 1)))) then (r1 x0 x6 x36 x31 x32 x35 (wrap64 (x36 + 1))) else (r1 x0 x6 x7 x31 x32 x35 (wrap64 (x36 + 1)))) else (none)) else (none)) else (none)) else (none)) else (none)) else (none)) else (none)) else (none)) else (none)) else (none)) else (if 0 ≤ x7 then (if x7 < (x6.length : Int) then (if 0 ≤ x7 then (if x7 < (x6.length : Int) then (r0 x0 (x6.set x7.toNat (wrap64 ((rd x6 x7) + 1))) x31 (wrap64 (x32 + 1))) else (none)) else (none)) else (none)) else (none))
noncomputable def impl_SharesByWeights.l1 (k : Nat) (r0 : (List Int) → (List Int) → Int → Int → Option ((List Int) × Int)) : Nat → (List Int) → (List Int) → Int → Int → Int → Int → Int → Option ((List Int) × Int)
  | 0, _, _, _, _, _, _, _ => none
  | n + 1, x0, x1, x2, x3, x4, x5, x6 => impl_SharesByWeights.s1 k r0 (impl_SharesByWeights.l1 k r0 n) x0 x1 x2 x3 x4 x5 x6
noncomputable def impl_SharesByWeights.s0 (k : Nat) (r0 : (List Int) → (List Int) → Int → Int → Option ((List Int) × Int)) (r1 : (List Int) → (List Int) → Int → Int → Int → Int → Int → Option ((List Int) × Int)) (x0 : List Int) (x6 : List Int) (x31 : Int) (x32 : Int) : Option ((List Int) × Int) := if x32 < x31 then (r1 x0 x6 0 x31 x32 (x6.length : Int) 0) else (some (x6, 0))
noncomputable def impl_SharesByWeights.l0 (k : Nat) : Nat → (List Int) → (List Int) → Int → Int → Option ((List Int) × Int)
  | 0, _, _, _, _ => none
  | n + 1, x0, x1, x2, x3 => impl_SharesByWeights.s0 k (impl_SharesByWeights.l0 k n) (impl_SharesByWeights.l1 k (impl_SharesByWeights.l0 k n) k) x0 x1 x2 x3
noncomputable def impl_SharesByWeights.g (k : Nat) (r0 : (List Int) → (List Int) → Int → Int → Option ((List Int) × Int)) (l0 : List Int) (a1 : Int) : Option ((List Int) × Int) := (impl_areWeights.f k l0).bind fun t1 => if t1 = true then ((impl_within.f a1 1 120).bind fun t2 => if (!decide (t2 = true)) = true then (some ([], 2)) else ((impl_length_int64.f l0).bind fun t3 => if (decide (a1 < t3)) = true then (some ([], 3)) else ((slices_Repeat_int64_int64.f [1] (l0.length : Int)).bind fun t4 => (impl_length_int64.f l0).bind fun t5 => r0 l0 t4 (wrap64 (a1 - t5)) 0))) else (some ([], 2))
noncomputable def impl_SharesByWeights.f (k : Nat) (l0 : List Int) (a1 : Int) : Option ((List Int) × Int) := impl_SharesByWeights.g k (impl_SharesByWeights.l0 k k) l0 a1
noncomputable def S76 (k : Nat) : Does := ⟨[(false, [.dat (.list (.int .i64))]), (false, [.dat (.int .i64)])], [(false, [.own 2 (.int .i64)]), (false, [.dat (.int .i64)])], fun x => impl_SharesByWeights.f k x.1 x.2⟩
noncomputable def E76 (k : Nat) : En := ⟨tb, orcOf [(102, S102 k), (104, S104 k), (101, S101 k), (146, S146 k)], lvOf [(1, [(0, []), (6, []), (31, []), (32, [])]), (3, [(0, []), (6, []), (7, []), (31, []), (32, []), (34, []), (35, []), (36, [])])], k, 0, lvOf [], []⟩
noncomputable def n76_0 (x0 : List Int) (x6 : List Int) (x31 : Int) (x32 : Int) : St := ⟨76, lookA [(0, .dat (.list (.int .i64)) x0), (6, .own 0), (31, .dat (.int .i64) x31), (32, .dat (.int .i64) x32)], Go.V.look [(0, .flat 2 (.int .i64) x6)]⟩
def p76_0 : List Bool := [true, true, true, false, true, false]
noncomputable def n76_1 (x0 : List Int) (x6 : List Int) (x7 : Int) (x31 : Int) (x32 : Int) (x35 : Int) (x36 : Int) : St := ⟨76, lookA [(0, .dat (.list (.int .i64)) x0), (6, .own 0), (7, .dat (.int .i64) x7), (31, .dat (.int .i64) x31), (32, .dat (.int .i64) x32), (34, .own 0), (35, .dat (.int .i64) x35), (36, .dat (.int .i64) x36)], Go.V.look [(0, .flat 2 (.int .i64) x6)]⟩
def p76_1 : List Bool := [true, true, true, false, true, false, false, true, true, false, false, true, false, true, false]
theorem r76_1 (k : Nat) (R0 : St → Option ((List Int) × Int)) (rec : St → Option ((List Int) × Int)) (v : (List Int) × (List Int) × Int × Int × Int × Int × Int) : roundF (E76 k) (S76 k) Try.f76 p76_1 [R0] rec (n76_1 v.1 v.2.1 v.2.2.1 v.2.2.2.1 v.2.2.2.2.1 v.2.2.2.2.2.1 v.2.2.2.2.2.2) = impl_SharesByWeights.s1 k (fun a0 a1 a2 a3 => R0 (n76_0 a0 a1 a2 a3)) (fun a0 a1 a2 a3 a4 a5 a6 => rec (n76_1 a0 a1 a2 a3 a4 a5 a6)) v.1 v.2.1 v.2.2.1 v.2.2.2.1 v.2.2.2.2.1 v.2.2.2.2.2.1 v.2.2.2.2.2.2 := by
  kernel_rfl
theorem q76_1 (k : Nat) (R0 : St → Option ((List Int) × Int)) (n : Nat) : ∀ v : (List Int) × (List Int) × Int × Int × Int × Int × Int, loopF (E76 k) (S76 k) Try.f76 p76_1 [R0] n (n76_1 v.1 v.2.1 v.2.2.1 v.2.2.2.1 v.2.2.2.2.1 v.2.2.2.2.2.1 v.2.2.2.2.2.2) = impl_SharesByWeights.l1 k (fun a0 a1 a2 a3 => R0 (n76_0 a0 a1 a2 a3)) n v.1 v.2.1 v.2.2.1 v.2.2.2.1 v.2.2.2.2.1 v.2.2.2.2.2.1 v.2.2.2.2.2.2 :=
  loopF_eq (E76 k) (S76 k) Try.f76 p76_1 [R0] (fun v : (List Int) × (List Int) × Int × Int × Int × Int × Int => n76_1 v.1 v.2.1 v.2.2.1 v.2.2.2.1 v.2.2.2.2.1 v.2.2.2.2.2.1 v.2.2.2.2.2.2) (fun rec v => impl_SharesByWeights.s1 k (fun a0 a1 a2 a3 => R0 (n76_0 a0 a1 a2 a3)) (fun a0 a1 a2 a3 a4 a5 a6 => rec (a0, a1, a2, a3, a4, a5, a6)) v.1 v.2.1 v.2.2.1 v.2.2.2.1 v.2.2.2.2.1 v.2.2.2.2.2.1 v.2.2.2.2.2.2) (fun n v => impl_SharesByWeights.l1 k (fun a0 a1 a2 a3 => R0 (n76_0 a0 a1 a2 a3)) n v.1 v.2.1 v.2.2.1 v.2.2.2.1 v.2.2.2.2.1 v.2.2.2.2.2.1 v.2.2.2.2.2.2) (fun _ => rfl) (fun _ _ => rfl) (fun rec v => r76_1 k R0 rec v) n
theorem r76_0 (k : Nat) (rec : St → Option ((List Int) × Int)) (G1 : (List Int) → (List Int) → Int → Int → Int → Int → Int → Option ((List Int) × Int)) (h1 : ∀ a0 a1 a2 a3 a4 a5 a6, loopF (E76 k) (S76 k) Try.f76 p76_1 [rec] k (n76_1 a0 a1 a2 a3 a4 a5 a6) = G1 a0 a1 a2 a3 a4 a5 a6) (v : (List Int) × (List Int) × Int × Int) : roundF (E76 k) (S76 k) Try.f76 p76_0 [] rec (n76_0 v.1 v.2.1 v.2.2.1 v.2.2.2) = impl_SharesByWeights.s0 k (fun a0 a1 a2 a3 => rec (n76_0 a0 a1 a2 a3)) G1 v.1 v.2.1 v.2.2.1 v.2.2.2 := by
  obtain rfl : (fun a0 a1 a2 a3 a4 a5 a6 => loopF (E76 k) (S76 k) Try.f76 p76_1 [rec] k (n76_1 a0 a1 a2 a3 a4 a5 a6)) = G1 := funext fun a0 => funext fun a1 => funext fun a2 => funext fun a3 => funext fun a4 => funext fun a5 => funext fun a6 => h1 a0 a1 a2 a3 a4 a5 a6
  kernel_rfl
theorem q76_0 (k : Nat) (n : Nat) : ∀ v : (List Int) × (List Int) × Int × Int, loopF (E76 k) (S76 k) Try.f76 p76_0 [] n (n76_0 v.1 v.2.1 v.2.2.1 v.2.2.2) = impl_SharesByWeights.l0 k n v.1 v.2.1 v.2.2.1 v.2.2.2 :=
  loopF_eq (E76 k) (S76 k) Try.f76 p76_0 [] (fun v : (List Int) × (List Int) × Int × Int => n76_0 v.1 v.2.1 v.2.2.1 v.2.2.2) (fun rec v => impl_SharesByWeights.s0 k (fun a0 a1 a2 a3 => rec (a0, a1, a2, a3)) (impl_SharesByWeights.l1 k (fun a0 a1 a2 a3 => rec (a0, a1, a2, a3)) k) v.1 v.2.1 v.2.2.1 v.2.2.2) (fun n v => impl_SharesByWeights.l0 k n v.1 v.2.1 v.2.2.1 v.2.2.2) (fun _ => rfl) (fun _ _ => rfl) (fun rec v => r76_0 k rec _ (fun a0 a1 a2 a3 a4 a5 a6 => q76_1 k rec k (a0, a1, a2, a3, a4, a5, a6)) v) n
theorem e76 (k : Nat) (x : dens (flatC (S76 k).ps)) : funK (E76 k) (S76 k) Try.f76 x = (S76 k).fn x := by
  have h : funK (E76 k) (S76 k) Try.f76 x = impl_SharesByWeights.g k (fun a0 a1 a2 a3 => loopF (E76 k) (S76 k) Try.f76 p76_0 [] k (n76_0 a0 a1 a2 a3)) x.1 x.2 := by kernel_rfl
  rw [h]
  rw [show (fun a0 a1 a2 a3 => loopF (E76 k) (S76 k) Try.f76 p76_0 [] k (n76_0 a0 a1 a2 a3)) = impl_SharesByWeights.l0 k k from funext fun a0 => funext fun a1 => funext fun a2 => funext fun a3 => q76_0 k k (a0, a1, a2, a3)]
  rfl
theorem M76 (k : Nat) : Meets Try.prog 76 (S76 k) := meets_of Try.func76 (by kernel_rfl) tbOk (orc_cons (M102 k) (orc_cons (M104 k) (orc_cons (M101 k) (orc_cons (M146 k) orc_nil)))) mixOk (fun x y h => (e76 k x).trans h) rfl

/-! spec_SharesByWeights: function 77 -/
noncomputable def spec_SharesByWeights.s2 (k : Nat) (r1 : (List Int) → (List Int) → Int → Option ((List Int) × Int)) (r2 : (List Int) → (List Int) → Int → Int → Int → Option ((List Int) × Int)) (x0 : List Int) (x6 : List Int) (x8 : Int) (x9 : Int) (x10 : Int) : Option ((List Int) × Int) := if x10 < (x6.length : Int) then (if 0 ≤ x10 then (if x10 < (x0.length : Int) then (if 0 ≤ x9 then (if x9 < (x6.length : Int) then (if 0 ≤ x9 then (if x9 < (x6.length : Int) then (if 0 ≤ x9 then (if x9 < (x0.length : Int) then (if 0 ≤ x10 then (if x10 < (x6.length : Int) then (if 0 ≤ x10 then (if x10 < (x6.length : Int) then (if (wrap64 ((wrap64 ((rd x0 x9) * (rd x6 x10))) * (wrap64 ((rd x6 x10) + 1)))) < (wrap64 ((wrap64 ((rd x0 x10) * (rd x6 x9))) * (wrap64 ((rd x6 x9) + 1)))) then (r2 x0 x6 x8 x10 (wrap64 (x10 + 1))) else (r2 x0 x6 x8 x9 (wrap64 (x10 + 1)))) else (none)) else (none)) else (none)) else (none)) else (none)) else (none)) else (none)) else (none)) else (none)) else (none)) else (none)) else (none)) else (if 0 ≤ x9 then (if x9 < (x6.length : Int) then (if 0 ≤ x9 then (if x9 < (x6.length : Int) then (r1 x0 (x6.set x9.toNat (wrap64 ((rd x6 x9) + 1))) (wrap64 (x8 - 1))) else (none)) else (none)) else (none)) else (none))
noncomputable def spec_SharesByWeights.l2 (k : Nat) (r1 : (List Int) → (List Int) → Int → Option ((List Int) × Int)) : Nat → (List Int) → (List Int) → Int → Int → Int → Option ((List Int) × Int)
  | 0, _, _, _, _, _ => none
  | n + 1, x0, x1, x2, x3, x4 => spec_SharesByWeights.s2 k r1 (spec_SharesByWeights.l2 k r1 n) x0 x1 x2 x3 x4
noncomputable def spec_SharesByWeights.s1 (k : Nat) (r1 : (List Int) → (List Int) → Int → Option ((List Int) × Int)) (r2 : (List Int) → (List Int) → Int → Int → Int → Option ((List Int) × Int)) (x0 : List Int) (x6 : List Int) (x8 : Int) : Option ((List Int) × Int) := if 0 < x8 then (r2 x0 x6 x8 0 1) else (some (x6, 0))
noncomputable def spec_SharesByWeights.l1 (k : Nat) : Nat → (List Int) → (List Int) → Int → Option ((List Int) × Int)
  | 0, _, _, _ => none
  | n + 1, x0, x1, x2 => spec_SharesByWeights.s1 k (spec_SharesByWeights.l1 k n) (spec_SharesByWeights.l2 k (spec_SharesByWeights.l1 k n) k) x0 x1 x2
noncomputable def spec_SharesByWeights.s0 (k : Nat) (r0 : (List Int) → Int → (List Int) → Int → Option ((List Int) × Int)) (r1 : (List Int) → (List Int) → Int → Option ((List Int) × Int)) (x0 : List Int) (x1 : Int) (x6 : List Int) (x7 : Int) : Option ((List Int) × Int) := if x7 < (x0.length : Int) then (if x6.length + 1 ≤ 1099511627776 then (r0 x0 x1 (x6 ++ [1]) (wrap64 (x7 + 1))) else (none)) else (r1 x0 x6 (wrap64 (x1 - (x0.length : Int))))
noncomputable def spec_SharesByWeights.l0 (k : Nat) : Nat → (List Int) → Int → (List Int) → Int → Option ((List Int) × Int)
  | 0, _, _, _, _ => none
  | n + 1, x0, x1, x2, x3 => spec_SharesByWeights.s0 k (spec_SharesByWeights.l0 k n) (spec_SharesByWeights.l1 k k) x0 x1 x2 x3
noncomputable def spec_SharesByWeights.g (k : Nat) (r0 : (List Int) → Int → (List Int) → Int → Option ((List Int) × Int)) (l0 : List Int) (a1 : Int) : Option ((List Int) × Int) := (spec_l10Weights.f k l0 0 8).bind fun t1 => if t1 = true then ((spec_l01In.f a1 1 120).bind fun t2 => if t2 = true then (if a1 < (l0.length : Int) then (some ([], 3)) else (r0 l0 a1 [] 0)) else (some ([], 2))) else (some ([], 2))
noncomputable def spec_SharesByWeights.f (k : Nat) (l0 : List Int) (a1 : Int) : Option ((List Int) × Int) := spec_SharesByWeights.g k (spec_SharesByWeights.l0 k k) l0 a1
noncomputable def S77 (k : Nat) : Does := ⟨[(false, [.dat (.list (.int .i64))]), (false, [.dat (.int .i64)])], [(false, [.own 2 (.int .i64)]), (false, [.dat (.int .i64)])], fun x => spec_SharesByWeights.f k x.1 x.2⟩
noncomputable def E77 (k : Nat) : En := ⟨tb, orcOf [(98, S98 k), (99, S99 k)], lvOf [(0, [(0, []), (1, []), (6, []), (7, [])]), (2, [(0, []), (6, []), (8, [])]), (4, [(0, []), (6, []), (8, []), (9, []), (10, [])])], k, 0, lvOf [], []⟩
noncomputable def n77_0 (x0 : List Int) (x1 : Int) (x6 : List Int) (x7 : Int) : St := ⟨86, lookA [(0, .dat (.list (.int .i64)) x0), (1, .dat (.int .i64) x1), (6, .own 0), (7, .dat (.int .i64) x7)], Go.V.look [(0, .flat 2 (.int .i64) x6)]⟩
def p77_0 : List Bool := [true, true, true, true, false, true, false]
noncomputable def n77_1 (x0 : List Int) (x6 : List Int) (x8 : Int) : St := ⟨86, lookA [(0, .dat (.list (.int .i64)) x0), (6, .own 0), (8, .dat (.int .i64) x8)], Go.V.look [(0, .flat 2 (.int .i64) x6)]⟩
def p77_1 : List Bool := [true, true, true, true, true, false, true, false]
noncomputable def n77_2 (x0 : List Int) (x6 : List Int) (x8 : Int) (x9 : Int) (x10 : Int) : St := ⟨86, lookA [(0, .dat (.list (.int .i64)) x0), (6, .own 0), (8, .dat (.int .i64) x8), (9, .dat (.int .i64) x9), (10, .dat (.int .i64) x10)], Go.V.look [(0, .flat 2 (.int .i64) x6)]⟩
def p77_2 : List Bool := [true, true, true, true, true, false, true, false, false, true, false, false, true, false, true, false]
theorem r77_2 (k : Nat) (R1 : St → Option ((List Int) × Int)) (rec : St → Option ((List Int) × Int)) (v : (List Int) × (List Int) × Int × Int × Int) : roundF (E77 k) (S77 k) Try.f77 p77_2 [R1] rec (n77_2 v.1 v.2.1 v.2.2.1 v.2.2.2.1 v.2.2.2.2) = spec_SharesByWeights.s2 k (fun a0 a1 a2 => R1 (n77_1 a0 a1 a2)) (fun a0 a1 a2 a3 a4 => rec (n77_2 a0 a1 a2 a3 a4)) v.1 v.2.1 v.2.2.1 v.2.2.2.1 v.2.2.2.2 := by
  kernel_rfl
theorem q77_2 (k : Nat) (R1 : St → Option ((List Int) × Int)) (n : Nat) : ∀ v : (List Int) × (List Int) × Int × Int × Int, loopF (E77 k) (S77 k) Try.f77 p77_2 [R1] n (n77_2 v.1 v.2.1 v.2.2.1 v.2.2.2.1 v.2.2.2.2) = spec_SharesByWeights.l2 k (fun a0 a1 a2 => R1 (n77_1 a0 a1 a2)) n v.1 v.2.1 v.2.2.1 v.2.2.2.1 v.2.2.2.2 :=
  loopF_eq (E77 k) (S77 k) Try.f77 p77_2 [R1] (fun v : (List Int) × (List Int) × Int × Int × Int => n77_2 v.1 v.2.1 v.2.2.1 v.2.2.2.1 v.2.2.2.2) (fun rec v => spec_SharesByWeights.s2 k (fun a0 a1 a2 => R1 (n77_1 a0 a1 a2)) (fun a0 a1 a2 a3 a4 => rec (a0, a1, a2, a3, a4)) v.1 v.2.1 v.2.2.1 v.2.2.2.1 v.2.2.2.2) (fun n v => spec_SharesByWeights.l2 k (fun a0 a1 a2 => R1 (n77_1 a0 a1 a2)) n v.1 v.2.1 v.2.2.1 v.2.2.2.1 v.2.2.2.2) (fun _ => rfl) (fun _ _ => rfl) (fun rec v => r77_2 k R1 rec v) n
theorem r77_1 (k : Nat) (rec : St → Option ((List Int) × Int)) (G2 : (List Int) → (List Int) → Int → Int → Int → Option ((List Int) × Int)) (h2 : ∀ a0 a1 a2 a3 a4, loopF (E77 k) (S77 k) Try.f77 p77_2 [rec] k (n77_2 a0 a1 a2 a3 a4) = G2 a0 a1 a2 a3 a4) (v : (List Int) × (List Int) × Int) : roundF (E77 k) (S77 k) Try.f77 p77_1 [] rec (n77_1 v.1 v.2.1 v.2.2) = spec_SharesByWeights.s1 k (fun a0 a1 a2 => rec (n77_1 a0 a1 a2)) G2 v.1 v.2.1 v.2.2 := by
  obtain rfl : (fun a0 a1 a2 a3 a4 => loopF (E77 k) (S77 k) Try.f77 p77_2 [rec] k (n77_2 a0 a1 a2 a3 a4)) = G2 := funext fun a0 => funext fun a1 => funext fun a2 => funext fun a3 => funext fun a4 => h2 a0 a1 a2 a3 a4
  kernel_rfl
theorem q77_1 (k : Nat) (n : Nat) : ∀ v : (List Int) × (List Int) × Int, loopF (E77 k) (S77 k) Try.f77 p77_1 [] n (n77_1 v.1 v.2.1 v.2.2) = spec_SharesByWeights.l1 k n v.1 v.2.1 v.2.2 :=
  loopF_eq (E77 k) (S77 k) Try.f77 p77_1 [] (fun v : (List Int) × (List Int) × Int => n77_1 v.1 v.2.1 v.2.2) (fun rec v => spec_SharesByWeights.s1 k (fun a0 a1 a2 => rec (a0, a1, a2)) (spec_SharesByWeights.l2 k (fun a0 a1 a2 => rec (a0, a1, a2)) k) v.1 v.2.1 v.2.2) (fun n v => spec_SharesByWeights.l1 k n v.1 v.2.1 v.2.2) (fun _ => rfl) (fun _ _ => rfl) (fun rec v => r77_1 k rec _ (fun a0 a1 a2 a3 a4 => q77_2 k rec k (a0, a1, a2, a3, a4)) v) n
theorem r77_0 (k : Nat) (rec : St → Option ((List Int) × Int)) (G1 : (List Int) → (List Int) → Int → Option ((List Int) × Int)) (h1 : ∀ a0 a1 a2, loopF (E77 k) (S77 k) Try.f77 p77_1 [] k (n77_1 a0 a1 a2) = G1 a0 a1 a2) (v : (List Int) × Int × (List Int) × Int) : roundF (E77 k) (S77 k) Try.f77 p77_0 [] rec (n77_0 v.1 v.2.1 v.2.2.1 v.2.2.2) = spec_SharesByWeights.s0 k (fun a0 a1 a2 a3 => rec (n77_0 a0 a1 a2 a3)) G1 v.1 v.2.1 v.2.2.1 v.2.2.2 := by
  obtain rfl : (fun a0 a1 a2 => loopF (E77 k) (S77 k) Try.f77 p77_1 [] k (n77_1 a0 a1 a2)) = G1 := funext fun a0 => funext fun a1 => funext fun a2 => h1 a0 a1 a2
  kernel_rfl
theorem q77_0 (k : Nat) (n : Nat) : ∀ v : (List Int) × Int × (List Int) × Int, loopF (E77 k) (S77 k) Try.f77 p77_0 [] n (n77_0 v.1 v.2.1 v.2.2.1 v.2.2.2) = spec_SharesByWeights.l0 k n v.1 v.2.1 v.2.2.1 v.2.2.2 :=
  loopF_eq (E77 k) (S77 k) Try.f77 p77_0 [] (fun v : (List Int) × Int × (List Int) × Int => n77_0 v.1 v.2.1 v.2.2.1 v.2.2.2) (fun rec v => spec_SharesByWeights.s0 k (fun a0 a1 a2 a3 => rec (a0, a1, a2, a3)) (spec_SharesByWeights.l1 k k) v.1 v.2.1 v.2.2.1 v.2.2.2) (fun n v => spec_SharesByWeights.l0 k n v.1 v.2.1 v.2.2.1 v.2.2.2) (fun _ => rfl) (fun _ _ => rfl) (fun rec v => r77_0 k rec _ (fun a0 a1 a2 => q77_1 k k (a0, a1, a2)) v) n
theorem e77 (k : Nat) (x : dens (flatC (S77 k).ps)) : funK (E77 k) (S77 k) Try.f77 x = (S77 k).fn x := by
  have h : funK (E77 k) (S77 k) Try.f77 x = spec_SharesByWeights.g k (fun a0 a1 a2 a3 => loopF (E77 k) (S77 k) Try.f77 p77_0 [] k (n77_0 a0 a1 a2 a3)) x.1 x.2 := by kernel_rfl
  rw [h]
  rw [show (fun a0 a1 a2 a3 => loopF (E77 k) (S77 k) Try.f77 p77_0 [] k (n77_0 a0 a1 a2 a3)) = spec_SharesByWeights.l0 k k from funext fun a0 => funext fun a1 => funext fun a2 => funext fun a3 => q77_0 k k (a0, a1, a2, a3)]
  rfl
theorem M77 (k : Nat) : Meets Try.prog 77 (S77 k) := meets_of Try.func77 (by kernel_rfl) tbOk (orc_cons (M98 k) (orc_cons (M99 k) orc_nil)) mixOk (fun x y h => (e77 k x).trans h) rfl

/-! spec_DrawTurnsFromShares: function 78 -/
noncomputable def spec_DrawTurnsFromShares.s0 (k : Nat) (r0 : (List Int) → Int → Int → (List Int) → Int → Int → Option ((List Int))) (x3_0 : List Int) (x3_1 : Int) (x3_2 : Int) (x4 : List Int) (x5 : Int) (x6 : Int) : Option ((List Int)) := if 0 < x6 then ((spec_l01Next.f (x3_0, x3_1, x3_2) x5).bind fun t4 => if x4.length + 1 ≤ 1099511627776 then (r0 t4.2.1 t4.2.2.1 t4.2.2.2 (x4 ++ [(wrap64 (1 + t4.1))]) x5 (wrap64 (x6 - 1))) else (none)) else ((spec_l01Next.f (x3_0, x3_1, x3_2) 24).bind fun t5 => if (decide (t5.1 = 0)) = true then ((spec_l01Pick.f (t5.2.1, t5.2.2.1, t5.2.2.2) [0, (-1), 121]).bind fun t6 => if 0 < (x4.length : Int) then (some (x4.set (0 : Int).toNat t6.1)) else (none)) else (if (decide (t5.1 = 1)) = true then (if x4.length + 1 ≤ 1099511627776 then (some (x4 ++ [1])) else (none)) else (some x4)))
noncomputable def spec_DrawTurnsFromShares.l0 (k : Nat) : Nat → (List Int) → Int → Int → (List Int) → Int → Int → Option ((List Int))
  | 0, _, _, _, _, _, _ => none
  | n + 1, x0, x1, x2, x3, x4, x5 => spec_DrawTurnsFromShares.s0 k (spec_DrawTurnsFromShares.l0 k n) x0 x1 x2 x3 x4 x5
noncomputable def spec_DrawTurnsFromShares.g (k : Nat) (r0 : (List Int) → Int → Int → (List Int) → Int → Int → Option ((List Int))) (l0 : List Int) : Option ((List Int)) := (spec_l01From.f k l0).bind fun t1 => (spec_l01Pick.f (t1.1, t1.2.1, t1.2.2) [3, 6, 20]).bind fun t2 => (spec_l01Next.f (t2.2.1, t2.2.2.1, t2.2.2.2) 8).bind fun t3 => r0 t3.2.1 t3.2.2.1 t3.2.2.2 [] t2.1 (wrap64 (1 + t3.1))
noncomputable def spec_DrawTurnsFromShares.f (k : Nat) (l0 : List Int) : Option ((List Int)) := spec_DrawTurnsFromShares.g k (spec_DrawTurnsFromShares.l0 k k) l0
noncomputable def S78 (k : Nat) : Does := ⟨[(false, [.dat (.list (.int .u8))])], [(false, [.own 2 (.int .i64)])], fun x => spec_DrawTurnsFromShares.f k x⟩
noncomputable def E78 (k : Nat) : En := ⟨tb, orcOf [(126, S126 k), (128, S128 k), (139, S139 k)], lvOf [(0, [(3, []), (4, []), (5, []), (6, [])])], k, 0, lvOf [], []⟩
noncomputable def n78_0 (x3_0 : List Int) (x3_1 : Int) (x3_2 : Int) (x4 : List Int) (x5 : Int) (x6 : Int) : St := ⟨42, lookA [(3, .box 0 0), (4, .own 1), (5, .dat (.int .i64) x5), (6, .dat (.int .i64) x6)], Go.V.look [(0, .cells [.dat (.list (.int .u8)) x3_0, .dat (.int .i64) x3_1, .dat (.int .u64) x3_2]), (1, .flat 2 (.int .i64) x4)]⟩
def p78_0 : List Bool := [true, true, true, false, true, false]
theorem r78_0 (k : Nat) (rec : St → Option ((List Int))) (v : (List Int) × Int × Int × (List Int) × Int × Int) : roundF (E78 k) (S78 k) Try.f78 p78_0 [] rec (n78_0 v.1 v.2.1 v.2.2.1 v.2.2.2.1 v.2.2.2.2.1 v.2.2.2.2.2) = spec_DrawTurnsFromShares.s0 k (fun a0 a1 a2 a3 a4 a5 => rec (n78_0 a0 a1 a2 a3 a4 a5)) v.1 v.2.1 v.2.2.1 v.2.2.2.1 v.2.2.2.2.1 v.2.2.2.2.2 := by
  kernel_rfl
theorem q78_0 (k : Nat) (n : Nat) : ∀ v : (List Int) × Int × Int × (List Int) × Int × Int, loopF (E78 k) (S78 k) Try.f78 p78_0 [] n (n78_0 v.1 v.2.1 v.2.2.1 v.2.2.2.1 v.2.2.2.2.1 v.2.2.2.2.2) = spec_DrawTurnsFromShares.l0 k n v.1 v.2.1 v.2.2.1 v.2.2.2.1 v.2.2.2.2.1 v.2.2.2.2.2 :=
  loopF_eq (E78 k) (S78 k) Try.f78 p78_0 [] (fun v : (List Int) × Int × Int × (List Int) × Int × Int => n78_0 v.1 v.2.1 v.2.2.1 v.2.2.2.1 v.2.2.2.2.1 v.2.2.2.2.2) (fun rec v => spec_DrawTurnsFromShares.s0 k (fun a0 a1 a2 a3 a4 a5 => rec (a0, a1, a2, a3, a4, a5)) v.1 v.2.1 v.2.2.1 v.2.2.2.1 v.2.2.2.2.1 v.2.2.2.2.2) (fun n v => spec_DrawTurnsFromShares.l0 k n v.1 v.2.1 v.2.2.1 v.2.2.2.1 v.2.2.2.2.1 v.2.2.2.2.2) (fun _ => rfl) (fun _ _ => rfl) (fun rec v => r78_0 k rec v) n
theorem e78 (k : Nat) (x : dens (flatC (S78 k).ps)) : funK (E78 k) (S78 k) Try.f78 x = (S78 k).fn x := by
  have h : funK (E78 k) (S78 k) Try.f78 x = spec_DrawTurnsFromShares.g k (fun a0 a1 a2 a3 a4 a5 => loopF (E78 k) (S78 k) Try.f78 p78_0 [] k (n78_0 a0 a1 a2 a3 a4 a5)) x := by kernel_rfl
  rw [h]
  rw [show (fun a0 a1 a2 a3 a4 a5 => loopF (E78 k) (S78 k) Try.f78 p78_0 [] k (n78_0 a0 a1 a2 a3 a4 a5)) = spec_DrawTurnsFromShares.l0 k k from funext fun a0 => funext fun a1 => funext fun a2 => funext fun a3 => funext fun a4 => funext fun a5 => q78_0 k k (a0, a1, a2, a3, a4, a5)]
  rfl
theorem M78 (k : Nat) : Meets Try.prog 78 (S78 k) := meets_of Try.func78 (by kernel_rfl) tbOk (orc_cons (M126 k) (orc_cons (M128 k) (orc_cons (M139 k) orc_nil))) mixOk (fun x y h => (e78 k x).trans h) rfl

/-! impl_areSharesOf_1: function 179 -/
noncomputable def impl_areSharesOf_1.f (a0 : Int) : Option (Bool) := (impl_within.f a0 1 120).bind fun t1 => some t1
noncomputable def S179 (k : Nat) : Does := ⟨[(false, [.dat (.int .i64)])], [(false, [.dat .bool])], fun x => impl_areSharesOf_1.f x⟩
noncomputable def E179 (k : Nat) : En := ⟨tb, orcOf [(104, S104 k)], lvOf [], k, 0, lvOf [], []⟩
theorem e179 (k : Nat) (x : dens (flatC (S179 k).ps)) : funK (E179 k) (S179 k) Try.f179 x = (S179 k).fn x := by
  kernel_rfl
theorem M179 (k : Nat) : Meets Try.prog 179 (S179 k) := meets_of Try.func179 (by kernel_rfl) tbOk (orc_cons (M104 k) orc_nil) mixOk (fun x y h => (e179 k x).trans h) rfl

/-! impl_areAll_int64_1_impl_areSharesOf_1: function 185 -/
noncomputable def impl_areAll_int64_1_impl_areSharesOf_1.f (a0 : Int) (a1 : Unit) : Option (Bool) := (impl_areSharesOf_1.f a0).bind fun t1 => some (!decide (t1 = true))
noncomputable def S185_c179 (k : Nat) : Does := ⟨[(false, [.dat (.int .i64)]), (false, [.dat (.ptr (.clo 179 .unit))])], [(false, [.dat .bool])], fun x => impl_areAll_int64_1_impl_areSharesOf_1.f x.1 x.2⟩
noncomputable def E185_c179 (k : Nat) : En := ⟨tb, orcOf [(179, S179 k)], lvOf [], k, 0, lvOf [], []⟩
theorem e185_c179 (k : Nat) (x : dens (flatC (S185_c179 k).ps)) : funK (E185_c179 k) (S185_c179 k) Try.f185 x = (S185_c179 k).fn x := by
  kernel_rfl
theorem M185_c179 (k : Nat) : Meets Try.prog 185 (S185_c179 k) := meets_of Try.func185 (by kernel_rfl) tbOk (orc_cons (M179 k) orc_nil) mixOk (fun x y h => (e185_c179 k x).trans h) rfl

/-! slices_IndexFunc_int64_int64_impl_areAll_int64_1_impl_areSharesOf_1: function 191 -/
noncomputable def slices_IndexFunc_int64_int64_impl_areAll_int64_1_impl_areSharesOf_1.s0 (k : Nat) (r0 : (List Int) → Unit → Int → Int → Option (Int)) (x0 : List Int) (x1 : Unit) (x7 : Int) (x8 : Int) : Option (Int) := if x8 < x7 then (if 0 ≤ x8 then (if x8 < (x0.length : Int) then ((impl_areAll_int64_1_impl_areSharesOf_1.f (rd x0 x8) x1).bind fun t1 => if t1 = true then (some x8) else (r0 x0 x1 x7 (wrap64 (x8 + 1)))) else (none)) else (none)) else (some (-1))
noncomputable def slices_IndexFunc_int64_int64_impl_areAll_int64_1_impl_areSharesOf_1.l0 (k : Nat) : Nat → (List Int) → Unit → Int → Int → Option (Int)
  | 0, _, _, _, _ => none
  | n + 1, x0, x1, x2, x3 => slices_IndexFunc_int64_int64_impl_areAll_int64_1_impl_areSharesOf_1.s0 k (slices_IndexFunc_int64_int64_impl_areAll_int64_1_impl_areSharesOf_1.l0 k n) x0 x1 x2 x3
noncomputable def slices_IndexFunc_int64_int64_impl_areAll_int64_1_impl_areSharesOf_1.g (k : Nat) (r0 : (List Int) → Unit → Int → Int → Option (Int)) (l0 : List Int) (a1 : Unit) : Option (Int) := r0 l0 a1 (l0.length : Int) 0
noncomputable def slices_IndexFunc_int64_int64_impl_areAll_int64_1_impl_areSharesOf_1.f (k : Nat) (l0 : List Int) (a1 : Unit) : Option (Int) := slices_IndexFunc_int64_int64_impl_areAll_int64_1_impl_areSharesOf_1.g k (slices_IndexFunc_int64_int64_impl_areAll_int64_1_impl_areSharesOf_1.l0 k k) l0 a1
noncomputable def S191_c185c179 (k : Nat) : Does := ⟨[(false, [.dat (.list (.int .i64))]), (false, [.dat (.clo 185 (.ptr (.clo 179 .unit)))])], [(false, [.dat (.int .i64)])], fun x => slices_IndexFunc_int64_int64_impl_areAll_int64_1_impl_areSharesOf_1.f k x.1 x.2⟩
noncomputable def E191_c185c179 (k : Nat) : En := ⟨tb, orcOf [(185, S185_c179 k)], lvOf [(0, [(0, []), (1, []), (7, []), (8, [])])], k, 0, lvOf [], []⟩
noncomputable def n191_c185c179_0 (x0 : List Int) (x1 : Unit) (x7 : Int) (x8 : Int) : St := ⟨19, lookA [(0, .dat (.list (.int .i64)) x0), (1, .dat (.clo 185 (.ptr (.clo 179 .unit))) x1), (7, .dat (.int .i64) x7), (8, .dat (.int .i64) x8)], Go.V.look []⟩
def p191_c185c179_0 : List Bool := [true, false, true, false]
theorem r191_c185c179_0 (k : Nat) (rec : St → Option (Int)) (v : (List Int) × Unit × Int × Int) : roundF (E191_c185c179 k) (S191_c185c179 k) Try.f191 p191_c185c179_0 [] rec (n191_c185c179_0 v.1 v.2.1 v.2.2.1 v.2.2.2) = slices_IndexFunc_int64_int64_impl_areAll_int64_1_impl_areSharesOf_1.s0 k (fun a0 a1 a2 a3 => rec (n191_c185c179_0 a0 a1 a2 a3)) v.1 v.2.1 v.2.2.1 v.2.2.2 := by
  kernel_rfl
theorem q191_c185c179_0 (k : Nat) (n : Nat) : ∀ v : (List Int) × Unit × Int × Int, loopF (E191_c185c179 k) (S191_c185c179 k) Try.f191 p191_c185c179_0 [] n (n191_c185c179_0 v.1 v.2.1 v.2.2.1 v.2.2.2) = slices_IndexFunc_int64_int64_impl_areAll_int64_1_impl_areSharesOf_1.l0 k n v.1 v.2.1 v.2.2.1 v.2.2.2 :=
  loopF_eq (E191_c185c179 k) (S191_c185c179 k) Try.f191 p191_c185c179_0 [] (fun v : (List Int) × Unit × Int × Int => n191_c185c179_0 v.1 v.2.1 v.2.2.1 v.2.2.2) (fun rec v => slices_IndexFunc_int64_int64_impl_areAll_int64_1_impl_areSharesOf_1.s0 k (fun a0 a1 a2 a3 => rec (a0, a1, a2, a3)) v.1 v.2.1 v.2.2.1 v.2.2.2) (fun n v => slices_IndexFunc_int64_int64_impl_areAll_int64_1_impl_areSharesOf_1.l0 k n v.1 v.2.1 v.2.2.1 v.2.2.2) (fun _ => rfl) (fun _ _ => rfl) (fun rec v => r191_c185c179_0 k rec v) n
theorem e191_c185c179 (k : Nat) (x : dens (flatC (S191_c185c179 k).ps)) : funK (E191_c185c179 k) (S191_c185c179 k) Try.f191 x = (S191_c185c179 k).fn x := by
  have h : funK (E191_c185c179 k) (S191_c185c179 k) Try.f191 x = slices_IndexFunc_int64_int64_impl_areAll_int64_1_impl_areSharesOf_1.g k (fun a0 a1 a2 a3 => loopF (E191_c185c179 k) (S191_c185c179 k) Try.f191 p191_c185c179_0 [] k (n191_c185c179_0 a0 a1 a2 a3)) x.1 x.2 := by kernel_rfl
  rw [h]
  rw [show (fun a0 a1 a2 a3 => loopF (E191_c185c179 k) (S191_c185c179 k) Try.f191 p191_c185c179_0 [] k (n191_c185c179_0 a0 a1 a2 a3)) = slices_IndexFunc_int64_int64_impl_areAll_int64_1_impl_areSharesOf_1.l0 k k from funext fun a0 => funext fun a1 => funext fun a2 => funext fun a3 => q191_c185c179_0 k k (a0, a1, a2, a3)]
  rfl
theorem M191_c185c179 (k : Nat) : Meets Try.prog 191 (S191_c185c179 k) := meets_of Try.func191 (by kernel_rfl) tbOk (orc_cons (M185_c179 k) orc_nil) mixOk (fun x y h => (e191_c185c179 k x).trans h) rfl

/-! slices_ContainsFunc_int64_int64_impl_areAll_int64_1_impl_areSharesOf_1: function 184 -/
noncomputable def slices_ContainsFunc_int64_int64_impl_areAll_int64_1_impl_areSharesOf_1.f (k : Nat) (l0 : List Int) (a1 : Unit) : Option (Bool) := (slices_IndexFunc_int64_int64_impl_areAll_int64_1_impl_areSharesOf_1.f k l0 a1).bind fun t1 => some (decide (0 ≤ t1))
noncomputable def S184_c185c179 (k : Nat) : Does := ⟨[(false, [.dat (.list (.int .i64))]), (false, [.dat (.clo 185 (.ptr (.clo 179 .unit)))])], [(false, [.dat .bool])], fun x => slices_ContainsFunc_int64_int64_impl_areAll_int64_1_impl_areSharesOf_1.f k x.1 x.2⟩
noncomputable def E184_c185c179 (k : Nat) : En := ⟨tb, orcOf [(191, S191_c185c179 k)], lvOf [], k, 0, lvOf [], []⟩
theorem e184_c185c179 (k : Nat) (x : dens (flatC (S184_c185c179 k).ps)) : funK (E184_c185c179 k) (S184_c185c179 k) Try.f184 x = (S184_c185c179 k).fn x := by
  kernel_rfl
theorem M184_c185c179 (k : Nat) : Meets Try.prog 184 (S184_c185c179 k) := meets_of Try.func184 (by kernel_rfl) tbOk (orc_cons (M191_c185c179 k) orc_nil) mixOk (fun x y h => (e184_c185c179 k x).trans h) rfl

/-! impl_areAll_int64_impl_areSharesOf_1: function 157 -/
noncomputable def impl_areAll_int64_impl_areSharesOf_1.f (k : Nat) (l0 : List Int) (a1 : Unit) : Option (Bool) := (slices_ContainsFunc_int64_int64_impl_areAll_int64_1_impl_areSharesOf_1.f k l0 a1).bind fun t1 => some (!decide (t1 = true))
noncomputable def S157_c179 (k : Nat) : Does := ⟨[(false, [.dat (.list (.int .i64))]), (false, [.dat (.clo 179 .unit)])], [(false, [.dat .bool])], fun x => impl_areAll_int64_impl_areSharesOf_1.f k x.1 x.2⟩
noncomputable def E157_c179 (k : Nat) : En := ⟨tb, orcOf [(184, S184_c185c179 k)], lvOf [], k, 0, lvOf [], []⟩
theorem e157_c179 (k : Nat) (x : dens (flatC (S157_c179 k).ps)) : funK (E157_c179 k) (S157_c179 k) Try.f157 x = (S157_c179 k).fn x := by
  kernel_rfl
theorem M157_c179 (k : Nat) : Meets Try.prog 157 (S157_c179 k) := meets_of Try.func157 (by kernel_rfl) tbOk (orc_cons (M184_c185c179 k) orc_nil) mixOk (fun x y h => (e157_c179 k x).trans h) rfl

/-! impl_areSharesOf: function 147 -/
noncomputable def impl_areSharesOf.f (k : Nat) (l0 : List Int) : Option (Bool) := (impl_length_int64.f l0).bind fun t1 => (impl_isMany.f t1).bind fun t2 => if t2 = true then ((impl_areAll_int64_impl_areSharesOf_1.f k l0 ()).bind fun t3 => if t3 = true then ((impl_total.f k l0).bind fun t4 => some (decide (t4 ≤ 120))) else (some false)) else (some false)
noncomputable def S147 (k : Nat) : Does := ⟨[(false, [.dat (.list (.int .i64))])], [(false, [.dat .bool])], fun x => impl_areSharesOf.f k x⟩
noncomputable def E147 (k : Nat) : En := ⟨tb, orcOf [(101, S101 k), (156, S156 k), (157, S157_c179 k), (142, S142 k)], lvOf [], k, 0, lvOf [], []⟩
theorem e147 (k : Nat) (x : dens (flatC (S147 k).ps)) : funK (E147 k) (S147 k) Try.f147 x = (S147 k).fn x := by
  kernel_rfl
theorem M147 (k : Nat) : Meets Try.prog 147 (S147 k) := meets_of Try.func147 (by kernel_rfl) tbOk (orc_cons (M101 k) (orc_cons (M156 k) (orc_cons (M157_c179 k) (orc_cons (M142 k) orc_nil)))) mixOk (fun x y h => (e147 k x).trans h) rfl

/-! impl_TurnsFromShares: function 79 -/
noncomputable def impl_TurnsFromShares.s1 (k : Nat) (r0 : (List Int) → (List Int) → (List Int) → Int → Int → Option ((List Int) × Int)) (r1 : (List Int) → (List Int) → (List Int) → Int → Int → Int → (List Int) → Int → Int → Option ((List Int) × Int)) (x0 : List Int) (x4 : List Int) (x5 : List Int) (x6 : Int) (x16 : Int) (x17 : Int) (x19 : List Int) (x20 : Int) (x21 : Int) : Option ((List Int) × Int) := if x21 < x20 then (if 0 ≤ x21 then (if x21 < (x19.length : Int) then (if 0 ≤ x21 then (if x21 < (x4.length : Int) then (if (rd x4 x21) < (rd x19 x21) then (if x6 = (-1) then (r1 x0 x4 x5 x21 x16 x17 x19 x20 (wrap64 (x21 + 1))) else (if 0 ≤ x21 then (if x21 < (x4.length : Int) then (if 0 ≤ x6 then (if x6 < (x0.length : Int) then (if 0 ≤ x6 then (if x6 < (x4.length : Int) then (if (wrap64 ((wrap64 ((wrap64 (2 * (rd x4 x21))) + 1)) * (rd x0 x6))) < (wrap64 ((wrap64 ((wrap64 (2 * (rd x4 x6))) + 1)) * (rd x19 x21))) then (r1 x0 x4 x5 x21 x16 x17 x19 x20 (wrap64 (x21 + 1))) else (r1 x0 x4 x5 x6 x16 x17 x19 x20 (wrap64 (x21 + 1)))) else (none)) else (none)) else (none)) else (none)) else (none)) else (none))) else (r1 x0 x4 x5 x6 x16 x17 x19 x20 (wrap64 (x21 + 1)))) else (none)) else (none)) else (none)) else (none)) else (if 0 ≤ x6 then (if x6 < (x4.length : Int) then (if 0 ≤ x6 then (if x6 < (x4.length : Int) then (if x5.length + 1 ≤ 1099511627776 then (r0 x0 (x4.set x6.toNat (wrap64 ((rd x4 x6) + 1))) (x5 ++ [x6]) x16 (wrap64 (x17 + 1))) else (none)) else (none)) else (none)) else (none)) else (none))
noncomputable def impl_TurnsFromShares.l1 (k : Nat) (r0 : (List Int) → (List Int) → (List Int) → Int → Int → Option ((List Int) × Int)) : Nat → (List Int) → (List Int) → (List Int) → Int → Int → Int → (List Int) → Int → Int → Option ((List Int) × Int)
  | 0, _, _, _, _, _, _, _, _, _ => none
  | n + 1, x0, x1, x2, x3, x4, x5, x6, x7, x8 => impl_TurnsFromShares.s1 k r0 (impl_TurnsFromShares.l1 k r0 n) x0 x1 x2 x3 x4 x5 x6 x7 x8
noncomputable def impl_TurnsFromShares.s0 (k : Nat) (r0 : (List Int) → (List Int) → (List Int) → Int → Int → Option ((List Int) × Int)) (r1 : (List Int) → (List Int) → (List Int) → Int → Int → Int → (List Int) → Int → Int → Option ((List Int) × Int)) (x0 : List Int) (x4 : List Int) (x5 : List Int) (x16 : Int) (x17 : Int) : Option ((List Int) × Int) := if x17 < x16 then (r1 x0 x4 x5 (-1) x16 x17 x0 (x0.length : Int) 0) else (some (x5, 0))
noncomputable def impl_TurnsFromShares.l0 (k : Nat) : Nat → (List Int) → (List Int) → (List Int) → Int → Int → Option ((List Int) × Int)
  | 0, _, _, _, _, _ => none
  | n + 1, x0, x1, x2, x3, x4 => impl_TurnsFromShares.s0 k (impl_TurnsFromShares.l0 k n) (impl_TurnsFromShares.l1 k (impl_TurnsFromShares.l0 k n) k) x0 x1 x2 x3 x4
noncomputable def impl_TurnsFromShares.g (k : Nat) (r0 : (List Int) → (List Int) → (List Int) → Int → Int → Option ((List Int) × Int)) (l0 : List Int) : Option ((List Int) × Int) := (impl_areSharesOf.f k l0).bind fun t1 => if t1 = true then (if 0 ≤ (l0.length : Int) then (if (l0.length : Int) ≤ (l0.length : Int) then (if (l0.length : Int).toNat ≤ 1099511627776 then ((impl_total.f k l0).bind fun t2 => r0 l0 (List.replicate (l0.length : Int).toNat (0 : Int)) [] t2 0) else (none)) else (none)) else (none)) else (some ([], 2))
noncomputable def impl_TurnsFromShares.f (k : Nat) (l0 : List Int) : Option ((List Int) × Int) := impl_TurnsFromShares.g k (impl_TurnsFromShares.l0 k k) l0
noncomputable def S79 (k : Nat) : Does := ⟨[(false, [.dat (.list (.int .i64))])], [(false, [.own 2 (.int .i64)]), (false, [.dat (.int .i64)])], fun x => impl_TurnsFromShares.f k x⟩
noncomputable def E79 (k : Nat) : En := ⟨tb, orcOf [(147, S147 k), (142, S142 k)], lvOf [(0, [(0, []), (4, []), (5, [.nil 2 (.int .i64)]), (16, []), (17, [])]), (2, [(0, []), (4, []), (5, []), (6, []), (16, []), (17, []), (19, []), (20, []), (21, [])])], k, 0, lvOf [], []⟩
noncomputable def n79_0 (x0 : List Int) (x4 : List Int) (x5 : List Int) (x16 : Int) (x17 : Int) : St := ⟨72, lookA [(0, .dat (.list (.int .i64)) x0), (4, .own 0), (5, .own 1), (16, .dat (.int .i64) x16), (17, .dat (.int .i64) x17)], Go.V.look [(0, .flat 2 (.int .i64) x4), (1, .flat 2 (.int .i64) x5)]⟩
def p79_0 : List Bool := [true, true, true, true, false, true, false]
noncomputable def n79_1 (x0 : List Int) (x4 : List Int) (x5 : List Int) (x6 : Int) (x16 : Int) (x17 : Int) (x19 : List Int) (x20 : Int) (x21 : Int) : St := ⟨72, lookA [(0, .dat (.list (.int .i64)) x0), (4, .own 0), (5, .own 1), (6, .dat (.int .i64) x6), (16, .dat (.int .i64) x16), (17, .dat (.int .i64) x17), (19, .dat (.list (.int .i64)) x19), (20, .dat (.int .i64) x20), (21, .dat (.int .i64) x21)], Go.V.look [(0, .flat 2 (.int .i64) x4), (1, .flat 2 (.int .i64) x5)]⟩
def p79_1 : List Bool := [true, true, true, true, false, true, false, false, true, true, false, false, true, false, true, false]
theorem r79_1 (k : Nat) (R0 : St → Option ((List Int) × Int)) (rec : St → Option ((List Int) × Int)) (v : (List Int) × (List Int) × (List Int) × Int × Int × Int × (List Int) × Int × Int) : roundF (E79 k) (S79 k) Try.f79 p79_1 [R0] rec (n79_1 v.1 v.2.1 v.2.2.1 v.2.2.2.1 v.2.2.2.2.1 v.2.2.2.2.2.1 v.2.2.2.2.2.2.1 v.2.2.2.2.2.2.2.1 v.2.2.2.2.2.2.2.2) = impl_TurnsFromShares.s1 k (fun a0 a1 a2 a3 a4 => R0 (n79_0 a0 a1 a2 a3 a4)) (fun a0 a1 a2 a3 a4 a5 a6 a7 a8 => rec (n79_1 a0 a1 a2 a3 a4 a5 a6 a7 a8)) v.1 v.2.1 v.2.2.1 v.2.2.2.1 v.2.2.2.2.1 v.2.2.2.2.2.1 v.2.2.2.2.2.2.1 v.2.2.2.2.2.2.2.1 v.2.2.2.2.2.2.2.2 := by
  kernel_rfl
theorem q79_1 (k : Nat) (R0 : St → Option ((List Int) × Int)) (n : Nat) : ∀ v : (List Int) × (List Int) × (List Int) × Int × Int × Int × (List Int) × Int × Int, loopF (E79 k) (S79 k) Try.f79 p79_1 [R0] n (n79_1 v.1 v.2.1 v.2.2.1 v.2.2.2.1 v.2.2.2.2.1 v.2.2.2.2.2.1 v.2.2.2.2.2.2.1 v.2.2.2.2.2.2.2.1 v.2.2.2.2.2.2.2.2) = impl_TurnsFromShares.l1 k (fun a0 a1 a2 a3 a4 => R0 (n79_0 a0 a1 a2 a3 a4)) n v.1 v.2.1 v.2.2.1 v.2.2.2.1 v.2.2.2.2.1 v.2.2.2.2.2.1 v.2.2.2.2.2.2.1 v.2.2.2.2.2.2.2.1 v.2.2.2.2.2.2.2.2 :=
  loopF_eq (E79 k) (S79 k) Try.f79 p79_1 [R0] (fun v : (List Int) × (List Int) × (List Int) × Int × Int × Int × (List Int) × Int × Int => n79_1 v.1 v.2.1 v.2.2.1 v.2.2.2.1 v.2.2.2.2.1 v.2.2.2.2.2.1 v.2.2.2.2.2.2.1 v.2.2.2.2.2.2.2.1 v.2.2.2.2.2.2.2.2) (fun rec v => impl_TurnsFromShares.s1 k (fun a0 a1 a2 a3 a4 => R0 (n79_0 a0 a1 a2 a3 a4)) (fun a0 a1 a2 a3 a4 a5 a6 a7 a8 => rec (a0, a1, a2, a3, a4, a5, a6, a7, a8)) v.1 v.2.1 v.2.2.1 v.2.2.2.1 v.2.2.2.2.1 v.2.2.2.2.2.1 v.2.2.2.2.2.2.1 v.2.2.2.2.2.2.2.1 v.2.2.2.2.2.2.2.2) (fun n v => impl_TurnsFromShares.l1 k (fun a0 a1 a2 a3 a4 => R0 (n79_0 a0 a1 a2 a3 a4)) n v.1 v.2.1 v.2.2.1 v.2.2.2.1 v.2.2.2.2.1 v.2.2.2.2.2.1 v.2.2.2.2.2.2.1 v.2.2.2.2.2.2.2.1 v.2.2.2.2.2.2.2.2) (fun _ => rfl) (fun _ _ => rfl) (fun rec v => r79_1 k R0 rec v) n
theorem r79_0 (k : Nat) (rec : St → Option ((List Int) × Int)) (G1 : (List Int) → (List Int) → (List Int) → Int → Int → Int → (List Int) → Int → Int → Option ((List Int) × Int)) (h1 : ∀ a0 a1 a2 a3 a4 a5 a6 a7 a8, loopF (E79 k) (S79 k) Try.f79 p79_1 [rec] k (n79_1 a0 a1 a2 a3 a4 a5 a6 a7 a8) = G1 a0 a1 a2 a3 a4 a5 a6 a7 a8) (v : (List Int) × (List Int) × (List Int) × Int × Int) : roundF (E79 k) (S79 k) Try.f79 p79_0 [] rec (n79_0 v.1 v.2.1 v.2.2.1 v.2.2.2.1 v.2.2.2.2) = impl_TurnsFromShares.s0 k (fun a0 a1 a2 a3 a4 => rec (n79_0 a0 a1 a2 a3 a4)) G1 v.1 v.2.1 v.2.2.1 v.2.2.2.1 v.2.2.2.2 := by
  obtain rfl : (fun a0 a1 a2 a3 a4 a5 a6 a7 a8 => loopF (E79 k) (S79 k) Try.f79 p79_1 [rec] k (n79_1 a0 a1 a2 a3 a4 a5 a6 a7 a8)) = G1 := funext fun a0 => funext fun a1 => funext fun a2 => funext fun a3 => funext fun a4 => funext fun a5 => funext fun a6 => funext fun a7 => funext fun a8 => h1 a0 a1 a2 a3 a4 a5 a6 a7 a8
  kernel_rfl
theorem q79_0 (k : Nat) (n : Nat) : ∀ v : (List Int) × (List Int) × (List Int) × Int × Int, loopF (E79 k) (S79 k) Try.f79 p79_0 [] n (n79_0 v.1 v.2.1 v.2.2.1 v.2.2.2.1 v.2.2.2.2) = impl_TurnsFromShares.l0 k n v.1 v.2.1 v.2.2.1 v.2.2.2.1 v.2.2.2.2 :=
  loopF_eq (E79 k) (S79 k) Try.f79 p79_0 [] (fun v : (List Int) × (List Int) × (List Int) × Int × Int => n79_0 v.1 v.2.1 v.2.2.1 v.2.2.2.1 v.2.2.2.2) (fun rec v => impl_TurnsFromShares.s0 k (fun a0 a1 a2 a3 a4 => rec (a0, a1, a2, a3, a4)) (impl_TurnsFromShares.l1 k (fun a0 a1 a2 a3 a4 => rec (a0, a1, a2, a3, a4)) k) v.1 v.2.1 v.2.2.1 v.2.2.2.1 v.2.2.2.2) (fun n v => impl_TurnsFromShares.l0 k n v.1 v.2.1 v.2.2.1 v.2.2.2.1 v.2.2.2.2) (fun _ => rfl) (fun _ _ => rfl) (fun rec v => r79_0 k rec _ (fun a0 a1 a2 a3 a4 a5 a6 a7 a8 => q79_1 k rec k (a0, a1, a2, a3, a4, a5, a6, a7, a8)) v) n
theorem e79 (k : Nat) (x : dens (flatC (S79 k).ps)) : funK (E79 k) (S79 k) Try.f79 x = (S79 k).fn x := by
  have h : funK (E79 k) (S79 k) Try.f79 x = impl_TurnsFromShares.g k (fun a0 a1 a2 a3 a4 => loopF (E79 k) (S79 k) Try.f79 p79_0 [] k (n79_0 a0 a1 a2 a3 a4)) x := by kernel_rfl
  rw [h]
  rw [show (fun a0 a1 a2 a3 a4 => loopF (E79 k) (S79 k) Try.f79 p79_0 [] k (n79_0 a0 a1 a2 a3 a4)) = impl_TurnsFromShares.l0 k k from funext fun a0 => funext fun a1 => funext fun a2 => funext fun a3 => funext fun a4 => q79_0 k k (a0, a1, a2, a3, a4)]
  rfl
theorem M79 (k : Nat) : Meets Try.prog 79 (S79 k) := meets_of Try.func79 (by kernel_rfl) tbOk (orc_cons (M147 k) (orc_cons (M142 k) orc_nil)) mixOk (fun x y h => (e79 k x).trans h) rfl

/-! spec_l10Shares: function 148 -/
noncomputable def spec_l10Shares.s0 (k : Nat) (r0 : (List Int) → Int → Int → Option (Int)) (x0 : List Int) (x3 : Int) (x4 : Int) : Option (Int) := if x4 < (x0.length : Int) then (if 0 ≤ x4 then (if x4 < (x0.length : Int) then ((spec_l01In.f (rd x0 x4) 1 120).bind fun t1 => if t1 = true then (if 0 ≤ x4 then (if x4 < (x0.length : Int) then (r0 x0 (wrap64 (x3 + (rd x0 x4))) (wrap64 (x4 + 1))) else (none)) else (none)) else (some 0)) else (none)) else (none)) else (if 8 < (x0.length : Int) then (some 0) else (if 120 < x3 then (some 0) else (some x3)))
noncomputable def spec_l10Shares.l0 (k : Nat) : Nat → (List Int) → Int → Int → Option (Int)
  | 0, _, _, _ => none
  | n + 1, x0, x1, x2 => spec_l10Shares.s0 k (spec_l10Shares.l0 k n) x0 x1 x2
noncomputable def spec_l10Shares.g (k : Nat) (r0 : (List Int) → Int → Int → Option (Int)) (l0 : List Int) : Option (Int) := r0 l0 0 0
noncomputable def spec_l10Shares.f (k : Nat) (l0 : List Int) : Option (Int) := spec_l10Shares.g k (spec_l10Shares.l0 k k) l0
noncomputable def S148 (k : Nat) : Does := ⟨[(false, [.dat (.list (.int .i64))])], [(false, [.dat (.int .i64)])], fun x => spec_l10Shares.f k x⟩
noncomputable def E148 (k : Nat) : En := ⟨tb, orcOf [(99, S99 k)], lvOf [(0, [(0, []), (3, []), (4, [])])], k, 0, lvOf [], []⟩
noncomputable def n148_0 (x0 : List Int) (x3 : Int) (x4 : Int) : St := ⟨31, lookA [(0, .dat (.list (.int .i64)) x0), (3, .dat (.int .i64) x3), (4, .dat (.int .i64) x4)], Go.V.look []⟩
def p148_0 : List Bool := [true, true, false, true, false]
theorem r148_0 (k : Nat) (rec : St → Option (Int)) (v : (List Int) × Int × Int) : roundF (E148 k) (S148 k) Try.f148 p148_0 [] rec (n148_0 v.1 v.2.1 v.2.2) = spec_l10Shares.s0 k (fun a0 a1 a2 => rec (n148_0 a0 a1 a2)) v.1 v.2.1 v.2.2 := by
  kernel_rfl
theorem q148_0 (k : Nat) (n : Nat) : ∀ v : (List Int) × Int × Int, loopF (E148 k) (S148 k) Try.f148 p148_0 [] n (n148_0 v.1 v.2.1 v.2.2) = spec_l10Shares.l0 k n v.1 v.2.1 v.2.2 :=
  loopF_eq (E148 k) (S148 k) Try.f148 p148_0 [] (fun v : (List Int) × Int × Int => n148_0 v.1 v.2.1 v.2.2) (fun rec v => spec_l10Shares.s0 k (fun a0 a1 a2 => rec (a0, a1, a2)) v.1 v.2.1 v.2.2) (fun n v => spec_l10Shares.l0 k n v.1 v.2.1 v.2.2) (fun _ => rfl) (fun _ _ => rfl) (fun rec v => r148_0 k rec v) n
theorem e148 (k : Nat) (x : dens (flatC (S148 k).ps)) : funK (E148 k) (S148 k) Try.f148 x = (S148 k).fn x := by
  have h : funK (E148 k) (S148 k) Try.f148 x = spec_l10Shares.g k (fun a0 a1 a2 => loopF (E148 k) (S148 k) Try.f148 p148_0 [] k (n148_0 a0 a1 a2)) x := by kernel_rfl
  rw [h]
  rw [show (fun a0 a1 a2 => loopF (E148 k) (S148 k) Try.f148 p148_0 [] k (n148_0 a0 a1 a2)) = spec_l10Shares.l0 k k from funext fun a0 => funext fun a1 => funext fun a2 => q148_0 k k (a0, a1, a2)]
  rfl
theorem M148 (k : Nat) : Meets Try.prog 148 (S148 k) := meets_of Try.func148 (by kernel_rfl) tbOk (orc_cons (M99 k) orc_nil) mixOk (fun x y h => (e148 k x).trans h) rfl

/-! spec_TurnsFromShares: function 80 -/
noncomputable def spec_TurnsFromShares.s1 (k : Nat) (r0 : (List Int) → Int → (List Int) → (List Int) → Int → Option ((List Int) × Int)) (r1 : (List Int) → Int → (List Int) → (List Int) → Int → Int → Int → Option ((List Int) × Int)) (x0 : List Int) (x4 : Int) (x5 : List Int) (x6 : List Int) (x7 : Int) (x8 : Int) (x9 : Int) : Option ((List Int) × Int) := if x9 < (x0.length : Int) then (if 0 ≤ x9 then (if x9 < (x6.length : Int) then (if 0 ≤ x9 then (if x9 < (x0.length : Int) then (if (rd x6 x9) = (rd x0 x9) then (r1 x0 x4 x5 x6 x7 x8 (wrap64 (x9 + 1))) else (if x8 < 0 then (r1 x0 x4 x5 x6 x7 x9 (wrap64 (x9 + 1))) else (if 0 ≤ x9 then (if x9 < (x6.length : Int) then (if 0 ≤ x8 then (if x8 < (x0.length : Int) then (if 0 ≤ x8 then (if x8 < (x6.length : Int) then (if 0 ≤ x9 then (if x9 < (x0.length : Int) then (if (wrap64 ((wrap64 ((wrap64 (2 * (rd x6 x9))) + 1)) * (rd x0 x8))) < (wrap64 ((wrap64 ((wrap64 (2 * (rd x6 x8))) + 1)) * (rd x0 x9))) then (r1 x0 x4 x5 x6 x7 x9 (wrap64 (x9 + 1))) else (r1 x0 x4 x5 x6 x7 x8 (wrap64 (x9 + 1)))) else (none)) else (none)) else (none)) else (none)) else (none)) else (none)) else (none)) else (none)))) else (none)) else (none)) else (none)) else (none)) else (if 0 ≤ x8 then (if x8 < (x6.length : Int) then (if 0 ≤ x8 then (if x8 < (x6.length : Int) then (if x5.length + 1 ≤ 1099511627776 then (r0 x0 x4 (x5 ++ [x8]) (x6.set x8.toNat (wrap64 ((rd x6 x8) + 1))) (wrap64 (x7 + 1))) else (none)) else (none)) else (none)) else (none)) else (none))
noncomputable def spec_TurnsFromShares.l1 (k : Nat) (r0 : (List Int) → Int → (List Int) → (List Int) → Int → Option ((List Int) × Int)) : Nat → (List Int) → Int → (List Int) → (List Int) → Int → Int → Int → Option ((List Int) × Int)
  | 0, _, _, _, _, _, _, _ => none
  | n + 1, x0, x1, x2, x3, x4, x5, x6 => spec_TurnsFromShares.s1 k r0 (spec_TurnsFromShares.l1 k r0 n) x0 x1 x2 x3 x4 x5 x6
noncomputable def spec_TurnsFromShares.s0 (k : Nat) (r0 : (List Int) → Int → (List Int) → (List Int) → Int → Option ((List Int) × Int)) (r1 : (List Int) → Int → (List Int) → (List Int) → Int → Int → Int → Option ((List Int) × Int)) (x0 : List Int) (x4 : Int) (x5 : List Int) (x6 : List Int) (x7 : Int) : Option ((List Int) × Int) := if x7 < x4 then (r1 x0 x4 x5 x6 x7 (-1) 0) else (some (x5, 0))
noncomputable def spec_TurnsFromShares.l0 (k : Nat) : Nat → (List Int) → Int → (List Int) → (List Int) → Int → Option ((List Int) × Int)
  | 0, _, _, _, _, _ => none
  | n + 1, x0, x1, x2, x3, x4 => spec_TurnsFromShares.s0 k (spec_TurnsFromShares.l0 k n) (spec_TurnsFromShares.l1 k (spec_TurnsFromShares.l0 k n) k) x0 x1 x2 x3 x4
noncomputable def spec_TurnsFromShares.g (k : Nat) (r0 : (List Int) → Int → (List Int) → (List Int) → Int → Option ((List Int) × Int)) (l0 : List Int) : Option ((List Int) × Int) := (spec_l10Shares.f k l0).bind fun t1 => if t1 = 0 then (some ([], 2)) else (if 0 ≤ (l0.length : Int) then (if (l0.length : Int) ≤ (l0.length : Int) then (if (l0.length : Int).toNat ≤ 1099511627776 then (r0 l0 t1 [] (List.replicate (l0.length : Int).toNat (0 : Int)) 0) else (none)) else (none)) else (none))
noncomputable def spec_TurnsFromShares.f (k : Nat) (l0 : List Int) : Option ((List Int) × Int) := spec_TurnsFromShares.g k (spec_TurnsFromShares.l0 k k) l0
noncomputable def S80 (k : Nat) : Does := ⟨[(false, [.dat (.list (.int .i64))])], [(false, [.own 2 (.int .i64)]), (false, [.dat (.int .i64)])], fun x => spec_TurnsFromShares.f k x⟩
noncomputable def E80 (k : Nat) : En := ⟨tb, orcOf [(148, S148 k)], lvOf [(0, [(0, []), (4, []), (5, []), (6, []), (7, [])]), (2, [(0, []), (4, []), (5, []), (6, []), (7, []), (8, []), (9, [])])], k, 0, lvOf [], []⟩
noncomputable def n80_0 (x0 : List Int) (x4 : Int) (x5 : List Int) (x6 : List Int) (x7 : Int) : St := ⟨77, lookA [(0, .dat (.list (.int .i64)) x0), (4, .dat (.int .i64) x4), (5, .own 0), (6, .own 1), (7, .dat (.int .i64) x7)], Go.V.look [(0, .flat 2 (.int .i64) x5), (1, .flat 2 (.int .i64) x6)]⟩
def p80_0 : List Bool := [true, true, true, true, false, true, false]
noncomputable def n80_1 (x0 : List Int) (x4 : Int) (x5 : List Int) (x6 : List Int) (x7 : Int) (x8 : Int) (x9 : Int) : St := ⟨77, lookA [(0, .dat (.list (.int .i64)) x0), (4, .dat (.int .i64) x4), (5, .own 0), (6, .own 1), (7, .dat (.int .i64) x7), (8, .dat (.int .i64) x8), (9, .dat (.int .i64) x9)], Go.V.look [(0, .flat 2 (.int .i64) x5), (1, .flat 2 (.int .i64) x6)]⟩
def p80_1 : List Bool := [true, true, true, true, false, true, false, false, true, false, false, true, false, true, false]
theorem r80_1 (k : Nat) (R0 : St → Option ((List Int) × Int)) (rec : St → Option ((List Int) × Int)) (v : (List Int) × Int × (List Int) × (List Int) × Int × Int × Int) : roundF (E80 k) (S80 k) Try.f80 p80_1 [R0] rec (n80_1 v.1 v.2.1 v.2.2.1 v.2.2.2.1 v.2.2.2.2.1 v.2.2.2.2.2.1 v.2.2.2.2.2.2) = spec_TurnsFromShares.s1 k (fun a0 a1 a2 a3 a4 => R0 (n80_0 a0 a1 a2 a3 a4)) (fun a0 a1 a2 a3 a4 a5 a6 => rec (n80_1 a0 a1 a2 a3 a4 a5 a6)) v.1 v.2.1 v.2.2.1 v.2.2.2.1 v.2.2.2.2.1 v.2.2.2.2.2.1 v.2.2.2.2.2.2 := by
  kernel_rfl
theorem q80_1 (k : Nat) (R0 : St → Option ((List Int) × Int)) (n : Nat) : ∀ v : (List Int) × Int × (List Int) × (List Int) × Int × Int × Int, loopF (E80 k) (S80 k) Try.f80 p80_1 [R0] n (n80_1 v.1 v.2.1 v.2.2.1 v.2.2.2.1 v.2.2.2.2.1 v.2.2.2.2.2.1 v.2.2.2.2.2.2) = spec_TurnsFromShares.l1 k (fun a0 a1 a2 a3 a4 => R0 (n80_0 a0 a1 a2 a3 a4)) n v.1 v.2.1 v.2.2.1 v.2.2.2.1 v.2.2.2.2.1 v.2.2.2.2.2.1 v.2.2.2.2.2.2 :=
  loopF_eq (E80 k) (S80 k) Try.f80 p80_1 [R0] (fun v : (List Int) × Int × (List Int) × (List Int) × Int × Int × Int => n80_1 v.1 v.2.1 v.2.2.1 v.2.2.2.1 v.2.2.2.2.1 v.2.2.2.2.2.1 v.2.2.2.2.2.2) (fun rec v => spec_TurnsFromShares.s1 k (fun a0 a1 a2 a3 a4 => R0 (n80_0 a0 a1 a2 a3 a4)) (fun a0 a1 a2 a3 a4 a5 a6 => rec (a0, a1, a2, a3, a4, a5, a6)) v.1 v.2.1 v.2.2.1 v.2.2.2.1 v.2.2.2.2.1 v.2.2.2.2.2.1 v.2.2.2.2.2.2) (fun n v => spec_TurnsFromShares.l1 k (fun a0 a1 a2 a3 a4 => R0 (n80_0 a0 a1 a2 a3 a4)) n v.1 v.2.1 v.2.2.1 v.2.2.2.1 v.2.2.2.2.1 v.2.2.2.2.2.1 v.2.2.2.2.2.2) (fun _ => rfl) (fun _ _ => rfl) (fun rec v => r80_1 k R0 rec v) n
theorem r80_0 (k : Nat) (rec : St → Option ((List Int) × Int)) (G1 : (List Int) → Int → (List Int) → (List Int) → Int → Int → Int → Option ((List Int) × Int)) (h1 : ∀ a0 a1 a2 a3 a4 a5 a6, loopF (E80 k) (S80 k) Try.f80 p80_1 [rec] k (n80_1 a0 a1 a2 a3 a4 a5 a6) = G1 a0 a1 a2 a3 a4 a5 a6) (v : (List Int) × Int × (List Int) × (List Int) × Int) : roundF (E80 k) (S80 k) Try.f80 p80_0 [] rec (n80_0 v.1 v.2.1 v.2.2.1 v.2.2.2.1 v.2.2.2.2) = spec_TurnsFromShares.s0 k (fun a0 a1 a2 a3 a4 => rec (n80_0 a0 a1 a2 a3 a4)) G1 v.1 v.2.1 v.2.2.1 v.2.2.2.1 v.2.2.2.2 := by
  obtain rfl : (fun a0 a1 a2 a3 a4 a5 a6 => loopF (E80 k) (S80 k) Try.f80 p80_1 [rec] k (n80_1 a0 a1 a2 a3 a4 a5 a6)) = G1 := funext fun a0 => funext fun a1 => funext fun a2 => funext fun a3 => funext fun a4 => funext fun a5 => funext fun a6 => h1 a0 a1 a2 a3 a4 a5 a6
  kernel_rfl
theorem q80_0 (k : Nat) (n : Nat) : ∀ v : (List Int) × Int × (List Int) × (List Int) × Int, loopF (E80 k) (S80 k) Try.f80 p80_0 [] n (n80_0 v.1 v.2.1 v.2.2.1 v.2.2.2.1 v.2.2.2.2) = spec_TurnsFromShares.l0 k n v.1 v.2.1 v.2.2.1 v.2.2.2.1 v.2.2.2.2 :=
  loopF_eq (E80 k) (S80 k) Try.f80 p80_0 [] (fun v : (List Int) × Int × (List Int) × (List Int) × Int => n80_0 v.1 v.2.1 v.2.2.1 v.2.2.2.1 v.2.2.2.2) (fun rec v => spec_TurnsFromShares.s0 k (fun a0 a1 a2 a3 a4 => rec (a0, a1, a2, a3, a4)) (spec_TurnsFromShares.l1 k (fun a0 a1 a2 a3 a4 => rec (a0, a1, a2, a3, a4)) k) v.1 v.2.1 v.2.2.1 v.2.2.2.1 v.2.2.2.2) (fun n v => spec_TurnsFromShares.l0 k n v.1 v.2.1 v.2.2.1 v.2.2.2.1 v.2.2.2.2) (fun _ => rfl) (fun _ _ => rfl) (fun rec v => r80_0 k rec _ (fun a0 a1 a2 a3 a4 a5 a6 => q80_1 k rec k (a0, a1, a2, a3, a4, a5, a6)) v) n
theorem e80 (k : Nat) (x : dens (flatC (S80 k).ps)) : funK (E80 k) (S80 k) Try.f80 x = (S80 k).fn x := by
  have h : funK (E80 k) (S80 k) Try.f80 x = spec_TurnsFromShares.g k (fun a0 a1 a2 a3 a4 => loopF (E80 k) (S80 k) Try.f80 p80_0 [] k (n80_0 a0 a1 a2 a3 a4)) x := by kernel_rfl
  rw [h]
  rw [show (fun a0 a1 a2 a3 a4 => loopF (E80 k) (S80 k) Try.f80 p80_0 [] k (n80_0 a0 a1 a2 a3 a4)) = spec_TurnsFromShares.l0 k k from funext fun a0 => funext fun a1 => funext fun a2 => funext fun a3 => funext fun a4 => q80_0 k k (a0, a1, a2, a3, a4)]
  rfl
theorem M80 (k : Nat) : Meets Try.prog 80 (S80 k) := meets_of Try.func80 (by kernel_rfl) tbOk (orc_cons (M148 k) orc_nil) mixOk (fun x y h => (e80 k x).trans h) rfl

/-! impl_divisor: function 169 -/
noncomputable def impl_divisor.s0 (k : Nat) (r0 : Int → Int → Option (Int)) (x0 : Int) (x1 : Int) : Option (Int) := if x1 = 0 then (some x0) else (if x1 = 0 then (none) else (r0 x1 (Int.tmod x0 x1)))
noncomputable def impl_divisor.l0 (k : Nat) : Nat → Int → Int → Option (Int)
  | 0, _, _ => none
  | n + 1, x0, x1 => impl_divisor.s0 k (impl_divisor.l0 k n) x0 x1
noncomputable def impl_divisor.g (k : Nat) (r0 : Int → Int → Option (Int)) (a0 : Int) (a1 : Int) : Option (Int) := r0 a0 a1
noncomputable def impl_divisor.f (k : Nat) (a0 : Int) (a1 : Int) : Option (Int) := impl_divisor.g k (impl_divisor.l0 k k) a0 a1
noncomputable def S169 (k : Nat) : Does := ⟨[(false, [.dat (.int .i64)]), (false, [.dat (.int .i64)])], [(false, [.dat (.int .i64)])], fun x => impl_divisor.f k x.1 x.2⟩
noncomputable def E169 (k : Nat) : En := ⟨tb, orcOf [], lvOf [(0, [(0, []), (1, [])])], k, 0, lvOf [], []⟩
noncomputable def n169_0 (x0 : Int) (x1 : Int) : St := ⟨12, lookA [(0, .dat (.int .i64) x0), (1, .dat (.int .i64) x1)], Go.V.look []⟩
def p169_0 : List Bool := [true, false, false]
theorem r169_0 (k : Nat) (rec : St → Option (Int)) (v : Int × Int) : roundF (E169 k) (S169 k) Try.f169 p169_0 [] rec (n169_0 v.1 v.2) = impl_divisor.s0 k (fun a0 a1 => rec (n169_0 a0 a1)) v.1 v.2 := by
  kernel_rfl
theorem q169_0 (k : Nat) (n : Nat) : ∀ v : Int × Int, loopF (E169 k) (S169 k) Try.f169 p169_0 [] n (n169_0 v.1 v.2) = impl_divisor.l0 k n v.1 v.2 :=
  loopF_eq (E169 k) (S169 k) Try.f169 p169_0 [] (fun v : Int × Int => n169_0 v.1 v.2) (fun rec v => impl_divisor.s0 k (fun a0 a1 => rec (a0, a1)) v.1 v.2) (fun n v => impl_divisor.l0 k n v.1 v.2) (fun _ => rfl) (fun _ _ => rfl) (fun rec v => r169_0 k rec v) n
theorem e169 (k : Nat) (x : dens (flatC (S169 k).ps)) : funK (E169 k) (S169 k) Try.f169 x = (S169 k).fn x := by
  have h : funK (E169 k) (S169 k) Try.f169 x = impl_divisor.g k (fun a0 a1 => loopF (E169 k) (S169 k) Try.f169 p169_0 [] k (n169_0 a0 a1)) x.1 x.2 := by kernel_rfl
  rw [h]
  rw [show (fun a0 a1 => loopF (E169 k) (S169 k) Try.f169 p169_0 [] k (n169_0 a0 a1)) = impl_divisor.l0 k k from funext fun a0 => funext fun a1 => q169_0 k k (a0, a1)]
  rfl
theorem M169 (k : Nat) : Meets Try.prog 169 (S169 k) := meets_of Try.func169 (by kernel_rfl) tbOk orc_nil mixOk (fun x y h => (e169 k x).trans h) rfl

/-! impl_Tasks_multiple: function 149 -/
noncomputable def impl_Tasks_multiple.s0 (k : Nat) (r0 : Int → (List Int) → Int → Int → Option (Int)) (x3 : Int) (x7 : List Int) (x8 : Int) (x9 : Int) : Option (Int) := if x9 < x8 then (if 0 ≤ x9 then (if x9 < (x7.length : Int) then ((impl_divisor.f k x3 (rd x7 x9)).bind fun t1 => if t1 = 0 then (none) else (r0 (wrap64 ((wrap64 (Int.tdiv x3 t1)) * (rd x7 x9))) x7 x8 (wrap64 (x9 + 1)))) else (none)) else (none)) else (some x3)
noncomputable def impl_Tasks_multiple.l0 (k : Nat) : Nat → Int → (List Int) → Int → Int → Option (Int)
  | 0, _, _, _, _ => none
  | n + 1, x0, x1, x2, x3 => impl_Tasks_multiple.s0 k (impl_Tasks_multiple.l0 k n) x0 x1 x2 x3
noncomputable def impl_Tasks_multiple.g (k : Nat) (r0 : Int → (List Int) → Int → Int → Option (Int)) (l0_0 : List Int) : Option (Int) := r0 1 l0_0 (l0_0.length : Int) 0
noncomputable def impl_Tasks_multiple.f (k : Nat) (l0_0 : List Int) : Option (Int) := impl_Tasks_multiple.g k (impl_Tasks_multiple.l0 k k) l0_0
noncomputable def S149 (k : Nat) : Does := ⟨[(true, [.dat (.list (.int .i64))])], [(false, [.dat (.int .i64)])], fun x => impl_Tasks_multiple.f k x⟩
noncomputable def E149 (k : Nat) : En := ⟨tb, orcOf [(169, S169 k)], lvOf [(0, [(3, []), (7, []), (8, []), (9, [])])], k, 0, lvOf [], []⟩
noncomputable def n149_0 (x3 : Int) (x7 : List Int) (x8 : Int) (x9 : Int) : St := ⟨22, lookA [(3, .dat (.int .i64) x3), (7, .dat (.list (.int .i64)) x7), (8, .dat (.int .i64) x8), (9, .dat (.int .i64) x9)], Go.V.look []⟩
def p149_0 : List Bool := [true, true, false, true, false]
theorem r149_0 (k : Nat) (rec : St → Option (Int)) (v : Int × (List Int) × Int × Int) : roundF (E149 k) (S149 k) Try.f149 p149_0 [] rec (n149_0 v.1 v.2.1 v.2.2.1 v.2.2.2) = impl_Tasks_multiple.s0 k (fun a0 a1 a2 a3 => rec (n149_0 a0 a1 a2 a3)) v.1 v.2.1 v.2.2.1 v.2.2.2 := by
  kernel_rfl
theorem q149_0 (k : Nat) (n : Nat) : ∀ v : Int × (List Int) × Int × Int, loopF (E149 k) (S149 k) Try.f149 p149_0 [] n (n149_0 v.1 v.2.1 v.2.2.1 v.2.2.2) = impl_Tasks_multiple.l0 k n v.1 v.2.1 v.2.2.1 v.2.2.2 :=
  loopF_eq (E149 k) (S149 k) Try.f149 p149_0 [] (fun v : Int × (List Int) × Int × Int => n149_0 v.1 v.2.1 v.2.2.1 v.2.2.2) (fun rec v => impl_Tasks_multiple.s0 k (fun a0 a1 a2 a3 => rec (a0, a1, a2, a3)) v.1 v.2.1 v.2.2.1 v.2.2.2) (fun n v => impl_Tasks_multiple.l0 k n v.1 v.2.1 v.2.2.1 v.2.2.2) (fun _ => rfl) (fun _ _ => rfl) (fun rec v => r149_0 k rec v) n
theorem e149 (k : Nat) (x : dens (flatC (S149 k).ps)) : funK (E149 k) (S149 k) Try.f149 x = (S149 k).fn x := by
  have h : funK (E149 k) (S149 k) Try.f149 x = impl_Tasks_multiple.g k (fun a0 a1 a2 a3 => loopF (E149 k) (S149 k) Try.f149 p149_0 [] k (n149_0 a0 a1 a2 a3)) x := by kernel_rfl
  rw [h]
  rw [show (fun a0 a1 a2 a3 => loopF (E149 k) (S149 k) Try.f149 p149_0 [] k (n149_0 a0 a1 a2 a3)) = impl_Tasks_multiple.l0 k k from funext fun a0 => funext fun a1 => funext fun a2 => funext fun a3 => q149_0 k k (a0, a1, a2, a3)]
  rfl
theorem M149 (k : Nat) : Meets Try.prog 149 (S149 k) := meets_of Try.func149 (by kernel_rfl) tbOk (orc_cons (M169 k) orc_nil) mixOk (fun x y h => (e149 k x).trans h) rfl

/-! impl_fraction: function 133 -/
noncomputable def impl_fraction.f (k : Nat) (a0 : Int) (a1 : Int) : Option (Int × Int × Int) := (impl_divisor.f k a0 a1).bind fun t1 => if t1 = 0 then (none) else (if t1 = 0 then (none) else (some ((wrap64 (Int.tdiv a0 t1)), (wrap64 (Int.tdiv a1 t1)), 0)))
noncomputable def S133 (k : Nat) : Does := ⟨[(false, [.dat (.int .i64)]), (false, [.dat (.int .i64)])], [(false, [.dat (.int .i64)]), (false, [.dat (.int .i64)]), (false, [.dat (.int .i64)])], fun x => impl_fraction.f k x.1 x.2⟩
noncomputable def E133 (k : Nat) : En := ⟨tb, orcOf [(169, S169 k)], lvOf [], k, 0, lvOf [], []⟩
theorem e133 (k : Nat) (x : dens (flatC (S133 k).ps)) : funK (E133 k) (S133 k) Try.f133 x = (S133 k).fn x := by
  kernel_rfl
theorem M133 (k : Nat) : Meets Try.prog 133 (S133 k) := meets_of Try.func133 (by kernel_rfl) tbOk (orc_cons (M169 k) orc_nil) mixOk (fun x y h => (e133 k x).trans h) rfl

/-! impl_EvenMean: function 81 -/
noncomputable def impl_EvenMean.s0 (k : Nat) (r0 : (List Int) → Int → Int → Int → (List Int) → Int → Int → Option (Int × Int × Int)) (x0 : List Int) (x5 : Int) (x6 : Int) (x7 : Int) (x18 : List Int) (x19 : Int) (x20 : Int) : Option (Int × Int × Int) := if x20 < x19 then (if 0 ≤ x20 then (if x20 < (x18.length : Int) then (if (rd x18 x20) = 0 then (none) else (r0 x0 x5 x6 (wrap64 (x7 + (wrap64 ((wrap64 (x5 - (rd x18 x20))) * (wrap64 (Int.tdiv x6 (rd x18 x20))))))) x18 x19 (wrap64 (x20 + 1)))) else (none)) else (none)) else ((impl_length_int64.f x0).bind fun t4 => (impl_fraction.f k x7 (wrap64 ((wrap64 (2 * x6)) * t4))).bind fun t5 => some (t5.1, t5.2.1, t5.2.2))
noncomputable def impl_EvenMean.l0 (k : Nat) : Nat → (List Int) → Int → Int → Int → (List Int) → Int → Int → Option (Int × Int × Int)
  | 0, _, _, _, _, _, _, _ => none
  | n + 1, x0, x1, x2, x3, x4, x5, x6 => impl_EvenMean.s0 k (impl_EvenMean.l0 k n) x0 x1 x2 x3 x4 x5 x6
noncomputable def impl_EvenMean.g (k : Nat) (r0 : (List Int) → Int → Int → Int → (List Int) → Int → Int → Option (Int × Int × Int)) (l0 : List Int) : Option (Int × Int × Int) := (impl_areSharesOf.f k l0).bind fun t1 => if t1 = true then ((impl_total.f k l0).bind fun t2 => (impl_Tasks_multiple.f k l0).bind fun t3 => r0 l0 t2 t3 0 l0 (l0.length : Int) 0) else (some (0, 0, 2))
noncomputable def impl_EvenMean.f (k : Nat) (l0 : List Int) : Option (Int × Int × Int) := impl_EvenMean.g k (impl_EvenMean.l0 k k) l0
noncomputable def S81 (k : Nat) : Does := ⟨[(false, [.dat (.list (.int .i64))])], [(false, [.dat (.int .i64)]), (false, [.dat (.int .i64)]), (false, [.dat (.int .i64)])], fun x => impl_EvenMean.f k x⟩
noncomputable def E81 (k : Nat) : En := ⟨tb, orcOf [(147, S147 k), (142, S142 k), (149, S149 k), (101, S101 k), (133, S133 k)], lvOf [(0, [(0, []), (5, []), (6, []), (7, []), (18, []), (19, []), (20, [])])], k, 0, lvOf [], []⟩
noncomputable def n81_0 (x0 : List Int) (x5 : Int) (x6 : Int) (x7 : Int) (x18 : List Int) (x19 : Int) (x20 : Int) : St := ⟨44, lookA [(0, .dat (.list (.int .i64)) x0), (5, .dat (.int .i64) x5), (6, .dat (.int .i64) x6), (7, .dat (.int .i64) x7), (18, .dat (.list (.int .i64)) x18), (19, .dat (.int .i64) x19), (20, .dat (.int .i64) x20)], Go.V.look []⟩
def p81_0 : List Bool := [true, true, true, true, false, true, false]
theorem r81_0 (k : Nat) (rec : St → Option (Int × Int × Int)) (v : (List Int) × Int × Int × Int × (List Int) × Int × Int) : roundF (E81 k) (S81 k) Try.f81 p81_0 [] rec (n81_0 v.1 v.2.1 v.2.2.1 v.2.2.2.1 v.2.2.2.2.1 v.2.2.2.2.2.1 v.2.2.2.2.2.2) = impl_EvenMean.s0 k (fun a0 a1 a2 a3 a4 a5 a6 => rec (n81_0 a0 a1 a2 a3 a4 a5 a6)) v.1 v.2.1 v.2.2.1 v.2.2.2.1 v.2.2.2.2.1 v.2.2.2.2.2.1 v.2.2.2.2.2.2 := by
  kernel_rfl
theorem q81_0 (k : Nat) (n : Nat) : ∀ v : (List Int) × Int × Int × Int × (List Int) × Int × Int, loopF (E81 k) (S81 k) Try.f81 p81_0 [] n (n81_0 v.1 v.2.1 v.2.2.1 v.2.2.2.1 v.2.2.2.2.1 v.2.2.2.2.2.1 v.2.2.2.2.2.2) = impl_EvenMean.l0 k n v.1 v.2.1 v.2.2.1 v.2.2.2.1 v.2.2.2.2.1 v.2.2.2.2.2.1 v.2.2.2.2.2.2 :=
  loopF_eq (E81 k) (S81 k) Try.f81 p81_0 [] (fun v : (List Int) × Int × Int × Int × (List Int) × Int × Int => n81_0 v.1 v.2.1 v.2.2.1 v.2.2.2.1 v.2.2.2.2.1 v.2.2.2.2.2.1 v.2.2.2.2.2.2) (fun rec v => impl_EvenMean.s0 k (fun a0 a1 a2 a3 a4 a5 a6 => rec (a0, a1, a2, a3, a4, a5, a6)) v.1 v.2.1 v.2.2.1 v.2.2.2.1 v.2.2.2.2.1 v.2.2.2.2.2.1 v.2.2.2.2.2.2) (fun n v => impl_EvenMean.l0 k n v.1 v.2.1 v.2.2.1 v.2.2.2.1 v.2.2.2.2.1 v.2.2.2.2.2.1 v.2.2.2.2.2.2) (fun _ => rfl) (fun _ _ => rfl) (fun rec v => r81_0 k rec v) n
theorem e81 (k : Nat) (x : dens (flatC (S81 k).ps)) : funK (E81 k) (S81 k) Try.f81 x = (S81 k).fn x := by
  have h : funK (E81 k) (S81 k) Try.f81 x = impl_EvenMean.g k (fun a0 a1 a2 a3 a4 a5 a6 => loopF (E81 k) (S81 k) Try.f81 p81_0 [] k (n81_0 a0 a1 a2 a3 a4 a5 a6)) x := by kernel_rfl
  rw [h]
  rw [show (fun a0 a1 a2 a3 a4 a5 a6 => loopF (E81 k) (S81 k) Try.f81 p81_0 [] k (n81_0 a0 a1 a2 a3 a4 a5 a6)) = impl_EvenMean.l0 k k from funext fun a0 => funext fun a1 => funext fun a2 => funext fun a3 => funext fun a4 => funext fun a5 => funext fun a6 => q81_0 k k (a0, a1, a2, a3, a4, a5, a6)]
  rfl
theorem M81 (k : Nat) : Meets Try.prog 81 (S81 k) := meets_of Try.func81 (by kernel_rfl) tbOk (orc_cons (M147 k) (orc_cons (M142 k) (orc_cons (M149 k) (orc_cons (M101 k) (orc_cons (M133 k) orc_nil))))) mixOk (fun x y h => (e81 k x).trans h) rfl

/-! spec_l01Gcd: function 171 -/
noncomputable def spec_l01Gcd.s0 (k : Nat) (r0 : Int → Int → Option (Int)) (x0 : Int) (x1 : Int) : Option (Int) := if x1 = 0 then (some x0) else (if x1 = 0 then (none) else (r0 x1 (Int.tmod x0 x1)))
noncomputable def spec_l01Gcd.l0 (k : Nat) : Nat → Int → Int → Option (Int)
  | 0, _, _ => none
  | n + 1, x0, x1 => spec_l01Gcd.s0 k (spec_l01Gcd.l0 k n) x0 x1
noncomputable def spec_l01Gcd.g (k : Nat) (r0 : Int → Int → Option (Int)) (a0 : Int) (a1 : Int) : Option (Int) := r0 a0 a1
noncomputable def spec_l01Gcd.f (k : Nat) (a0 : Int) (a1 : Int) : Option (Int) := spec_l01Gcd.g k (spec_l01Gcd.l0 k k) a0 a1
noncomputable def S171 (k : Nat) : Does := ⟨[(false, [.dat (.int .i64)]), (false, [.dat (.int .i64)])], [(false, [.dat (.int .i64)])], fun x => spec_l01Gcd.f k x.1 x.2⟩
noncomputable def E171 (k : Nat) : En := ⟨tb, orcOf [], lvOf [(0, [(0, []), (1, [])])], k, 0, lvOf [], []⟩
noncomputable def n171_0 (x0 : Int) (x1 : Int) : St := ⟨14, lookA [(0, .dat (.int .i64) x0), (1, .dat (.int .i64) x1)], Go.V.look []⟩
def p171_0 : List Bool := [true, false, false]
theorem r171_0 (k : Nat) (rec : St → Option (Int)) (v : Int × Int) : roundF (E171 k) (S171 k) Try.f171 p171_0 [] rec (n171_0 v.1 v.2) = spec_l01Gcd.s0 k (fun a0 a1 => rec (n171_0 a0 a1)) v.1 v.2 := by
  kernel_rfl
theorem q171_0 (k : Nat) (n : Nat) : ∀ v : Int × Int, loopF (E171 k) (S171 k) Try.f171 p171_0 [] n (n171_0 v.1 v.2) = spec_l01Gcd.l0 k n v.1 v.2 :=
  loopF_eq (E171 k) (S171 k) Try.f171 p171_0 [] (fun v : Int × Int => n171_0 v.1 v.2) (fun rec v => spec_l01Gcd.s0 k (fun a0 a1 => rec (a0, a1)) v.1 v.2) (fun n v => spec_l01Gcd.l0 k n v.1 v.2) (fun _ => rfl) (fun _ _ => rfl) (fun rec v => r171_0 k rec v) n
theorem e171 (k : Nat) (x : dens (flatC (S171 k).ps)) : funK (E171 k) (S171 k) Try.f171 x = (S171 k).fn x := by
  have h : funK (E171 k) (S171 k) Try.f171 x = spec_l01Gcd.g k (fun a0 a1 => loopF (E171 k) (S171 k) Try.f171 p171_0 [] k (n171_0 a0 a1)) x.1 x.2 := by kernel_rfl
  rw [h]
  rw [show (fun a0 a1 => loopF (E171 k) (S171 k) Try.f171 p171_0 [] k (n171_0 a0 a1)) = spec_l01Gcd.l0 k k from funext fun a0 => funext fun a1 => q171_0 k k (a0, a1)]
  rfl
theorem M171 (k : Nat) : Meets Try.prog 171 (S171 k) := meets_of Try.func171 (by kernel_rfl) tbOk orc_nil mixOk (fun x y h => (e171 k x).trans h) rfl

/-! spec_l01Lowest: function 125 -/
noncomputable def spec_l01Lowest.f (k : Nat) (a0 : Int) (a1 : Int) : Option (Int × Int) := (spec_l01Gcd.f k a0 a1).bind fun t1 => if t1 = 0 then (none) else (if t1 = 0 then (none) else (some ((wrap64 (Int.tdiv a0 t1)), (wrap64 (Int.tdiv a1 t1)))))
noncomputable def S125 (k : Nat) : Does := ⟨[(false, [.dat (.int .i64)]), (false, [.dat (.int .i64)])], [(false, [.dat (.int .i64)]), (false, [.dat (.int .i64)])], fun x => spec_l01Lowest.f k x.1 x.2⟩
noncomputable def E125 (k : Nat) : En := ⟨tb, orcOf [(171, S171 k)], lvOf [], k, 0, lvOf [], []⟩
theorem e125 (k : Nat) (x : dens (flatC (S125 k).ps)) : funK (E125 k) (S125 k) Try.f125 x = (S125 k).fn x := by
  kernel_rfl
theorem M125 (k : Nat) : Meets Try.prog 125 (S125 k) := meets_of Try.func125 (by kernel_rfl) tbOk (orc_cons (M171 k) orc_nil) mixOk (fun x y h => (e125 k x).trans h) rfl

/-! spec_EvenMean: function 82 -/
noncomputable def spec_EvenMean.s0 (k : Nat) (r0 : (List Int) → Int → Int → Int → Int → Option (Int × Int × Int)) (x0 : List Int) (x5 : Int) (x6 : Int) (x7 : Int) (x8 : Int) : Option (Int × Int × Int) := if x8 < (x0.length : Int) then (if 0 ≤ x8 then (if x8 < (x0.length : Int) then (if 0 ≤ x8 then (if x8 < (x0.length : Int) then (if 0 ≤ x8 then (if x8 < (x0.length : Int) then ((spec_l01Lowest.f k (wrap64 ((wrap64 ((wrap64 (x6 * 2)) * (rd x0 x8))) + (wrap64 ((wrap64 (x5 - (rd x0 x8))) * x7)))) (wrap64 ((wrap64 (x7 * 2)) * (rd x0 x8)))).bind fun t2 => r0 x0 x5 t2.1 t2.2 (wrap64 (x8 + 1))) else (none)) else (none)) else (none)) else (none)) else (none)) else (none)) else ((spec_l01Lowest.f k x6 (wrap64 (x7 * (x0.length : Int)))).bind fun t3 => some (t3.1, t3.2, 0))
noncomputable def spec_EvenMean.l0 (k : Nat) : Nat → (List Int) → Int → Int → Int → Int → Option (Int × Int × Int)
  | 0, _, _, _, _, _ => none
  | n + 1, x0, x1, x2, x3, x4 => spec_EvenMean.s0 k (spec_EvenMean.l0 k n) x0 x1 x2 x3 x4
noncomputable def spec_EvenMean.g (k : Nat) (r0 : (List Int) → Int → Int → Int → Int → Option (Int × Int × Int)) (l0 : List Int) : Option (Int × Int × Int) := (spec_l10Shares.f k l0).bind fun t1 => if t1 = 0 then (some (0, 0, 2)) else (r0 l0 t1 0 1 0)
noncomputable def spec_EvenMean.f (k : Nat) (l0 : List Int) : Option (Int × Int × Int) := spec_EvenMean.g k (spec_EvenMean.l0 k k) l0
noncomputable def S82 (k : Nat) : Does := ⟨[(false, [.dat (.list (.int .i64))])], [(false, [.dat (.int .i64)]), (false, [.dat (.int .i64)]), (false, [.dat (.int .i64)])], fun x => spec_EvenMean.f k x⟩
noncomputable def E82 (k : Nat) : En := ⟨tb, orcOf [(148, S148 k), (125, S125 k)], lvOf [(0, [(0, []), (5, []), (6, []), (7, []), (8, [])])], k, 0, lvOf [], []⟩
noncomputable def n82_0 (x0 : List Int) (x5 : Int) (x6 : Int) (x7 : Int) (x8 : Int) : St := ⟨57, lookA [(0, .dat (.list (.int .i64)) x0), (5, .dat (.int .i64) x5), (6, .dat (.int .i64) x6), (7, .dat (.int .i64) x7), (8, .dat (.int .i64) x8)], Go.V.look []⟩
def p82_0 : List Bool := [true, true, true, true, false, true, false]
theorem r82_0 (k : Nat) (rec : St → Option (Int × Int × Int)) (v : (List Int) × Int × Int × Int × Int) : roundF (E82 k) (S82 k) Try.f82 p82_0 [] rec (n82_0 v.1 v.2.1 v.2.2.1 v.2.2.2.1 v.2.2.2.2) = spec_EvenMean.s0 k (fun a0 a1 a2 a3 a4 => rec (n82_0 a0 a1 a2 a3 a4)) v.1 v.2.1 v.2.2.1 v.2.2.2.1 v.2.2.2.2 := by
  kernel_rfl
theorem q82_0 (k : Nat) (n : Nat) : ∀ v : (List Int) × Int × Int × Int × Int, loopF (E82 k) (S82 k) Try.f82 p82_0 [] n (n82_0 v.1 v.2.1 v.2.2.1 v.2.2.2.1 v.2.2.2.2) = spec_EvenMean.l0 k n v.1 v.2.1 v.2.2.1 v.2.2.2.1 v.2.2.2.2 :=
  loopF_eq (E82 k) (S82 k) Try.f82 p82_0 [] (fun v : (List Int) × Int × Int × Int × Int => n82_0 v.1 v.2.1 v.2.2.1 v.2.2.2.1 v.2.2.2.2) (fun rec v => spec_EvenMean.s0 k (fun a0 a1 a2 a3 a4 => rec (a0, a1, a2, a3, a4)) v.1 v.2.1 v.2.2.1 v.2.2.2.1 v.2.2.2.2) (fun n v => spec_EvenMean.l0 k n v.1 v.2.1 v.2.2.1 v.2.2.2.1 v.2.2.2.2) (fun _ => rfl) (fun _ _ => rfl) (fun rec v => r82_0 k rec v) n
theorem e82 (k : Nat) (x : dens (flatC (S82 k).ps)) : funK (E82 k) (S82 k) Try.f82 x = (S82 k).fn x := by
  have h : funK (E82 k) (S82 k) Try.f82 x = spec_EvenMean.g k (fun a0 a1 a2 a3 a4 => loopF (E82 k) (S82 k) Try.f82 p82_0 [] k (n82_0 a0 a1 a2 a3 a4)) x := by kernel_rfl
  rw [h]
  rw [show (fun a0 a1 a2 a3 a4 => loopF (E82 k) (S82 k) Try.f82 p82_0 [] k (n82_0 a0 a1 a2 a3 a4)) = spec_EvenMean.l0 k k from funext fun a0 => funext fun a1 => funext fun a2 => funext fun a3 => funext fun a4 => q82_0 k k (a0, a1, a2, a3, a4)]
  rfl
theorem M82 (k : Nat) : Meets Try.prog 82 (S82 k) := meets_of Try.func82 (by kernel_rfl) tbOk (orc_cons (M148 k) (orc_cons (M125 k) orc_nil)) mixOk (fun x y h => (e82 k x).trans h) rfl

/-! laws_sum: function 83 -/
noncomputable def laws_sum.s0 (k : Nat) (r0 : (List Int) → Int → Int → Option (Int)) (x0 : List Int) (x3 : Int) (x4 : Int) : Option (Int) := if x4 < (x0.length : Int) then (if 0 ≤ x4 then (if x4 < (x0.length : Int) then (r0 x0 (wrap64 (x3 + (rd x0 x4))) (wrap64 (x4 + 1))) else (none)) else (none)) else (some x3)
noncomputable def laws_sum.l0 (k : Nat) : Nat → (List Int) → Int → Int → Option (Int)
  | 0, _, _, _ => none
  | n + 1, x0, x1, x2 => laws_sum.s0 k (laws_sum.l0 k n) x0 x1 x2
noncomputable def laws_sum.g (k : Nat) (r0 : (List Int) → Int → Int → Option (Int)) (l0 : List Int) : Option (Int) := r0 l0 0 0
noncomputable def laws_sum.f (k : Nat) (l0 : List Int) : Option (Int) := laws_sum.g k (laws_sum.l0 k k) l0
noncomputable def S83 (k : Nat) : Does := ⟨[(false, [.dat (.list (.int .i64))])], [(false, [.dat (.int .i64)])], fun x => laws_sum.f k x⟩
noncomputable def E83 (k : Nat) : En := ⟨tb, orcOf [], lvOf [(0, [(0, []), (3, []), (4, [])])], k, 0, lvOf [], []⟩
noncomputable def n83_0 (x0 : List Int) (x3 : Int) (x4 : Int) : St := ⟨18, lookA [(0, .dat (.list (.int .i64)) x0), (3, .dat (.int .i64) x3), (4, .dat (.int .i64) x4)], Go.V.look []⟩
def p83_0 : List Bool := [true, true, false, true, false]
theorem r83_0 (k : Nat) (rec : St → Option (Int)) (v : (List Int) × Int × Int) : roundF (E83 k) (S83 k) Try.f83 p83_0 [] rec (n83_0 v.1 v.2.1 v.2.2) = laws_sum.s0 k (fun a0 a1 a2 => rec (n83_0 a0 a1 a2)) v.1 v.2.1 v.2.2 := by
  kernel_rfl
theorem q83_0 (k : Nat) (n : Nat) : ∀ v : (List Int) × Int × Int, loopF (E83 k) (S83 k) Try.f83 p83_0 [] n (n83_0 v.1 v.2.1 v.2.2) = laws_sum.l0 k n v.1 v.2.1 v.2.2 :=
  loopF_eq (E83 k) (S83 k) Try.f83 p83_0 [] (fun v : (List Int) × Int × Int => n83_0 v.1 v.2.1 v.2.2) (fun rec v => laws_sum.s0 k (fun a0 a1 a2 => rec (a0, a1, a2)) v.1 v.2.1 v.2.2) (fun n v => laws_sum.l0 k n v.1 v.2.1 v.2.2) (fun _ => rfl) (fun _ _ => rfl) (fun rec v => r83_0 k rec v) n
theorem e83 (k : Nat) (x : dens (flatC (S83 k).ps)) : funK (E83 k) (S83 k) Try.f83 x = (S83 k).fn x := by
  have h : funK (E83 k) (S83 k) Try.f83 x = laws_sum.g k (fun a0 a1 a2 => loopF (E83 k) (S83 k) Try.f83 p83_0 [] k (n83_0 a0 a1 a2)) x := by kernel_rfl
  rw [h]
  rw [show (fun a0 a1 a2 => loopF (E83 k) (S83 k) Try.f83 p83_0 [] k (n83_0 a0 a1 a2)) = laws_sum.l0 k k from funext fun a0 => funext fun a1 => funext fun a2 => q83_0 k k (a0, a1, a2)]
  rfl
theorem M83 (k : Nat) : Meets Try.prog 83 (S83 k) := meets_of Try.func83 (by kernel_rfl) tbOk orc_nil mixOk (fun x y h => (e83 k x).trans h) rfl

/-! impl_areTurns_1: function 177 -/
noncomputable def impl_areTurns_1.f (a0 : Int) (a1 : Int) : Option (Bool) := (impl_within.f a0 (-1) (wrap64 (a1 - 1))).bind fun t1 => some t1
noncomputable def S177 (k : Nat) : Does := ⟨[(false, [.dat (.int .i64)]), (false, [.dat (.ptr (.int .i64))])], [(false, [.dat .bool])], fun x => impl_areTurns_1.f x.1 x.2⟩
noncomputable def E177 (k : Nat) : En := ⟨tb, orcOf [(104, S104 k)], lvOf [], k, 0, lvOf [], []⟩
theorem e177 (k : Nat) (x : dens (flatC (S177 k).ps)) : funK (E177 k) (S177 k) Try.f177 x = (S177 k).fn x := by
  kernel_rfl
theorem M177 (k : Nat) : Meets Try.prog 177 (S177 k) := meets_of Try.func177 (by kernel_rfl) tbOk (orc_cons (M104 k) orc_nil) mixOk (fun x y h => (e177 k x).trans h) rfl

/-! impl_areAll_int64_1_impl_areTurns_1: function 185 -/
noncomputable def impl_areAll_int64_1_impl_areTurns_1.f (a0 : Int) (a1 : Int) : Option (Bool) := (impl_areTurns_1.f a0 a1).bind fun t1 => some (!decide (t1 = true))
noncomputable def S185_c177 (k : Nat) : Does := ⟨[(false, [.dat (.int .i64)]), (false, [.dat (.ptr (.clo 177 (.ptr (.int .i64))))])], [(false, [.dat .bool])], fun x => impl_areAll_int64_1_impl_areTurns_1.f x.1 x.2⟩
noncomputable def E185_c177 (k : Nat) : En := ⟨tb, orcOf [(177, S177 k)], lvOf [], k, 0, lvOf [], []⟩
theorem e185_c177 (k : Nat) (x : dens (flatC (S185_c177 k).ps)) : funK (E185_c177 k) (S185_c177 k) Try.f185 x = (S185_c177 k).fn x := by
  kernel_rfl
theorem M185_c177 (k : Nat) : Meets Try.prog 185 (S185_c177 k) := meets_of Try.func185 (by kernel_rfl) tbOk (orc_cons (M177 k) orc_nil) mixOk (fun x y h => (e185_c177 k x).trans h) rfl

/-! slices_IndexFunc_int64_int64_impl_areAll_int64_1_impl_areTurns_1: function 191 -/
noncomputable def slices_IndexFunc_int64_int64_impl_areAll_int64_1_impl_areTurns_1.s0 (k : Nat) (r0 : (List Int) → Int → Int → Int → Option (Int)) (x0 : List Int) (x1 : Int) (x7 : Int) (x8 : Int) : Option (Int) := if x8 < x7 then (if 0 ≤ x8 then (if x8 < (x0.length : Int) then ((impl_areAll_int64_1_impl_areTurns_1.f (rd x0 x8) x1).bind fun t1 => if t1 = true then (some x8) else (r0 x0 x1 x7 (wrap64 (x8 + 1)))) else (none)) else (none)) else (some (-1))
noncomputable def slices_IndexFunc_int64_int64_impl_areAll_int64_1_impl_areTurns_1.l0 (k : Nat) : Nat → (List Int) → Int → Int → Int → Option (Int)
  | 0, _, _, _, _ => none
  | n + 1, x0, x1, x2, x3 => slices_IndexFunc_int64_int64_impl_areAll_int64_1_impl_areTurns_1.s0 k (slices_IndexFunc_int64_int64_impl_areAll_int64_1_impl_areTurns_1.l0 k n) x0 x1 x2 x3
noncomputable def slices_IndexFunc_int64_int64_impl_areAll_int64_1_impl_areTurns_1.g (k : Nat) (r0 : (List Int) → Int → Int → Int → Option (Int)) (l0 : List Int) (a1 : Int) : Option (Int) := r0 l0 a1 (l0.length : Int) 0
noncomputable def slices_IndexFunc_int64_int64_impl_areAll_int64_1_impl_areTurns_1.f (k : Nat) (l0 : List Int) (a1 : Int) : Option (Int) := slices_IndexFunc_int64_int64_impl_areAll_int64_1_impl_areTurns_1.g k (slices_IndexFunc_int64_int64_impl_areAll_int64_1_impl_areTurns_1.l0 k k) l0 a1
noncomputable def S191_c185c177 (k : Nat) : Does := ⟨[(false, [.dat (.list (.int .i64))]), (false, [.dat (.clo 185 (.ptr (.clo 177 (.ptr (.int .i64)))))])], [(false, [.dat (.int .i64)])], fun x => slices_IndexFunc_int64_int64_impl_areAll_int64_1_impl_areTurns_1.f k x.1 x.2⟩
noncomputable def E191_c185c177 (k : Nat) : En := ⟨tb, orcOf [(185, S185_c177 k)], lvOf [(0, [(0, []), (1, []), (7, []), (8, [])])], k, 0, lvOf [], []⟩
noncomputable def n191_c185c177_0 (x0 : List Int) (x1 : Int) (x7 : Int) (x8 : Int) : St := ⟨19, lookA [(0, .dat (.list (.int .i64)) x0), (1, .dat (.clo 185 (.ptr (.clo 177 (.ptr (.int .i64))))) x1), (7, .dat (.int .i64) x7), (8, .dat (.int .i64) x8)], Go.V.look []⟩
def p191_c185c177_0 : List Bool := [true, false, true, false]
theorem r191_c185c177_0 (k : Nat) (rec : St → Option (Int)) (v : (List Int) × Int × Int × Int) : roundF (E191_c185c177 k) (S191_c185c177 k) Try.f191 p191_c185c177_0 [] rec (n191_c185c177_0 v.1 v.2.1 v.2.2.1 v.2.2.2) = slices_IndexFunc_int64_int64_impl_areAll_int64_1_impl_areTurns_1.s0 k (fun a0 a1 a2 a3 => rec (n191_c185c177_0 a0 a1 a2 a3)) v.1 v.2.1 v.2.2.1 v.2.2.2 := by
  kernel_rfl
theorem q191_c185c177_0 (k : Nat) (n : Nat) : ∀ v : (List Int) × Int × Int × Int, loopF (E191_c185c177 k) (S191_c185c177 k) Try.f191 p191_c185c177_0 [] n (n191_c185c177_0 v.1 v.2.1 v.2.2.1 v.2.2.2) = slices_IndexFunc_int64_int64_impl_areAll_int64_1_impl_areTurns_1.l0 k n v.1 v.2.1 v.2.2.1 v.2.2.2 :=
  loopF_eq (E191_c185c177 k) (S191_c185c177 k) Try.f191 p191_c185c177_0 [] (fun v : (List Int) × Int × Int × Int => n191_c185c177_0 v.1 v.2.1 v.2.2.1 v.2.2.2) (fun rec v => slices_IndexFunc_int64_int64_impl_areAll_int64_1_impl_areTurns_1.s0 k (fun a0 a1 a2 a3 => rec (a0, a1, a2, a3)) v.1 v.2.1 v.2.2.1 v.2.2.2) (fun n v => slices_IndexFunc_int64_int64_impl_areAll_int64_1_impl_areTurns_1.l0 k n v.1 v.2.1 v.2.2.1 v.2.2.2) (fun _ => rfl) (fun _ _ => rfl) (fun rec v => r191_c185c177_0 k rec v) n
theorem e191_c185c177 (k : Nat) (x : dens (flatC (S191_c185c177 k).ps)) : funK (E191_c185c177 k) (S191_c185c177 k) Try.f191 x = (S191_c185c177 k).fn x := by
  have h : funK (E191_c185c177 k) (S191_c185c177 k) Try.f191 x = slices_IndexFunc_int64_int64_impl_areAll_int64_1_impl_areTurns_1.g k (fun a0 a1 a2 a3 => loopF (E191_c185c177 k) (S191_c185c177 k) Try.f191 p191_c185c177_0 [] k (n191_c185c177_0 a0 a1 a2 a3)) x.1 x.2 := by kernel_rfl
  rw [h]
  rw [show (fun a0 a1 a2 a3 => loopF (E191_c185c177 k) (S191_c185c177 k) Try.f191 p191_c185c177_0 [] k (n191_c185c177_0 a0 a1 a2 a3)) = slices_IndexFunc_int64_int64_impl_areAll_int64_1_impl_areTurns_1.l0 k k from funext fun a0 => funext fun a1 => funext fun a2 => funext fun a3 => q191_c185c177_0 k k (a0, a1, a2, a3)]
  rfl
theorem M191_c185c177 (k : Nat) : Meets Try.prog 191 (S191_c185c177 k) := meets_of Try.func191 (by kernel_rfl) tbOk (orc_cons (M185_c177 k) orc_nil) mixOk (fun x y h => (e191_c185c177 k x).trans h) rfl

/-! slices_ContainsFunc_int64_int64_impl_areAll_int64_1_impl_areTurns_1: function 184 -/
noncomputable def slices_ContainsFunc_int64_int64_impl_areAll_int64_1_impl_areTurns_1.f (k : Nat) (l0 : List Int) (a1 : Int) : Option (Bool) := (slices_IndexFunc_int64_int64_impl_areAll_int64_1_impl_areTurns_1.f k l0 a1).bind fun t1 => some (decide (0 ≤ t1))
noncomputable def S184_c185c177 (k : Nat) : Does := ⟨[(false, [.dat (.list (.int .i64))]), (false, [.dat (.clo 185 (.ptr (.clo 177 (.ptr (.int .i64)))))])], [(false, [.dat .bool])], fun x => slices_ContainsFunc_int64_int64_impl_areAll_int64_1_impl_areTurns_1.f k x.1 x.2⟩
noncomputable def E184_c185c177 (k : Nat) : En := ⟨tb, orcOf [(191, S191_c185c177 k)], lvOf [], k, 0, lvOf [], []⟩
theorem e184_c185c177 (k : Nat) (x : dens (flatC (S184_c185c177 k).ps)) : funK (E184_c185c177 k) (S184_c185c177 k) Try.f184 x = (S184_c185c177 k).fn x := by
  kernel_rfl
theorem M184_c185c177 (k : Nat) : Meets Try.prog 184 (S184_c185c177 k) := meets_of Try.func184 (by kernel_rfl) tbOk (orc_cons (M191_c185c177 k) orc_nil) mixOk (fun x y h => (e184_c185c177 k x).trans h) rfl

/-! impl_areAll_int64_impl_areTurns_1: function 157 -/
noncomputable def impl_areAll_int64_impl_areTurns_1.f (k : Nat) (l0 : List Int) (a1 : Int) : Option (Bool) := (slices_ContainsFunc_int64_int64_impl_areAll_int64_1_impl_areTurns_1.f k l0 a1).bind fun t1 => some (!decide (t1 = true))
noncomputable def S157_c177 (k : Nat) : Does := ⟨[(false, [.dat (.list (.int .i64))]), (false, [.dat (.clo 177 (.ptr (.int .i64)))])], [(false, [.dat .bool])], fun x => impl_areAll_int64_impl_areTurns_1.f k x.1 x.2⟩
noncomputable def E157_c177 (k : Nat) : En := ⟨tb, orcOf [(184, S184_c185c177 k)], lvOf [], k, 0, lvOf [], []⟩
theorem e157_c177 (k : Nat) (x : dens (flatC (S157_c177 k).ps)) : funK (E157_c177 k) (S157_c177 k) Try.f157 x = (S157_c177 k).fn x := by
  kernel_rfl
theorem M157_c177 (k : Nat) : Meets Try.prog 157 (S157_c177 k) := meets_of Try.func157 (by kernel_rfl) tbOk (orc_cons (M184_c185c177 k) orc_nil) mixOk (fun x y h => (e157_c177 k x).trans h) rfl

/-! impl_areTurns: function 145 -/
noncomputable def impl_areTurns.f (k : Nat) (l0 : List Int) (a1 : Int) : Option (Bool) := (impl_length_int64.f l0).bind fun t1 => (impl_within.f t1 1 120).bind fun t2 => if t2 = true then ((impl_areAll_int64_impl_areTurns_1.f k l0 a1).bind fun t3 => some t3) else (some false)
noncomputable def S145 (k : Nat) : Does := ⟨[(false, [.dat (.list (.int .i64))]), (false, [.dat (.int .i64)])], [(false, [.dat .bool])], fun x => impl_areTurns.f k x.1 x.2⟩
noncomputable def E145 (k : Nat) : En := ⟨tb, orcOf [(101, S101 k), (104, S104 k), (157, S157_c177 k)], lvOf [], k, 0, lvOf [], []⟩
theorem e145 (k : Nat) (x : dens (flatC (S145 k).ps)) : funK (E145 k) (S145 k) Try.f145 x = (S145 k).fn x := by
  kernel_rfl
theorem M145 (k : Nat) : Meets Try.prog 145 (S145 k) := meets_of Try.func145 (by kernel_rfl) tbOk (orc_cons (M101 k) (orc_cons (M104 k) (orc_cons (M157_c177 k) orc_nil))) mixOk (fun x y h => (e145 k x).trans h) rfl

/-! impl_isAnyTask: function 174 -/
noncomputable def impl_isAnyTask.f (a0 : Int) : Option (Bool) := (impl_within.f a0 0 7).bind fun t1 => some t1
noncomputable def S174 (k : Nat) : Does := ⟨[(false, [.dat (.int .i64)])], [(false, [.dat .bool])], fun x => impl_isAnyTask.f x⟩
noncomputable def E174 (k : Nat) : En := ⟨tb, orcOf [(104, S104 k)], lvOf [], k, 0, lvOf [], []⟩
theorem e174 (k : Nat) (x : dens (flatC (S174 k).ps)) : funK (E174 k) (S174 k) Try.f174 x = (S174 k).fn x := by
  kernel_rfl
theorem M174 (k : Nat) : Meets Try.prog 174 (S174 k) := meets_of Try.func174 (by kernel_rfl) tbOk (orc_cons (M104 k) orc_nil) mixOk (fun x y h => (e174 k x).trans h) rfl

/-! impl_areAll_int64_1_impl_isAnyTask: function 185 -/
noncomputable def impl_areAll_int64_1_impl_isAnyTask.f (a0 : Int) (a1 : Unit) : Option (Bool) := (impl_isAnyTask.f a0).bind fun t1 => some (!decide (t1 = true))
noncomputable def S185_c174 (k : Nat) : Does := ⟨[(false, [.dat (.int .i64)]), (false, [.dat (.ptr (.clo 174 .unit))])], [(false, [.dat .bool])], fun x => impl_areAll_int64_1_impl_isAnyTask.f x.1 x.2⟩
noncomputable def E185_c174 (k : Nat) : En := ⟨tb, orcOf [(174, S174 k)], lvOf [], k, 0, lvOf [], []⟩
theorem e185_c174 (k : Nat) (x : dens (flatC (S185_c174 k).ps)) : funK (E185_c174 k) (S185_c174 k) Try.f185 x = (S185_c174 k).fn x := by
  kernel_rfl
theorem M185_c174 (k : Nat) : Meets Try.prog 185 (S185_c174 k) := meets_of Try.func185 (by kernel_rfl) tbOk (orc_cons (M174 k) orc_nil) mixOk (fun x y h => (e185_c174 k x).trans h) rfl

/-! slices_IndexFunc_int64_int64_impl_areAll_int64_1_impl_isAnyTask: function 191 -/
noncomputable def slices_IndexFunc_int64_int64_impl_areAll_int64_1_impl_isAnyTask.s0 (k : Nat) (r0 : (List Int) → Unit → Int → Int → Option (Int)) (x0 : List Int) (x1 : Unit) (x7 : Int) (x8 : Int) : Option (Int) := if x8 < x7 then (if 0 ≤ x8 then (if x8 < (x0.length : Int) then ((impl_areAll_int64_1_impl_isAnyTask.f (rd x0 x8) x1).bind fun t1 => if t1 = true then (some x8) else (r0 x0 x1 x7 (wrap64 (x8 + 1)))) else (none)) else (none)) else (some (-1))
noncomputable def slices_IndexFunc_int64_int64_impl_areAll_int64_1_impl_isAnyTask.l0 (k : Nat) : Nat → (List Int) → Unit → Int → Int → Option (Int)
  | 0, _, _, _, _ => none
  | n + 1, x0, x1, x2, x3 => slices_IndexFunc_int64_int64_impl_areAll_int64_1_impl_isAnyTask.s0 k (slices_IndexFunc_int64_int64_impl_areAll_int64_1_impl_isAnyTask.l0 k n) x0 x1 x2 x3
noncomputable def slices_IndexFunc_int64_int64_impl_areAll_int64_1_impl_isAnyTask.g (k : Nat) (r0 : (List Int) → Unit → Int → Int → Option (Int)) (l0 : List Int) (a1 : Unit) : Option (Int) := r0 l0 a1 (l0.length : Int) 0
noncomputable def slices_IndexFunc_int64_int64_impl_areAll_int64_1_impl_isAnyTask.f (k : Nat) (l0 : List Int) (a1 : Unit) : Option (Int) := slices_IndexFunc_int64_int64_impl_areAll_int64_1_impl_isAnyTask.g k (slices_IndexFunc_int64_int64_impl_areAll_int64_1_impl_isAnyTask.l0 k k) l0 a1
noncomputable def S191_c185c174 (k : Nat) : Does := ⟨[(false, [.dat (.list (.int .i64))]), (false, [.dat (.clo 185 (.ptr (.clo 174 .unit)))])], [(false, [.dat (.int .i64)])], fun x => slices_IndexFunc_int64_int64_impl_areAll_int64_1_impl_isAnyTask.f k x.1 x.2⟩
noncomputable def E191_c185c174 (k : Nat) : En := ⟨tb, orcOf [(185, S185_c174 k)], lvOf [(0, [(0, []), (1, []), (7, []), (8, [])])], k, 0, lvOf [], []⟩
noncomputable def n191_c185c174_0 (x0 : List Int) (x1 : Unit) (x7 : Int) (x8 : Int) : St := ⟨19, lookA [(0, .dat (.list (.int .i64)) x0), (1, .dat (.clo 185 (.ptr (.clo 174 .unit))) x1), (7, .dat (.int .i64) x7), (8, .dat (.int .i64) x8)], Go.V.look []⟩
def p191_c185c174_0 : List Bool := [true, false, true, false]
theorem r191_c185c174_0 (k : Nat) (rec : St → Option (Int)) (v : (List Int) × Unit × Int × Int) : roundF (E191_c185c174 k) (S191_c185c174 k) Try.f191 p191_c185c174_0 [] rec (n191_c185c174_0 v.1 v.2.1 v.2.2.1 v.2.2.2) = slices_IndexFunc_int64_int64_impl_areAll_int64_1_impl_isAnyTask.s0 k (fun a0 a1 a2 a3 => rec (n191_c185c174_0 a0 a1 a2 a3)) v.1 v.2.1 v.2.2.1 v.2.2.2 := by
  kernel_rfl
theorem q191_c185c174_0 (k : Nat) (n : Nat) : ∀ v : (List Int) × Unit × Int × Int, loopF (E191_c185c174 k) (S191_c185c174 k) Try.f191 p191_c185c174_0 [] n (n191_c185c174_0 v.1 v.2.1 v.2.2.1 v.2.2.2) = slices_IndexFunc_int64_int64_impl_areAll_int64_1_impl_isAnyTask.l0 k n v.1 v.2.1 v.2.2.1 v.2.2.2 :=
  loopF_eq (E191_c185c174 k) (S191_c185c174 k) Try.f191 p191_c185c174_0 [] (fun v : (List Int) × Unit × Int × Int => n191_c185c174_0 v.1 v.2.1 v.2.2.1 v.2.2.2) (fun rec v => slices_IndexFunc_int64_int64_impl_areAll_int64_1_impl_isAnyTask.s0 k (fun a0 a1 a2 a3 => rec (a0, a1, a2, a3)) v.1 v.2.1 v.2.2.1 v.2.2.2) (fun n v => slices_IndexFunc_int64_int64_impl_areAll_int64_1_impl_isAnyTask.l0 k n v.1 v.2.1 v.2.2.1 v.2.2.2) (fun _ => rfl) (fun _ _ => rfl) (fun rec v => r191_c185c174_0 k rec v) n
theorem e191_c185c174 (k : Nat) (x : dens (flatC (S191_c185c174 k).ps)) : funK (E191_c185c174 k) (S191_c185c174 k) Try.f191 x = (S191_c185c174 k).fn x := by
  have h : funK (E191_c185c174 k) (S191_c185c174 k) Try.f191 x = slices_IndexFunc_int64_int64_impl_areAll_int64_1_impl_isAnyTask.g k (fun a0 a1 a2 a3 => loopF (E191_c185c174 k) (S191_c185c174 k) Try.f191 p191_c185c174_0 [] k (n191_c185c174_0 a0 a1 a2 a3)) x.1 x.2 := by kernel_rfl
  rw [h]
  rw [show (fun a0 a1 a2 a3 => loopF (E191_c185c174 k) (S191_c185c174 k) Try.f191 p191_c185c174_0 [] k (n191_c185c174_0 a0 a1 a2 a3)) = slices_IndexFunc_int64_int64_impl_areAll_int64_1_impl_isAnyTask.l0 k k from funext fun a0 => funext fun a1 => funext fun a2 => funext fun a3 => q191_c185c174_0 k k (a0, a1, a2, a3)]
  rfl
theorem M191_c185c174 (k : Nat) : Meets Try.prog 191 (S191_c185c174 k) := meets_of Try.func191 (by kernel_rfl) tbOk (orc_cons (M185_c174 k) orc_nil) mixOk (fun x y h => (e191_c185c174 k x).trans h) rfl

/-! slices_ContainsFunc_int64_int64_impl_areAll_int64_1_impl_isAnyTask: function 184 -/
noncomputable def slices_ContainsFunc_int64_int64_impl_areAll_int64_1_impl_isAnyTask.f (k : Nat) (l0 : List Int) (a1 : Unit) : Option (Bool) := (slices_IndexFunc_int64_int64_impl_areAll_int64_1_impl_isAnyTask.f k l0 a1).bind fun t1 => some (decide (0 ≤ t1))
noncomputable def S184_c185c174 (k : Nat) : Does := ⟨[(false, [.dat (.list (.int .i64))]), (false, [.dat (.clo 185 (.ptr (.clo 174 .unit)))])], [(false, [.dat .bool])], fun x => slices_ContainsFunc_int64_int64_impl_areAll_int64_1_impl_isAnyTask.f k x.1 x.2⟩
noncomputable def E184_c185c174 (k : Nat) : En := ⟨tb, orcOf [(191, S191_c185c174 k)], lvOf [], k, 0, lvOf [], []⟩
theorem e184_c185c174 (k : Nat) (x : dens (flatC (S184_c185c174 k).ps)) : funK (E184_c185c174 k) (S184_c185c174 k) Try.f184 x = (S184_c185c174 k).fn x := by
  kernel_rfl
theorem M184_c185c174 (k : Nat) : Meets Try.prog 184 (S184_c185c174 k) := meets_of Try.func184 (by kernel_rfl) tbOk (orc_cons (M191_c185c174 k) orc_nil) mixOk (fun x y h => (e184_c185c174 k x).trans h) rfl

/-! impl_areAll_int64_impl_isAnyTask: function 157 -/
noncomputable def impl_areAll_int64_impl_isAnyTask.f (k : Nat) (l0 : List Int) (a1 : Unit) : Option (Bool) := (slices_ContainsFunc_int64_int64_impl_areAll_int64_1_impl_isAnyTask.f k l0 a1).bind fun t1 => some (!decide (t1 = true))
noncomputable def S157_c174 (k : Nat) : Does := ⟨[(false, [.dat (.list (.int .i64))]), (false, [.dat (.clo 174 .unit)])], [(false, [.dat .bool])], fun x => impl_areAll_int64_impl_isAnyTask.f k x.1 x.2⟩
noncomputable def E157_c174 (k : Nat) : En := ⟨tb, orcOf [(184, S184_c185c174 k)], lvOf [], k, 0, lvOf [], []⟩
theorem e157_c174 (k : Nat) (x : dens (flatC (S157_c174 k).ps)) : funK (E157_c174 k) (S157_c174 k) Try.f157 x = (S157_c174 k).fn x := by
  kernel_rfl
theorem M157_c174 (k : Nat) : Meets Try.prog 157 (S157_c174 k) := meets_of Try.func157 (by kernel_rfl) tbOk (orc_cons (M184_c185c174 k) orc_nil) mixOk (fun x y h => (e157_c174 k x).trans h) rfl

/-! impl_waitCode_1: function 175 -/
noncomputable def impl_waitCode_1.f (k : Nat) (a0 : Int) (a1 : List Int) : Option (Bool) := (slices_Contains_int64_int64.f k a1 a0).bind fun t1 => some t1
noncomputable def S175 (k : Nat) : Does := ⟨[(false, [.dat (.int .i64)]), (false, [.dat (.ptr (.list (.int .i64)))])], [(false, [.dat .bool])], fun x => impl_waitCode_1.f k x.1 x.2⟩
noncomputable def E175 (k : Nat) : En := ⟨tb, orcOf [(103, S103 k)], lvOf [], k, 0, lvOf [], []⟩
theorem e175 (k : Nat) (x : dens (flatC (S175 k).ps)) : funK (E175 k) (S175 k) Try.f175 x = (S175 k).fn x := by
  kernel_rfl
theorem M175 (k : Nat) : Meets Try.prog 175 (S175 k) := meets_of Try.func175 (by kernel_rfl) tbOk (orc_cons (M103 k) orc_nil) mixOk (fun x y h => (e175 k x).trans h) rfl

/-! impl_areAll_int64_1_impl_waitCode_1: function 185 -/
noncomputable def impl_areAll_int64_1_impl_waitCode_1.f (k : Nat) (a0 : Int) (a1 : List Int) : Option (Bool) := (impl_waitCode_1.f k a0 a1).bind fun t1 => some (!decide (t1 = true))
noncomputable def S185_c175 (k : Nat) : Does := ⟨[(false, [.dat (.int .i64)]), (false, [.dat (.ptr (.clo 175 (.ptr (.list (.int .i64)))))])], [(false, [.dat .bool])], fun x => impl_areAll_int64_1_impl_waitCode_1.f k x.1 x.2⟩
noncomputable def E185_c175 (k : Nat) : En := ⟨tb, orcOf [(175, S175 k)], lvOf [], k, 0, lvOf [], []⟩
theorem e185_c175 (k : Nat) (x : dens (flatC (S185_c175 k).ps)) : funK (E185_c175 k) (S185_c175 k) Try.f185 x = (S185_c175 k).fn x := by
  kernel_rfl
theorem M185_c175 (k : Nat) : Meets Try.prog 185 (S185_c175 k) := meets_of Try.func185 (by kernel_rfl) tbOk (orc_cons (M175 k) orc_nil) mixOk (fun x y h => (e185_c175 k x).trans h) rfl

/-! slices_IndexFunc_int64_int64_impl_areAll_int64_1_impl_waitCode_1: function 191 -/
noncomputable def slices_IndexFunc_int64_int64_impl_areAll_int64_1_impl_waitCode_1.s0 (k : Nat) (r0 : (List Int) → (List Int) → Int → Int → Option (Int)) (x0 : List Int) (x1 : List Int) (x7 : Int) (x8 : Int) : Option (Int) := if x8 < x7 then (if 0 ≤ x8 then (if x8 < (x0.length : Int) then ((impl_areAll_int64_1_impl_waitCode_1.f k (rd x0 x8) x1).bind fun t1 => if t1 = true then (some x8) else (r0 x0 x1 x7 (wrap64 (x8 + 1)))) else (none)) else (none)) else (some (-1))
noncomputable def slices_IndexFunc_int64_int64_impl_areAll_int64_1_impl_waitCode_1.l0 (k : Nat) : Nat → (List Int) → (List Int) → Int → Int → Option (Int)
  | 0, _, _, _, _ => none
  | n + 1, x0, x1, x2, x3 => slices_IndexFunc_int64_int64_impl_areAll_int64_1_impl_waitCode_1.s0 k (slices_IndexFunc_int64_int64_impl_areAll_int64_1_impl_waitCode_1.l0 k n) x0 x1 x2 x3
noncomputable def slices_IndexFunc_int64_int64_impl_areAll_int64_1_impl_waitCode_1.g (k : Nat) (r0 : (List Int) → (List Int) → Int → Int → Option (Int)) (l0 : List Int) (a1 : List Int) : Option (Int) := r0 l0 a1 (l0.length : Int) 0
noncomputable def slices_IndexFunc_int64_int64_impl_areAll_int64_1_impl_waitCode_1.f (k : Nat) (l0 : List Int) (a1 : List Int) : Option (Int) := slices_IndexFunc_int64_int64_impl_areAll_int64_1_impl_waitCode_1.g k (slices_IndexFunc_int64_int64_impl_areAll_int64_1_impl_waitCode_1.l0 k k) l0 a1
noncomputable def S191_c185c175 (k : Nat) : Does := ⟨[(false, [.dat (.list (.int .i64))]), (false, [.dat (.clo 185 (.ptr (.clo 175 (.ptr (.list (.int .i64))))))])], [(false, [.dat (.int .i64)])], fun x => slices_IndexFunc_int64_int64_impl_areAll_int64_1_impl_waitCode_1.f k x.1 x.2⟩
noncomputable def E191_c185c175 (k : Nat) : En := ⟨tb, orcOf [(185, S185_c175 k)], lvOf [(0, [(0, []), (1, []), (7, []), (8, [])])], k, 0, lvOf [], []⟩
noncomputable def n191_c185c175_0 (x0 : List Int) (x1 : List Int) (x7 : Int) (x8 : Int) : St := ⟨19, lookA [(0, .dat (.list (.int .i64)) x0), (1, .dat (.clo 185 (.ptr (.clo 175 (.ptr (.list (.int .i64)))))) x1), (7, .dat (.int .i64) x7), (8, .dat (.int .i64) x8)], Go.V.look []⟩
def p191_c185c175_0 : List Bool := [true, false, true, false]
theorem r191_c185c175_0 (k : Nat) (rec : St → Option (Int)) (v : (List Int) × (List Int) × Int × Int) : roundF (E191_c185c175 k) (S191_c185c175 k) Try.f191 p191_c185c175_0 [] rec (n191_c185c175_0 v.1 v.2.1 v.2.2.1 v.2.2.2) = slices_IndexFunc_int64_int64_impl_areAll_int64_1_impl_waitCode_1.s0 k (fun a0 a1 a2 a3 => rec (n191_c185c175_0 a0 a1 a2 a3)) v.1 v.2.1 v.2.2.1 v.2.2.2 := by
  kernel_rfl
theorem q191_c185c175_0 (k : Nat) (n : Nat) : ∀ v : (List Int) × (List Int) × Int × Int, loopF (E191_c185c175 k) (S191_c185c175 k) Try.f191 p191_c185c175_0 [] n (n191_c185c175_0 v.1 v.2.1 v.2.2.1 v.2.2.2) = slices_IndexFunc_int64_int64_impl_areAll_int64_1_impl_waitCode_1.l0 k n v.1 v.2.1 v.2.2.1 v.2.2.2 :=
  loopF_eq (E191_c185c175 k) (S191_c185c175 k) Try.f191 p191_c185c175_0 [] (fun v : (List Int) × (List Int) × Int × Int => n191_c185c175_0 v.1 v.2.1 v.2.2.1 v.2.2.2) (fun rec v => slices_IndexFunc_int64_int64_impl_areAll_int64_1_impl_waitCode_1.s0 k (fun a0 a1 a2 a3 => rec (a0, a1, a2, a3)) v.1 v.2.1 v.2.2.1 v.2.2.2) (fun n v => slices_IndexFunc_int64_int64_impl_areAll_int64_1_impl_waitCode_1.l0 k n v.1 v.2.1 v.2.2.1 v.2.2.2) (fun _ => rfl) (fun _ _ => rfl) (fun rec v => r191_c185c175_0 k rec v) n
theorem e191_c185c175 (k : Nat) (x : dens (flatC (S191_c185c175 k).ps)) : funK (E191_c185c175 k) (S191_c185c175 k) Try.f191 x = (S191_c185c175 k).fn x := by
  have h : funK (E191_c185c175 k) (S191_c185c175 k) Try.f191 x = slices_IndexFunc_int64_int64_impl_areAll_int64_1_impl_waitCode_1.g k (fun a0 a1 a2 a3 => loopF (E191_c185c175 k) (S191_c185c175 k) Try.f191 p191_c185c175_0 [] k (n191_c185c175_0 a0 a1 a2 a3)) x.1 x.2 := by kernel_rfl
  rw [h]
  rw [show (fun a0 a1 a2 a3 => loopF (E191_c185c175 k) (S191_c185c175 k) Try.f191 p191_c185c175_0 [] k (n191_c185c175_0 a0 a1 a2 a3)) = slices_IndexFunc_int64_int64_impl_areAll_int64_1_impl_waitCode_1.l0 k k from funext fun a0 => funext fun a1 => funext fun a2 => funext fun a3 => q191_c185c175_0 k k (a0, a1, a2, a3)]
  rfl
theorem M191_c185c175 (k : Nat) : Meets Try.prog 191 (S191_c185c175 k) := meets_of Try.func191 (by kernel_rfl) tbOk (orc_cons (M185_c175 k) orc_nil) mixOk (fun x y h => (e191_c185c175 k x).trans h) rfl

/-! slices_ContainsFunc_int64_int64_impl_areAll_int64_1_impl_waitCode_1: function 184 -/
noncomputable def slices_ContainsFunc_int64_int64_impl_areAll_int64_1_impl_waitCode_1.f (k : Nat) (l0 : List Int) (a1 : List Int) : Option (Bool) := (slices_IndexFunc_int64_int64_impl_areAll_int64_1_impl_waitCode_1.f k l0 a1).bind fun t1 => some (decide (0 ≤ t1))
noncomputable def S184_c185c175 (k : Nat) : Does := ⟨[(false, [.dat (.list (.int .i64))]), (false, [.dat (.clo 185 (.ptr (.clo 175 (.ptr (.list (.int .i64))))))])], [(false, [.dat .bool])], fun x => slices_ContainsFunc_int64_int64_impl_areAll_int64_1_impl_waitCode_1.f k x.1 x.2⟩
noncomputable def E184_c185c175 (k : Nat) : En := ⟨tb, orcOf [(191, S191_c185c175 k)], lvOf [], k, 0, lvOf [], []⟩
theorem e184_c185c175 (k : Nat) (x : dens (flatC (S184_c185c175 k).ps)) : funK (E184_c185c175 k) (S184_c185c175 k) Try.f184 x = (S184_c185c175 k).fn x := by
  kernel_rfl
theorem M184_c185c175 (k : Nat) : Meets Try.prog 184 (S184_c185c175 k) := meets_of Try.func184 (by kernel_rfl) tbOk (orc_cons (M191_c185c175 k) orc_nil) mixOk (fun x y h => (e184_c185c175 k x).trans h) rfl

/-! impl_areAll_int64_impl_waitCode_1: function 157 -/
noncomputable def impl_areAll_int64_impl_waitCode_1.f (k : Nat) (l0 : List Int) (a1 : List Int) : Option (Bool) := (slices_ContainsFunc_int64_int64_impl_areAll_int64_1_impl_waitCode_1.f k l0 a1).bind fun t1 => some (!decide (t1 = true))
noncomputable def S157_c175 (k : Nat) : Does := ⟨[(false, [.dat (.list (.int .i64))]), (false, [.dat (.clo 175 (.ptr (.list (.int .i64))))])], [(false, [.dat .bool])], fun x => impl_areAll_int64_impl_waitCode_1.f k x.1 x.2⟩
noncomputable def E157_c175 (k : Nat) : En := ⟨tb, orcOf [(184, S184_c185c175 k)], lvOf [], k, 0, lvOf [], []⟩
theorem e157_c175 (k : Nat) (x : dens (flatC (S157_c175 k).ps)) : funK (E157_c175 k) (S157_c175 k) Try.f157 x = (S157_c175 k).fn x := by
  kernel_rfl
theorem M157_c175 (k : Nat) : Meets Try.prog 157 (S157_c175 k) := meets_of Try.func157 (by kernel_rfl) tbOk (orc_cons (M184_c185c175 k) orc_nil) mixOk (fun x y h => (e157_c175 k x).trans h) rfl

/-! impl_waitCode: function 132 -/
noncomputable def impl_waitCode.f (k : Nat) (l0 : List Int) (a1 : Bool) (l2 : List Int) : Option (Int) := (impl_areTurns.f k l0 8).bind fun t1 => if t1 = true then (if a1 = true then ((impl_areAll_int64_impl_isAnyTask.f k l2 ()).bind fun t2 => if (!decide (t2 = true)) = true then (some 2) else ((impl_areAll_int64_impl_waitCode_1.f k l2 l0).bind fun t3 => if (!decide (t3 = true)) = true then (some 4) else (some 0))) else (some 2)) else (some 2)
noncomputable def S132 (k : Nat) : Does := ⟨[(false, [.dat (.list (.int .i64))]), (false, [.dat .bool]), (false, [.dat (.list (.int .i64))])], [(false, [.dat (.int .i64)])], fun x => impl_waitCode.f k x.1 x.2.1 x.2.2⟩
noncomputable def E132 (k : Nat) : En := ⟨tb, orcOf [(145, S145 k), (157, S157_c174 k), (157, S157_c175 k)], lvOf [], k, 0, lvOf [], []⟩
theorem e132 (k : Nat) (x : dens (flatC (S132 k).ps)) : funK (E132 k) (S132 k) Try.f132 x = (S132 k).fn x := by
  kernel_rfl
theorem M132 (k : Nat) : Meets Try.prog 132 (S132 k) := meets_of Try.func132 (by kernel_rfl) tbOk (orc_cons (M145 k) (orc_cons (M157_c174 k) (orc_cons (M157_c175 k) orc_nil))) mixOk (fun x y h => (e132 k x).trans h) rfl

/-! impl_MeanByWeights: function 68 -/
noncomputable def impl_MeanByWeights.s0 (k : Nat) (r0 : (List Int) → (List Int) → (List Int) → Int → Int → Option (Int × Int × Int)) (x0 : List Int) (x1 : List Int) (x17 : List Int) (x18 : Int) (x19 : Int) : Option (Int × Int × Int) := if x19 < x18 then (if 0 ≤ x19 then (if x19 < (x17.length : Int) then (if 0 < (rd x17 x19) then ((slices_Contains_int64_int64.f k x0 x19).bind fun t3 => if t3 = true then (r0 x0 x1 x17 x18 (wrap64 (x19 + 1))) else (some (0, 0, 4))) else (r0 x0 x1 x17 x18 (wrap64 (x19 + 1)))) else (none)) else (none)) else ((impl_weighted.f k x0 x1).bind fun t4 => (impl_length_int64.f x0).bind fun t5 => (impl_total.f k x1).bind fun t6 => (impl_fraction.f k t4 (wrap64 (t5 * t6))).bind fun t7 => some (t7.1, t7.2.1, t7.2.2))
noncomputable def impl_MeanByWeights.l0 (k : Nat) : Nat → (List Int) → (List Int) → (List Int) → Int → Int → Option (Int × Int × Int)
  | 0, _, _, _, _, _ => none
  | n + 1, x0, x1, x2, x3, x4 => impl_MeanByWeights.s0 k (impl_MeanByWeights.l0 k n) x0 x1 x2 x3 x4
noncomputable def impl_MeanByWeights.g (k : Nat) (r0 : (List Int) → (List Int) → (List Int) → Int → Int → Option (Int × Int × Int)) (l0 : List Int) (l1 : List Int) : Option (Int × Int × Int) := (impl_areWeights.f k l1).bind fun t1 => (impl_waitCode.f k l0 t1 []).bind fun t2 => if t2 = 0 then (r0 l0 l1 l1 (l1.length : Int) 0) else (some (0, 0, t2))
noncomputable def impl_MeanByWeights.f (k : Nat) (l0 : List Int) (l1 : List Int) : Option (Int × Int × Int) := impl_MeanByWeights.g k (impl_MeanByWeights.l0 k k) l0 l1
noncomputable def S68 (k : Nat) : Does := ⟨[(false, [.dat (.list (.int .i64))]), (false, [.dat (.list (.int .i64))])], [(false, [.dat (.int .i64)]), (false, [.dat (.int .i64)]), (false, [.dat (.int .i64)])], fun x => impl_MeanByWeights.f k x.1 x.2⟩
noncomputable def E68 (k : Nat) : En := ⟨tb, orcOf [(102, S102 k), (132, S132 k), (103, S103 k), (109, S109 k), (101, S101 k), (142, S142 k), (133, S133 k)], lvOf [(0, [(0, []), (1, []), (17, []), (18, []), (19, [])])], k, 0, lvOf [], []⟩
noncomputable def n68_0 (x0 : List Int) (x1 : List Int) (x17 : List Int) (x18 : Int) (x19 : Int) : St := ⟨45, lookA [(0, .dat (.list (.int .i64)) x0), (1, .dat (.list (.int .i64)) x1), (17, .dat (.list (.int .i64)) x17), (18, .dat (.int .i64) x18), (19, .dat (.int .i64) x19)], Go.V.look []⟩
def p68_0 : List Bool := [true, true, false, true, false]
theorem r68_0 (k : Nat) (rec : St → Option (Int × Int × Int)) (v : (List Int) × (List Int) × (List Int) × Int × Int) : roundF (E68 k) (S68 k) Try.f68 p68_0 [] rec (n68_0 v.1 v.2.1 v.2.2.1 v.2.2.2.1 v.2.2.2.2) = impl_MeanByWeights.s0 k (fun a0 a1 a2 a3 a4 => rec (n68_0 a0 a1 a2 a3 a4)) v.1 v.2.1 v.2.2.1 v.2.2.2.1 v.2.2.2.2 := by
  kernel_rfl
theorem q68_0 (k : Nat) (n : Nat) : ∀ v : (List Int) × (List Int) × (List Int) × Int × Int, loopF (E68 k) (S68 k) Try.f68 p68_0 [] n (n68_0 v.1 v.2.1 v.2.2.1 v.2.2.2.1 v.2.2.2.2) = impl_MeanByWeights.l0 k n v.1 v.2.1 v.2.2.1 v.2.2.2.1 v.2.2.2.2 :=
  loopF_eq (E68 k) (S68 k) Try.f68 p68_0 [] (fun v : (List Int) × (List Int) × (List Int) × Int × Int => n68_0 v.1 v.2.1 v.2.2.1 v.2.2.2.1 v.2.2.2.2) (fun rec v => impl_MeanByWeights.s0 k (fun a0 a1 a2 a3 a4 => rec (a0, a1, a2, a3, a4)) v.1 v.2.1 v.2.2.1 v.2.2.2.1 v.2.2.2.2) (fun n v => impl_MeanByWeights.l0 k n v.1 v.2.1 v.2.2.1 v.2.2.2.1 v.2.2.2.2) (fun _ => rfl) (fun _ _ => rfl) (fun rec v => r68_0 k rec v) n
theorem e68 (k : Nat) (x : dens (flatC (S68 k).ps)) : funK (E68 k) (S68 k) Try.f68 x = (S68 k).fn x := by
  have h : funK (E68 k) (S68 k) Try.f68 x = impl_MeanByWeights.g k (fun a0 a1 a2 a3 a4 => loopF (E68 k) (S68 k) Try.f68 p68_0 [] k (n68_0 a0 a1 a2 a3 a4)) x.1 x.2 := by kernel_rfl
  rw [h]
  rw [show (fun a0 a1 a2 a3 a4 => loopF (E68 k) (S68 k) Try.f68 p68_0 [] k (n68_0 a0 a1 a2 a3 a4)) = impl_MeanByWeights.l0 k k from funext fun a0 => funext fun a1 => funext fun a2 => funext fun a3 => funext fun a4 => q68_0 k k (a0, a1, a2, a3, a4)]
  rfl
theorem M68 (k : Nat) : Meets Try.prog 68 (S68 k) := meets_of Try.func68 (by kernel_rfl) tbOk (orc_cons (M102 k) (orc_cons (M132 k) (orc_cons (M103 k) (orc_cons (M109 k) (orc_cons (M101 k) (orc_cons (M142 k) (orc_cons (M133 k) orc_nil))))))) mixOk (fun x y h => (e68 k x).trans h) rfl

/-! laws_FnWeightedTurns: function 11 -/
noncomputable def laws_FnWeightedTurns.s1 (k : Nat) (r0 : (List Int) → Int → (List Int) → Int → (List Int) → (List Int) → Int → Int → Option (Bool)) (r1 : (List Int) → Int → (List Int) → Int → (List Int) → (List Int) → Int → Int → Int → Int → Option (Bool)) (x3 : List Int) (x4 : Int) (x5 : List Int) (x6 : Int) (x15 : List Int) (x16 : List Int) (x22 : Int) (x26 : Int) (x27 : Int) (x28 : Int) : Option (Bool) := if x28 < (x16.length : Int) then (if 0 ≤ x28 then (if x28 < (x16.length : Int) then (if (rd x16 x28) = x26 then (r1 x3 x4 x5 x6 x15 x16 x22 x26 (wrap64 (x27 + 1)) (wrap64 (x28 + 1))) else (r1 x3 x4 x5 x6 x15 x16 x22 x26 x27 (wrap64 (x28 + 1)))) else (none)) else (none)) else (if 0 ≤ x26 then (if x26 < (x15.length : Int) then (if x27 = (rd x15 x26) then (r0 x3 x4 x5 x6 x15 x16 x22 (wrap64 (x26 + 1))) else (some false)) else (none)) else (none))
noncomputable def laws_FnWeightedTurns.l1 (k : Nat) (r0 : (List Int) → Int → (List Int) → Int → (List Int) → (List Int) → Int → Int → Option (Bool)) : Nat → (List Int) → Int → (List Int) → Int → (List Int) → (List Int) → Int → Int → Int → Int → Option (Bool)
  | 0, _, _, _, _, _, _, _, _, _, _ => none
  | n + 1, x0, x1, x2, x3, x4, x5, x6, x7, x8, x9 => laws_FnWeightedTurns.s1 k r0 (laws_FnWeightedTurns.l1 k r0 n) x0 x1 x2 x3 x4 x5 x6 x7 x8 x9
noncomputable def laws_FnWeightedTurns.s0 (k : Nat) (r0 : (List Int) → Int → (List Int) → Int → (List Int) → (List Int) → Int → Int → Option (Bool)) (r1 : (List Int) → Int → (List Int) → Int → (List Int) → (List Int) → Int → Int → Int → Int → Option (Bool)) (x3 : List Int) (x4 : Int) (x5 : List Int) (x6 : Int) (x15 : List Int) (x16 : List Int) (x22 : Int) (x26 : Int) : Option (Bool) := if x26 < (x15.length : Int) then (r1 x3 x4 x5 x6 x15 x16 x22 x26 0 0) else (if x22 = 0 then ((laws_sum.f k x15).bind fun t17 => if t17 = (x16.length : Int) then (if x6 = 0 then ((impl_SharesByWeights.f k x3 x4).bind fun t18 => (impl_TurnsFromShares.f k t18.1).bind fun t19 => (impl_MeanByWeights.f k x5 x3).bind fun t20 => (impl_MeanByWeights.f k t19.1 x3).bind fun t21 => if t18.2 = 0 then (if t19.2 = 0 then (if t20.2.2 = 0 then (if t21.2.2 = 0 then (some (decide ((wrap64 (t20.1 * t21.2.1)) ≤ (wrap64 (t21.1 * t20.2.1))))) else (some false)) else (some false)) else (some false)) else (some false)) else (some (decide ((x5.length : Int) = 0)))) else (some false)) else (some false))
noncomputable def laws_FnWeightedTurns.l0 (k : Nat) : Nat → (List Int) → Int → (List Int) → Int → (List Int) → (List Int) → Int → Int → Option (Bool)
  | 0, _, _, _, _, _, _, _, _ => none
  | n + 1, x0, x1, x2, x3, x4, x5, x6, x7 => laws_FnWeightedTurns.s0 k (laws_FnWeightedTurns.l0 k n) (laws_FnWeightedTurns.l1 k (laws_FnWeightedTurns.l0 k n) k) x0 x1 x2 x3 x4 x5 x6 x7
noncomputable def laws_FnWeightedTurns.g (k : Nat) (r0 : (List Int) → Int → (List Int) → Int → (List Int) → (List Int) → Int → Int → Option (Bool)) (l0 : List Int) : Option (Bool) := (laws_big.f l0).bind fun t1 => if t1 = true then (some true) else ((spec_DrawBestTurns.f k l0).bind fun t2 => (impl_BestTurns.f k t2.1 t2.2).bind fun t3 => (spec_BestTurns.f k t2.1 t2.2).bind fun t4 => if t3.2 = t4.2 then ((laws_likeInts.f k t3.1 t4.1).bind fun t5 => if t5 = true then ((spec_DrawSharesByWeights.f k l0).bind fun t6 => (impl_SharesByWeights.f k t6.1 t6.2).bind fun t7 => (spec_SharesByWeights.f k t6.1 t6.2).bind fun t8 => if t7.2 = t8.2 then ((laws_likeInts.f k t7.1 t8.1).bind fun t9 => if t9 = true then ((spec_DrawTurnsFromShares.f k l0).bind fun t10 => (impl_TurnsFromShares.f k t10).bind fun t11 => (spec_TurnsFromShares.f k t10).bind fun t12 => if t11.2 = t12.2 then ((laws_likeInts.f k t11.1 t12.1).bind fun t13 => if t13 = true then ((impl_EvenMean.f k t10).bind fun t14 => (spec_EvenMean.f k t10).bind fun t15 => if t14.2.2 = t15.2.2 then (if t14.1 = t15.1 then (if t14.2.1 = t15.2.1 then (if t7.2 = 0 then ((laws_sum.f k t7.1).bind fun t16 => if t16 = t6.2 then (if (t7.1.length : Int) = (t6.1.length : Int) then (if t11.2 = 0 then (r0 t2.1 t2.2 t3.1 t3.2 t10 t11.1 t14.2.2 0) else (if t3.2 = 0 then ((impl_SharesByWeights.f k t2.1 t2.2).bind fun t22 => (impl_TurnsFromShares.f k t22.1).bind fun t23 => (impl_MeanByWeights.f k t3.1 t2.1).bind fun t24 => (impl_MeanByWeights.f k t23.1 t2.1).bind fun t25 => if t22.2 = 0 then (if t23.2 = 0 then (if t24.2.2 = 0 then (if t25.2.2 = 0 then (some (decide ((wrap64 (t24.1 * t25.2.1)) ≤ (wrap64 (t25.1 * t24.2.1))))) else (some false)) else (some false)) else (some false)) else (some false)) else (some (decide ((t3.1.length : Int) = 0))))) else (some false)) else (some false)) else (if t11.2 = 0 then (r0 t2.1 t2.2 t3.1 t3.2 t10 t11.1 t14.2.2 0) else (if t3.2 = 0 then ((impl_SharesByWeights.f k t2.1 t2.2).bind fun t26 => (impl_TurnsFromShares.f k t26.1).bind fun t27 => (impl_MeanByWeights.f k t3.1 t2.1).bind fun t28 => (impl_MeanByWeights.f k t27.1 t2.1).bind fun t29 => if t26.2 = 0 then (if t27.2 = 0 then (if t28.2.2 = 0 then (if t29.2.2 = 0 then (some (decide ((wrap64 (t28.1 * t29.2.1)) ≤ (wrap64 (t29.1 * t28.2.1))))) else (some false)) else (some false)) else (some false)) else (some false)) else (some (decide ((t3.1.length : Int) = 0)))))) else (some false)) else (some false)) else (some false)) else (some false)) else (some false)) else (some false)) else (some false)) else (some false)) else (some false))
noncomputable def laws_FnWeightedTurns.f (k : Nat) (l0 : List Int) : Option (Bool) := laws_FnWeightedTurns.g k (laws_FnWeightedTurns.l0 k k) l0
noncomputable def S11 (k : Nat) : Does := ⟨[(false, [.dat (.list (.int .u8))])], [(false, [.dat .bool])], fun x => laws_FnWeightedTurns.f k x⟩
noncomputable def E11 (k : Nat) : En := ⟨tb, orcOf [(36, S36 k), (74, S74 k), (24, S24 k), (23, S23 k), (38, S38 k), (75, S75 k), (76, S76 k), (77, S77 k), (78, S78 k), (79, S79 k), (80, S80 k), (81, S81 k), (82, S82 k), (83, S83 k), (68, S68 k)], lvOf [(0, [(3, []), (4, []), (5, []), (6, []), (15, []), (16, []), (22, []), (26, [])]), (2, [(3, []), (4, []), (5, []), (6, []), (15, []), (16, []), (22, []), (26, []), (27, []), (28, [])])], k, 0, lvOf [], []⟩
noncomputable def n11_0 (x3 : List Int) (x4 : Int) (x5 : List Int) (x6 : Int) (x15 : List Int) (x16 : List Int) (x22 : Int) (x26 : Int) : St := ⟨244, lookA [(3, .own 0), (4, .dat (.int .i64) x4), (5, .own 1), (6, .dat (.int .i64) x6), (15, .own 2), (16, .own 3), (22, .dat (.int .i64) x22), (26, .dat (.int .i64) x26)], Go.V.look [(0, .frz 2 (.int .i64) x3), (1, .flat 2 (.int .i64) x5), (2, .flat 2 (.int .i64) x15), (3, .flat 2 (.int .i64) x16)]⟩
def p11_0 : List Bool := [true, true, true, true, true, true, true, true, true, true, true, true, true, true, false, true, false, false, true, false]
noncomputable def n11_1 (x3 : List Int) (x4 : Int) (x5 : List Int) (x6 : Int) (x15 : List Int) (x16 : List Int) (x22 : Int) (x26 : Int) (x27 : Int) (x28 : Int) : St := ⟨244, lookA [(3, .own 0), (4, .dat (.int .i64) x4), (5, .own 1), (6, .dat (.int .i64) x6), (15, .own 2), (16, .own 3), (22, .dat (.int .i64) x22), (26, .dat (.int .i64) x26), (27, .dat (.int .i64) x27), (28, .dat (.int .i64) x28)], Go.V.look [(0, .frz 2 (.int .i64) x3), (1, .flat 2 (.int .i64) x5), (2, .flat 2 (.int .i64) x15), (3, .flat 2 (.int .i64) x16)]⟩
def p11_1 : List Bool := [true, true, true, true, true, true, true, true, true, true, true, true, true, true, false, true, false, false, true, false, false, true, false, false, true, false, true, false]
theorem r11_1 (k : Nat) (R0 : St → Option (Bool)) (rec : St → Option (Bool)) (v : (List Int) × Int × (List Int) × Int × (List Int) × (List Int) × Int × Int × Int × Int) : roundF (E11 k) (S11 k) Try.f11 p11_1 [R0] rec (n11_1 v.1 v.2.1 v.2.2.1 v.2.2.2.1 v.2.2.2.2.1 v.2.2.2.2.2.1 v.2.2.2.2.2.2.1 v.2.2.2.2.2.2.2.1 v.2.2.2.2.2.2.2.2.1 v.2.2.2.2.2.2.2.2.2) = laws_FnWeightedTurns.s1 k (fun a0 a1 a2 a3 a4 a5 a6 a7 => R0 (n11_0 a0 a1 a2 a3 a4 a5 a6 a7)) (fun a0 a1 a2 a3 a4 a5 a6 a7 a8 a9 => rec (n11_1 a0 a1 a2 a3 a4 a5 a6 a7 a8 a9)) v.1 v.2.1 v.2.2.1 v.2.2.2.1 v.2.2.2.2.1 v.2.2.2.2.2.1 v.2.2.2.2.2.2.1 v.2.2.2.2.2.2.2.1 v.2.2.2.2.2.2.2.2.1 v.2.2.2.2.2.2.2.2.2 := by
  kernel_rfl
theorem q11_1 (k : Nat) (R0 : St → Option (Bool)) (n : Nat) : ∀ v : (List Int) × Int × (List Int) × Int × (List Int) × (List Int) × Int × Int × Int × Int, loopF (E11 k) (S11 k) Try.f11 p11_1 [R0] n (n11_1 v.1 v.2.1 v.2.2.1 v.2.2.2.1 v.2.2.2.2.1 v.2.2.2.2.2.1 v.2.2.2.2.2.2.1 v.2.2.2.2.2.2.2.1 v.2.2.2.2.2.2.2.2.1 v.2.2.2.2.2.2.2.2.2) = laws_FnWeightedTurns.l1 k (fun a0 a1 a2 a3 a4 a5 a6 a7 => R0 (n11_0 a0 a1 a2 a3 a4 a5 a6 a7)) n v.1 v.2.1 v.2.2.1 v.2.2.2.1 v.2.2.2.2.1 v.2.2.2.2.2.1 v.2.2.2.2.2.2.1 v.2.2.2.2.2.2.2.1 v.2.2.2.2.2.2.2.2.1 v.2.2.2.2.2.2.2.2.2 :=
  loopF_eq (E11 k) (S11 k) Try.f11 p11_1 [R0] (fun v : (List Int) × Int × (List Int) × Int × (List Int) × (List Int) × Int × Int × Int × Int => n11_1 v.1 v.2.1 v.2.2.1 v.2.2.2.1 v.2.2.2.2.1 v.2.2.2.2.2.1 v.2.2.2.2.2.2.1 v.2.2.2.2.2.2.2.1 v.2.2.2.2.2.2.2.2.1 v.2.2.2.2.2.2.2.2.2) (fun rec v => laws_FnWeightedTurns.s1 k (fun a0 a1 a2 a3 a4 a5 a6 a7 => R0 (n11_0 a0 a1 a2 a3 a4 a5 a6 a7)) (fun a0 a1 a2 a3 a4 a5 a6 a7 a8 a9 => rec (a0, a1, a2, a3, a4, a5, a6, a7, a8, a9)) v.1 v.2.1 v.2.2.1 v.2.2.2.1 v.2.2.2.2.1 v.2.2.2.2.2.1 v.2.2.2.2.2.2.1 v.2.2.2.2.2.2.2.1 v.2.2.2.2.2.2.2.2.1 v.2.2.2.2.2.2.2.2.2) (fun n v => laws_FnWeightedTurns.l1 k (fun a0 a1 a2 a3 a4 a5 a6 a7 => R0 (n11_0 a0 a1 a2 a3 a4 a5 a6 a7)) n v.1 v.2.1 v.2.2.1 v.2.2.2.1 v.2.2.2.2.1 v.2.2.2.2.2.1 v.2.2.2.2.2.2.1 v.2.2.2.2.2.2.2.1 v.2.2.2.2.2.2.2.2.1 v.2.2.2.2.2.2.2.2.2) (fun _ => rfl) (fun _ _ => rfl) (fun rec v => r11_1 k R0 rec v) n
theorem r11_0 (k : Nat) (rec : St → Option (Bool)) (G1 : (List Int) → Int → (List Int) → Int → (List Int) → (List Int) → Int → Int → Int → Int → Option (Bool)) (h1 : ∀ a0 a1 a2 a3 a4 a5 a6 a7 a8 a9, loopF (E11 k) (S11 k) Try.f11 p11_1 [rec] k (n11_1 a0 a1 a2 a3 a4 a5 a6 a7 a8 a9) = G1 a0 a1 a2 a3 a4 a5 a6 a7 a8 a9) (v : (List Int) × Int × (List Int) × Int × (List Int) × (List Int) × Int × Int) : roundF (E11 k) (S11 k) Try.f11 p11_0 [] rec (n11_0 v.1 v.2.1 v.2.2.1 v.2.2.2.1 v.2.2.2.2.1 v.2.2.2.2.2.1 v.2.2.2.2.2.2.1 v.2.2.2.2.2.2.2) = laws_FnWeightedTurns.s0 k (fun a0 a1 a2 a3 a4 a5 a6 a7 => rec (n11_0 a0 a1 a2 a3 a4 a5 a6 a7)) G1 v.1 v.2.1 v.2.2.1 v.2.2.2.1 v.2.2.2.2.1 v.2.2.2.2.2.1 v.2.2.2.2.2.2.1 v.2.2.2.2.2.2.2 := by
  obtain rfl : (fun a0 a1 a2 a3 a4 a5 a6 a7 a8 a9 => loopF (E11 k) (S11 k) Try.f11 p11_1 [rec] k (n11_1 a0 a1 a2 a3 a4 a5 a6 a7 a8 a9)) = G1 := funext fun a0 => funext fun a1 => funext fun a2 => funext fun a3 => funext fun a4 => funext fun a5 => funext fun a6 => funext fun a7 => funext fun a8 => funext fun a9 => h1 a0 a1 a2 a3 a4 a5 a6 a7 a8 a9
  kernel_rfl
theorem q11_0 (k : Nat) (n : Nat) : ∀ v : (List Int) × Int × (List Int) × Int × (List Int) × (List Int) × Int × Int, loopF (E11 k) (S11 k) Try.f11 p11_0 [] n (n11_0 v.1 v.2.1 v.2.2.1 v.2.2.2.1 v.2.2.2.2.1 v.2.2.2.2.2.1 v.2.2.2.2.2.2.1 v.2.2.2.2.2.2.2) = laws_FnWeightedTurns.l0 k n v.1 v.2.1 v.2.2.1 v.2.2.2.1 v.2.2.2.2.1 v.2.2.2.2.2.1 v.2.2.2.2.2.2.1 v.2.2.2.2.2.2.2 :=
  loopF_eq (E11 k) (S11 k) Try.f11 p11_0 [] (fun v : (List Int) × Int × (List Int) × Int × (List Int) × (List Int) × Int × Int => n11_0 v.1 v.2.1 v.2.2.1 v.2.2.2.1 v.2.2.2.2.1 v.2.2.2.2.2.1 v.2.2.2.2.2.2.1 v.2.2.2.2.2.2.2) (fun rec v => laws_FnWeightedTurns.s0 k (fun a0 a1 a2 a3 a4 a5 a6 a7 => rec (a0, a1, a2, a3, a4, a5, a6, a7)) (laws_FnWeightedTurns.l1 k (fun a0 a1 a2 a3 a4 a5 a6 a7 => rec (a0, a1, a2, a3, a4, a5, a6, a7)) k) v.1 v.2.1 v.2.2.1 v.2.2.2.1 v.2.2.2.2.1 v.2.2.2.2.2.1 v.2.2.2.2.2.2.1 v.2.2.2.2.2.2.2) (fun n v => laws_FnWeightedTurns.l0 k n v.1 v.2.1 v.2.2.1 v.2.2.2.1 v.2.2.2.2.1 v.2.2.2.2.2.1 v.2.2.2.2.2.2.1 v.2.2.2.2.2.2.2) (fun _ => rfl) (fun _ _ => rfl) (fun rec v => r11_0 k rec _ (fun a0 a1 a2 a3 a4 a5 a6 a7 a8 a9 => q11_1 k rec k (a0, a1, a2, a3, a4, a5, a6, a7, a8, a9)) v) n
theorem e11 (k : Nat) (x : dens (flatC (S11 k).ps)) : funK (E11 k) (S11 k) Try.f11 x = (S11 k).fn x := by
  have h : funK (E11 k) (S11 k) Try.f11 x = laws_FnWeightedTurns.g k (fun a0 a1 a2 a3 a4 a5 a6 a7 => loopF (E11 k) (S11 k) Try.f11 p11_0 [] k (n11_0 a0 a1 a2 a3 a4 a5 a6 a7)) x := by kernel_rfl
  rw [h]
  rw [show (fun a0 a1 a2 a3 a4 a5 a6 a7 => loopF (E11 k) (S11 k) Try.f11 p11_0 [] k (n11_0 a0 a1 a2 a3 a4 a5 a6 a7)) = laws_FnWeightedTurns.l0 k k from funext fun a0 => funext fun a1 => funext fun a2 => funext fun a3 => funext fun a4 => funext fun a5 => funext fun a6 => funext fun a7 => q11_0 k k (a0, a1, a2, a3, a4, a5, a6, a7)]
  rfl
theorem M11 (k : Nat) : Meets Try.prog 11 (S11 k) := meets_of Try.func11 (by kernel_rfl) tbOk (orc_cons (M36 k) (orc_cons (M74 k) (orc_cons (M24 k) (orc_cons (M23 k) (orc_cons (M38 k) (orc_cons (M75 k) (orc_cons (M76 k) (orc_cons (M77 k) (orc_cons (M78 k) (orc_cons (M79 k) (orc_cons (M80 k) (orc_cons (M81 k) (orc_cons (M82 k) (orc_cons (M83 k) (orc_cons (M68 k) orc_nil))))))))))))))) mixOk (fun x y h => (e11 k x).trans h) rfl



end Go.Proofs.Ytmgdobiloapelaa.Vf
