/- What the functions of program, reference and laws give, as plain functions, and that they meet them (part 1). Conditions: none. Written by a program of my own (vp.py). -/
import Derived.Test.YtmgdobiloapelaaVc
import Derived.Test.YtmgdobiloapelaaProg
set_option linter.unusedVariables false
set_option maxRecDepth 100000
namespace Go.Proofs.Ytmgdobiloapelaa.Vf
open Go Go.V Go.RowKit Go.Proofs
def tbl : List (Nat × TI) := [(1, ⟨.fn, 1, 8, [.nilFunc]⟩), (2, ⟨.int .i64, 1, 8, [.int .i64 0]⟩), (3, ⟨.int .i64, 1, 8, [.int .i64 0]⟩), (4, ⟨.bool, 1, 1, [.bool false]⟩), (5, ⟨.int .u8, 1, 1, [.int .u8 0]⟩), (6, ⟨.int .u8, 1, 1, [.int .u8 0]⟩), (7, ⟨.struct [(0, 2), (1, 3), (2, 4), (3, 6)], 4, 24, [.int .i64 0, .int .i64 0, .bool false, .int .u8 0]⟩), (8, ⟨.struct [(0, 2), (1, 3), (2, 4), (3, 6)], 4, 24, [.int .i64 0, .int .i64 0, .bool false, .int .u8 0]⟩), (9, ⟨.str, 1, 16, [.string ByteArray.empty]⟩), (10, ⟨.str, 1, 16, [.string ByteArray.empty]⟩), (11, ⟨.str, 1, 16, [.string ByteArray.empty]⟩), (12, ⟨.int .u64, 1, 8, [.int .u64 0]⟩), (13, ⟨.struct [(0, 9), (1, 12)], 2, 24, [.string ByteArray.empty, .int .u64 0]⟩), (14, ⟨.struct [(0, 9), (1, 12)], 2, 24, [.string ByteArray.empty, .int .u64 0]⟩), (15, ⟨.ptr 147, 1, 8, [.pointer none]⟩), (16, ⟨.ptr 150, 1, 8, [.pointer none]⟩), (17, ⟨.ptr 159, 1, 8, [.pointer none]⟩), (18, ⟨.struct [(0, 17)], 1, 8, [.pointer none]⟩), (19, ⟨.struct [(0, 17)], 1, 8, [.pointer none]⟩), (21, ⟨.int .i32, 1, 4, [.int .i32 0]⟩), (22, ⟨.slice 2, 1, 24, [.slice none 0 0]⟩), (23, ⟨.struct [(0, 22), (1, 22), (2, 22)], 3, 72, [.slice none 0 0, .slice none 0 0, .slice none 0 0]⟩), (24, ⟨.struct [(0, 22), (1, 22), (2, 22)], 3, 72, [.slice none 0 0, .slice none 0 0, .slice none 0 0]⟩), (25, ⟨.fn, 1, 8, [.nilFunc]⟩), (27, ⟨.fn, 1, 8, [.nilFunc]⟩), (28, ⟨.struct [(0, 22), (1, 22), (2, 22)], 3, 72, [.slice none 0 0, .slice none 0 0, .slice none 0 0]⟩), (29, ⟨.fn, 1, 8, [.nilFunc]⟩), (30, ⟨.fn, 1, 8, [.nilFunc]⟩), (31, ⟨.fn, 1, 8, [.nilFunc]⟩), (32, ⟨.fn, 1, 8, [.nilFunc]⟩), (33, ⟨.fn, 1, 8, [.nilFunc]⟩), (34, ⟨.fn, 1, 8, [.nilFunc]⟩), (35, ⟨.fn, 1, 8, [.nilFunc]⟩), (36, ⟨.fn, 1, 8, [.nilFunc]⟩), (37, ⟨.fn, 1, 8, [.nilFunc]⟩), (38, ⟨.fn, 1, 8, [.nilFunc]⟩), (39, ⟨.fn, 1, 8, [.nilFunc]⟩), (40, ⟨.struct [(0, 22)], 1, 24, [.slice none 0 0]⟩), (41, ⟨.struct [(0, 22)], 1, 24, [.slice none 0 0]⟩), (43, ⟨.fn, 1, 8, [.nilFunc]⟩), (44, ⟨.fn, 1, 8, [.nilFunc]⟩), (45, ⟨.fn, 1, 8, [.nilFunc]⟩), (46, ⟨.slice 5, 1, 24, [.slice none 0 0]⟩), (47, ⟨.fn, 1, 8, [.nilFunc]⟩), (48, ⟨.fn, 1, 8, [.nilFunc]⟩), (50, ⟨.fn, 1, 8, [.nilFunc]⟩), (52, ⟨.fn, 1, 8, [.nilFunc]⟩), (54, ⟨.fn, 1, 8, [.nilFunc]⟩), (55, ⟨.fn, 1, 8, [.nilFunc]⟩), (57, ⟨.fn, 1, 8, [.nilFunc]⟩), (58, ⟨.fn, 1, 8, [.nilFunc]⟩), (59, ⟨.fn, 1, 8, [.nilFunc]⟩), (60, ⟨.fn, 1, 8, [.nilFunc]⟩), (62, ⟨.fn, 1, 8, [.nilFunc]⟩), (63, ⟨.fn, 1, 8, [.nilFunc]⟩), (64, ⟨.fn, 1, 8, [.nilFunc]⟩), (66, ⟨.fn, 1, 8, [.nilFunc]⟩), (67, ⟨.fn, 1, 8, [.nilFunc]⟩), (69, ⟨.fn, 1, 8, [.nilFunc]⟩), (70, ⟨.fn, 1, 8, [.nilFunc]⟩), (71, ⟨.fn, 1, 8, [.nilFunc]⟩), (72, ⟨.fn, 1, 8, [.nilFunc]⟩), (73, ⟨.fn, 1, 8, [.nilFunc]⟩), (74, ⟨.fn, 1, 8, [.nilFunc]⟩), (76, ⟨.fn, 1, 8, [.nilFunc]⟩), (77, ⟨.fn, 1, 8, [.nilFunc]⟩), (78, ⟨.fn, 1, 8, [.nilFunc]⟩), (79, ⟨.fn, 1, 8, [.nilFunc]⟩), (80, ⟨.fn, 1, 8, [.nilFunc]⟩), (81, ⟨.fn, 1, 8, [.nilFunc]⟩), (82, ⟨.fn, 1, 8, [.nilFunc]⟩), (83, ⟨.fn, 1, 8, [.nilFunc]⟩), (84, ⟨.fn, 1, 8, [.nilFunc]⟩), (85, ⟨.fn, 1, 8, [.nilFunc]⟩), (86, ⟨.fn, 1, 8, [.nilFunc]⟩), (87, ⟨.fn, 1, 8, [.nilFunc]⟩), (88, ⟨.fn, 1, 8, [.nilFunc]⟩), (89, ⟨.fn, 1, 8, [.nilFunc]⟩), (90, ⟨.fn, 1, 8, [.nilFunc]⟩), (91, ⟨.fn, 1, 8, [.nilFunc]⟩), (92, ⟨.fn, 1, 8, [.nilFunc]⟩), (93, ⟨.fn, 1, 8, [.nilFunc]⟩), (94, ⟨.fn, 1, 8, [.nilFunc]⟩), (95, ⟨.fn, 1, 8, [.nilFunc]⟩), (96, ⟨.fn, 1, 8, [.nilFunc]⟩), (97, ⟨.fn, 1, 8, [.nilFunc]⟩), (98, ⟨.ptr 125, 1, 8, [.pointer none]⟩), (99, ⟨.fn, 1, 8, [.nilFunc]⟩), (100, ⟨.fn, 1, 8, [.nilFunc]⟩), (101, ⟨.fn, 1, 8, [.nilFunc]⟩), (102, ⟨.fn, 1, 8, [.nilFunc]⟩), (103, ⟨.fn, 1, 8, [.nilFunc]⟩), (104, ⟨.fn, 1, 8, [.nilFunc]⟩), (105, ⟨.fn, 1, 8, [.nilFunc]⟩), (106, ⟨.fn, 1, 8, [.nilFunc]⟩), (107, ⟨.fn, 1, 8, [.nilFunc]⟩), (108, ⟨.fn, 1, 8, [.nilFunc]⟩), (109, ⟨.fn, 1, 8, [.nilFunc]⟩), (110, ⟨.fn, 1, 8, [.nilFunc]⟩), (111, ⟨.fn, 1, 8, [.nilFunc]⟩), (112, ⟨.fn, 1, 8, [.nilFunc]⟩), (113, ⟨.slice 4, 1, 24, [.slice none 0 0]⟩), (114, ⟨.map 2 4, 1, 8, [.map none]⟩), (115, ⟨.fn, 1, 8, [.nilFunc]⟩), (116, ⟨.fn, 1, 8, [.nilFunc]⟩), (117, ⟨.fn, 1, 8, [.nilFunc]⟩), (118, ⟨.fn, 1, 8, [.nilFunc]⟩), (119, ⟨.fn, 1, 8, [.nilFunc]⟩), (120, ⟨.fn, 1, 8, [.nilFunc]⟩), (121, ⟨.fn, 1, 8, [.nilFunc]⟩), (122, ⟨.fn, 1, 8, [.nilFunc]⟩), (123, ⟨.int .u64, 1, 8, [.int .u64 0]⟩), (124, ⟨.struct [(0, 46), (1, 3), (2, 123)], 3, 40, [.slice none 0 0, .int .i64 0, .int .u64 0]⟩), (125, ⟨.struct [(0, 46), (1, 3), (2, 123)], 3, 40, [.slice none 0 0, .int .i64 0, .int .u64 0]⟩), (126, ⟨.fn, 1, 8, [.nilFunc]⟩), (127, ⟨.int .u64, 1, 8, [.int .u64 0]⟩), (129, ⟨.fn, 1, 8, [.nilFunc]⟩), (130, ⟨.fn, 1, 8, [.nilFunc]⟩), (131, ⟨.fn, 1, 8, [.nilFunc]⟩), (132, ⟨.fn, 1, 8, [.nilFunc]⟩), (133, ⟨.fn, 1, 8, [.nilFunc]⟩), (134, ⟨.int .u32, 1, 4, [.int .u32 0]⟩), (136, ⟨.fn, 1, 8, [.nilFunc]⟩), (138, ⟨.fn, 1, 8, [.nilFunc]⟩), (140, ⟨.fn, 1, 8, [.nilFunc]⟩), (141, ⟨.fn, 1, 8, [.nilFunc]⟩), (142, ⟨.fn, 1, 8, [.nilFunc]⟩), (143, ⟨.fn, 1, 8, [.nilFunc]⟩), (144, ⟨.fn, 1, 8, [.nilFunc]⟩), (145, ⟨.fn, 1, 8, [.nilFunc]⟩), (146, ⟨.struct [(0, 17), (1, 17), (2, 17), (3, 9)], 4, 40, [.pointer none, .pointer none, .pointer none, .string ByteArray.empty]⟩), (147, ⟨.struct [(0, 17), (1, 17), (2, 17), (3, 9)], 4, 40, [.pointer none, .pointer none, .pointer none, .string ByteArray.empty]⟩), (149, ⟨.struct [(0, 148)], 0, 0, []⟩), (150, ⟨.struct [(0, 148)], 0, 0, []⟩), (151, ⟨.fn, 1, 8, [.nilFunc]⟩), (152, ⟨.int .u8, 1, 1, [.int .u8 0]⟩), (153, ⟨.int .u8, 1, 1, [.int .u8 0]⟩), (154, ⟨.fn, 1, 8, [.nilFunc]⟩), (155, ⟨.ptr 5, 1, 8, [.pointer none]⟩), (156, ⟨.int .i32, 1, 4, [.int .i32 0]⟩), (157, ⟨.int .i32, 1, 4, [.int .i32 0]⟩), (158, ⟨.struct [(0, 12), (1, 12), (2, 134), (3, 152), (4, 5), (5, 5), (6, 153), (7, 154), (8, 155), (9, 156), (10, 157)], 11, 48, [.int .u64 0, .int .u64 0, .int .u32 0, .int .u8 0, .int .u8 0, .int .u8 0, .int .u8 0, .nilFunc, .pointer none, .int .i32 0, .int .i32 0]⟩), (159, ⟨.struct [(0, 12), (1, 12), (2, 134), (3, 152), (4, 5), (5, 5), (6, 153), (7, 154), (8, 155), (9, 156), (10, 157)], 11, 48, [.int .u64 0, .int .u64 0, .int .u32 0, .int .u8 0, .int .u8 0, .int .u8 0, .int .u8 0, .nilFunc, .pointer none, .int .i32 0, .int .i32 0]⟩), (160, ⟨.fn, 1, 8, [.nilFunc]⟩)]
def tb : TypeId → Option TI := Go.V.look tbl
theorem tbEq : tbl.map (fun p => entryOf Try.prog p.1) = tbl.map (fun p => some p.2) := by kernel_rfl
theorem tbOk : TbOK Try.prog tb := tb_of tbEq
theorem mixOk : Try.prog.follows .mixedOrders = true := by kernel_rfl

/-! laws_szInt64S: function 91 -/
noncomputable def laws_szInt64S.f (l0 : List Int) (a1 : Int) : Option (Int) := if (wrap64 (a1 - (l0.length : Int))) < 0 then (some (-1)) else (some (wrap64 (a1 - (l0.length : Int))))
noncomputable def S91 (k : Nat) : Does := ⟨[(false, [.dat (.list (.int .i64))]), (false, [.dat (.int .i64)])], [(false, [.dat (.int .i64)])], fun x => laws_szInt64S.f x.1 x.2⟩
noncomputable def E91 (k : Nat) : En := ⟨tb, orcOf [], lvOf [], k, 0, lvOf [], []⟩
theorem e91 (k : Nat) (x : dens (flatC (S91 k).ps)) : funK (E91 k) (S91 k) Try.f91 x = (S91 k).fn x := by
  kernel_rfl
theorem M91 (k : Nat) : Meets Try.prog 91 (S91 k) := meets_of Try.func91 (by kernel_rfl) tbOk orc_nil mixOk (fun x y h => (e91 k x).trans h) rfl

/-! laws_szJobs: function 13 -/
noncomputable def laws_szJobs.f (l0_0 : List Int) (l0_1 : List Int) (l0_2 : List Int) (a1 : Int) : Option (Int) := (laws_szInt64S.f l0_0 a1).bind fun t1 => if t1 < 0 then (some (-1)) else ((laws_szInt64S.f l0_1 t1).bind fun t2 => if t2 < 0 then (some (-1)) else ((laws_szInt64S.f l0_2 t2).bind fun t3 => if t3 < 0 then (some (-1)) else (some t3)))
noncomputable def S13 (k : Nat) : Does := ⟨[(true, [.dat (.list (.int .i64)), .dat (.list (.int .i64)), .dat (.list (.int .i64))]), (false, [.dat (.int .i64)])], [(false, [.dat (.int .i64)])], fun x => laws_szJobs.f x.1 x.2.1 x.2.2.1 x.2.2.2⟩
noncomputable def E13 (k : Nat) : En := ⟨tb, orcOf [(91, S91 k)], lvOf [], k, 0, lvOf [], []⟩
theorem e13 (k : Nat) (x : dens (flatC (S13 k).ps)) : funK (E13 k) (S13 k) Try.f13 x = (S13 k).fn x := by
  kernel_rfl
theorem M13 (k : Nat) : Meets Try.prog 13 (S13 k) := meets_of Try.func13 (by kernel_rfl) tbOk (orc_cons (M91 k) orc_nil) mixOk (fun x y h => (e13 k x).trans h) rfl

/-! laws_toInt64S: function 16 -/
noncomputable def laws_toInt64S.s0 (k : Nat) (r0 : (List Int) → (List Int) → Int → Option ((List Int))) (x0 : List Int) (x3 : List Int) (x4 : Int) : Option ((List Int)) := if x4 < (x0.length : Int) then (if 0 ≤ x4 then (if x4 < (x0.length : Int) then (if 0 ≤ x4 then (if x4 < (x3.length : Int) then (r0 x0 (x3.set x4.toNat (rd x0 x4)) (wrap64 (x4 + 1))) else (none)) else (none)) else (none)) else (none)) else (some x3)
noncomputable def laws_toInt64S.l0 (k : Nat) : Nat → (List Int) → (List Int) → Int → Option ((List Int))
  | 0, _, _, _ => none
  | n + 1, x0, x1, x2 => laws_toInt64S.s0 k (laws_toInt64S.l0 k n) x0 x1 x2
noncomputable def laws_toInt64S.g (k : Nat) (r0 : (List Int) → (List Int) → Int → Option ((List Int))) (l0 : List Int) : Option ((List Int)) := if 0 ≤ (l0.length : Int) then (if (l0.length : Int) ≤ (l0.length : Int) then (if (l0.length : Int).toNat ≤ 1099511627776 then (r0 l0 (List.replicate (l0.length : Int).toNat (0 : Int)) 0) else (none)) else (none)) else (none)
noncomputable def laws_toInt64S.f (k : Nat) (l0 : List Int) : Option ((List Int)) := laws_toInt64S.g k (laws_toInt64S.l0 k k) l0
noncomputable def S16 (k : Nat) : Does := ⟨[(false, [.dat (.list (.int .i64))])], [(false, [.own 2 (.int .i64)])], fun x => laws_toInt64S.f k x⟩
noncomputable def E16 (k : Nat) : En := ⟨tb, orcOf [], lvOf [(0, [(0, []), (3, []), (4, [])])], k, 0, lvOf [], []⟩
noncomputable def n16_0 (x0 : List Int) (x3 : List Int) (x4 : Int) : St := ⟨22, lookA [(0, .dat (.list (.int .i64)) x0), (3, .own 0), (4, .dat (.int .i64) x4)], Go.V.look [(0, .flat 2 (.int .i64) x3)]⟩
def p16_0 : List Bool := [true, true, false, true, false]
theorem r16_0 (k : Nat) (rec : St → Option ((List Int))) (v : (List Int) × (List Int) × Int) : roundF (E16 k) (S16 k) Try.f16 p16_0 [] rec (n16_0 v.1 v.2.1 v.2.2) = laws_toInt64S.s0 k (fun a0 a1 a2 => rec (n16_0 a0 a1 a2)) v.1 v.2.1 v.2.2 := by
  kernel_rfl
theorem q16_0 (k : Nat) (n : Nat) : ∀ v : (List Int) × (List Int) × Int, loopF (E16 k) (S16 k) Try.f16 p16_0 [] n (n16_0 v.1 v.2.1 v.2.2) = laws_toInt64S.l0 k n v.1 v.2.1 v.2.2 :=
  loopF_eq (E16 k) (S16 k) Try.f16 p16_0 [] (fun v : (List Int) × (List Int) × Int => n16_0 v.1 v.2.1 v.2.2) (fun rec v => laws_toInt64S.s0 k (fun a0 a1 a2 => rec (a0, a1, a2)) v.1 v.2.1 v.2.2) (fun n v => laws_toInt64S.l0 k n v.1 v.2.1 v.2.2) (fun _ => rfl) (fun _ _ => rfl) (fun rec v => r16_0 k rec v) n
theorem e16 (k : Nat) (x : dens (flatC (S16 k).ps)) : funK (E16 k) (S16 k) Try.f16 x = (S16 k).fn x := by
  have h : funK (E16 k) (S16 k) Try.f16 x = laws_toInt64S.g k (fun a0 a1 a2 => loopF (E16 k) (S16 k) Try.f16 p16_0 [] k (n16_0 a0 a1 a2)) x := by kernel_rfl
  rw [h]
  rw [show (fun a0 a1 a2 => loopF (E16 k) (S16 k) Try.f16 p16_0 [] k (n16_0 a0 a1 a2)) = laws_toInt64S.l0 k k from funext fun a0 => funext fun a1 => funext fun a2 => q16_0 k k (a0, a1, a2)]
  rfl
theorem M16 (k : Nat) : Meets Try.prog 16 (S16 k) := meets_of Try.func16 (by kernel_rfl) tbOk orc_nil mixOk (fun x y h => (e16 k x).trans h) rfl

/-! laws_toJobs: function 15 -/
noncomputable def laws_toJobs.f (k : Nat) (l0_0 : List Int) (l0_1 : List Int) (l0_2 : List Int) : Option ((List Int) × (List Int) × (List Int)) := (laws_toInt64S.f k l0_0).bind fun t1 => (laws_toInt64S.f k l0_1).bind fun t2 => (laws_toInt64S.f k l0_2).bind fun t3 => some (t1, t2, t3)
noncomputable def S15 (k : Nat) : Does := ⟨[(true, [.dat (.list (.int .i64)), .dat (.list (.int .i64)), .dat (.list (.int .i64))])], [(true, [.own 2 (.int .i64), .own 2 (.int .i64), .own 2 (.int .i64)])], fun x => laws_toJobs.f k x.1 x.2.1 x.2.2⟩
noncomputable def E15 (k : Nat) : En := ⟨tb, orcOf [(16, S16 k)], lvOf [], k, 0, lvOf [], []⟩
theorem e15 (k : Nat) (x : dens (flatC (S15 k).ps)) : funK (E15 k) (S15 k) Try.f15 x = (S15 k).fn x := by
  kernel_rfl
theorem M15 (k : Nat) : Meets Try.prog 15 (S15 k) := meets_of Try.func15 (by kernel_rfl) tbOk (orc_cons (M16 k) orc_nil) mixOk (fun x y h => (e15 k x).trans h) rfl

/-! spec_l01In: function 99 -/
noncomputable def spec_l01In.f (a0 : Int) (a1 : Int) (a2 : Int) : Option (Bool) := if a1 ≤ a0 then (some (decide (a0 ≤ a2))) else (some false)
noncomputable def S99 (k : Nat) : Does := ⟨[(false, [.dat (.int .i64)]), (false, [.dat (.int .i64)]), (false, [.dat (.int .i64)])], [(false, [.dat .bool])], fun x => spec_l01In.f x.1 x.2.1 x.2.2⟩
noncomputable def E99 (k : Nat) : En := ⟨tb, orcOf [], lvOf [], k, 0, lvOf [], []⟩
theorem e99 (k : Nat) (x : dens (flatC (S99 k).ps)) : funK (E99 k) (S99 k) Try.f99 x = (S99 k).fn x := by
  kernel_rfl
theorem M99 (k : Nat) : Meets Try.prog 99 (S99 k) := meets_of Try.func99 (by kernel_rfl) tbOk orc_nil mixOk (fun x y h => (e99 k x).trans h) rfl

/-! spec_l04Is: function 92 -/
noncomputable def spec_l04Is.s0 (k : Nat) (r0 : (List Int) → (List Int) → (List Int) → Int → Int → Option (Bool)) (x1_0 : List Int) (x1_1 : List Int) (x1_2 : List Int) (x3 : Int) (x4 : Int) : Option (Bool) := if x4 < x3 then (if 0 ≤ x4 then (if x4 < (x1_0.length : Int) then ((spec_l01In.f (rd x1_0 x4) 1 20).bind fun t1 => if t1 = true then (if 0 ≤ x4 then (if x4 < (x1_1.length : Int) then ((spec_l01In.f (rd x1_1 x4) 1 60).bind fun t2 => if t2 = true then (if 0 ≤ x4 then (if x4 < (x1_2.length : Int) then (if 0 ≤ x4 then (if x4 < (x1_1.length : Int) then ((spec_l01In.f (rd x1_2 x4) 1 (rd x1_1 x4)).bind fun t3 => if t3 = true then (r0 x1_0 x1_1 x1_2 x3 (wrap64 (x4 + 1))) else (some false)) else (none)) else (none)) else (none)) else (none)) else (some false)) else (none)) else (none)) else (some false)) else (none)) else (none)) else (some true)
noncomputable def spec_l04Is.l0 (k : Nat) : Nat → (List Int) → (List Int) → (List Int) → Int → Int → Option (Bool)
  | 0, _, _, _, _, _ => none
  | n + 1, x0, x1, x2, x3, x4 => spec_l04Is.s0 k (spec_l04Is.l0 k n) x0 x1 x2 x3 x4
noncomputable def spec_l04Is.g (k : Nat) (r0 : (List Int) → (List Int) → (List Int) → Int → Int → Option (Bool)) (l0_0 : List Int) (l0_1 : List Int) (l0_2 : List Int) : Option (Bool) := if (l0_0.length : Int) < 1 then (some false) else (if 8 < (l0_0.length : Int) then (some false) else (if (l0_1.length : Int) = (l0_0.length : Int) then (if (l0_2.length : Int) = (l0_0.length : Int) then (r0 l0_0 l0_1 l0_2 (l0_0.length : Int) 0) else (some false)) else (some false)))
noncomputable def spec_l04Is.f (k : Nat) (l0_0 : List Int) (l0_1 : List Int) (l0_2 : List Int) : Option (Bool) := spec_l04Is.g k (spec_l04Is.l0 k k) l0_0 l0_1 l0_2
noncomputable def S92 (k : Nat) : Does := ⟨[(true, [.dat (.list (.int .i64)), .dat (.list (.int .i64)), .dat (.list (.int .i64))])], [(false, [.dat .bool])], fun x => spec_l04Is.f k x.1 x.2.1 x.2.2⟩
noncomputable def E92 (k : Nat) : En := ⟨tb, orcOf [(99, S99 k)], lvOf [(0, [(1, []), (3, []), (4, [])])], k, 0, lvOf [], []⟩
noncomputable def n92_0 (x1_0 : List Int) (x1_1 : List Int) (x1_2 : List Int) (x3 : Int) (x4 : Int) : St := ⟨63, lookA [(1, .box 0 0), (3, .dat (.int .i64) x3), (4, .dat (.int .i64) x4)], Go.V.look [(0, .cells [.dat (.list (.int .i64)) x1_0, .dat (.list (.int .i64)) x1_1, .dat (.list (.int .i64)) x1_2])]⟩
def p92_0 : List Bool := [true, true, true, false, true, false]
theorem r92_0 (k : Nat) (rec : St → Option (Bool)) (v : (List Int) × (List Int) × (List Int) × Int × Int) : roundF (E92 k) (S92 k) Try.f92 p92_0 [] rec (n92_0 v.1 v.2.1 v.2.2.1 v.2.2.2.1 v.2.2.2.2) = spec_l04Is.s0 k (fun a0 a1 a2 a3 a4 => rec (n92_0 a0 a1 a2 a3 a4)) v.1 v.2.1 v.2.2.1 v.2.2.2.1 v.2.2.2.2 := by
  kernel_rfl
theorem q92_0 (k : Nat) (n : Nat) : ∀ v : (List Int) × (List Int) × (List Int) × Int × Int, loopF (E92 k) (S92 k) Try.f92 p92_0 [] n (n92_0 v.1 v.2.1 v.2.2.1 v.2.2.2.1 v.2.2.2.2) = spec_l04Is.l0 k n v.1 v.2.1 v.2.2.1 v.2.2.2.1 v.2.2.2.2 :=
  loopF_eq (E92 k) (S92 k) Try.f92 p92_0 [] (fun v : (List Int) × (List Int) × (List Int) × Int × Int => n92_0 v.1 v.2.1 v.2.2.1 v.2.2.2.1 v.2.2.2.2) (fun rec v => spec_l04Is.s0 k (fun a0 a1 a2 a3 a4 => rec (a0, a1, a2, a3, a4)) v.1 v.2.1 v.2.2.1 v.2.2.2.1 v.2.2.2.2) (fun n v => spec_l04Is.l0 k n v.1 v.2.1 v.2.2.1 v.2.2.2.1 v.2.2.2.2) (fun _ => rfl) (fun _ _ => rfl) (fun rec v => r92_0 k rec v) n
theorem e92 (k : Nat) (x : dens (flatC (S92 k).ps)) : funK (E92 k) (S92 k) Try.f92 x = (S92 k).fn x := by
  have h : funK (E92 k) (S92 k) Try.f92 x = spec_l04Is.g k (fun a0 a1 a2 a3 a4 => loopF (E92 k) (S92 k) Try.f92 p92_0 [] k (n92_0 a0 a1 a2 a3 a4)) x.1 x.2.1 x.2.2 := by kernel_rfl
  rw [h]
  rw [show (fun a0 a1 a2 a3 a4 => loopF (E92 k) (S92 k) Try.f92 p92_0 [] k (n92_0 a0 a1 a2 a3 a4)) = spec_l04Is.l0 k k from funext fun a0 => funext fun a1 => funext fun a2 => funext fun a3 => funext fun a4 => q92_0 k k (a0, a1, a2, a3, a4)]
  rfl
theorem M92 (k : Nat) : Meets Try.prog 92 (S92 k) := meets_of Try.func92 (by kernel_rfl) tbOk (orc_cons (M99 k) orc_nil) mixOk (fun x y h => (e92 k x).trans h) rfl

/-! spec_OrderByDeadlines: function 29 -/
noncomputable def spec_OrderByDeadlines.s1 (k : Nat) (r0 : (List Int) → (List Int) → (List Int) → (List Int) → Int → Option ((List Int) × Int)) (r1 : (List Int) → (List Int) → (List Int) → (List Int) → Int → Int → Option ((List Int) × Int)) (x1_0 : List Int) (x1_1 : List Int) (x1_2 : List Int) (x4 : List Int) (x5 : Int) (x6 : Int) : Option ((List Int) × Int) := if 0 < x6 then (if 0 ≤ (wrap64 (x6 - 1)) then (if (wrap64 (x6 - 1)) < (x4.length : Int) then (if 0 ≤ (rd x4 (wrap64 (x6 - 1))) then (if (rd x4 (wrap64 (x6 - 1))) < (x1_2.length : Int) then (if 0 ≤ x5 then (if x5 < (x1_2.length : Int) then (if (rd x1_2 x5) < (rd x1_2 (rd x4 (wrap64 (x6 - 1)))) then (if 0 ≤ (wrap64 (x6 - 1)) then (if (wrap64 (x6 - 1)) < (x4.length : Int) then (if 0 ≤ x6 then (if x6 < (x4.length : Int) then (r1 x1_0 x1_1 x1_2 (x4.set x6.toNat (rd x4 (wrap64 (x6 - 1)))) x5 (wrap64 (x6 - 1))) else (none)) else (none)) else (none)) else (none)) else (if 0 ≤ x6 then (if x6 < (x4.length : Int) then (r0 x1_0 x1_1 x1_2 (x4.set x6.toNat x5) (wrap64 (x5 + 1))) else (none)) else (none))) else (none)) else (none)) else (none)) else (none)) else (none)) else (none)) else (if 0 ≤ x6 then (if x6 < (x4.length : Int) then (r0 x1_0 x1_1 x1_2 (x4.set x6.toNat x5) (wrap64 (x5 + 1))) else (none)) else (none))
noncomputable def spec_OrderByDeadlines.l1 (k : Nat) (r0 : (List Int) → (List Int) → (List Int) → (List Int) → Int → Option ((List Int) × Int)) : Nat → (List Int) → (List Int) → (List Int) → (List Int) → Int → Int → Option ((List Int) × Int)
  | 0, _, _, _, _, _, _ => none
  | n + 1, x0, x1, x2, x3, x4, x5 => spec_OrderByDeadlines.s1 k r0 (spec_OrderByDeadlines.l1 k r0 n) x0 x1 x2 x3 x4 x5
noncomputable def spec_OrderByDeadlines.s0 (k : Nat) (r0 : (List Int) → (List Int) → (List Int) → (List Int) → Int → Option ((List Int) × Int)) (r1 : (List Int) → (List Int) → (List Int) → (List Int) → Int → Int → Option ((List Int) × Int)) (x1_0 : List Int) (x1_1 : List Int) (x1_2 : List Int) (x4 : List Int) (x5 : Int) : Option ((List Int) × Int) := if x5 < (x1_0.length : Int) then (if x4.length + 1 ≤ 1099511627776 then (r1 x1_0 x1_1 x1_2 (x4 ++ [x5]) x5 (x4.length : Int)) else (none)) else (some (x4, 0))
noncomputable def spec_OrderByDeadlines.l0 (k : Nat) : Nat → (List Int) → (List Int) → (List Int) → (List Int) → Int → Option ((List Int) × Int)
  | 0, _, _, _, _, _ => none
  | n + 1, x0, x1, x2, x3, x4 => spec_OrderByDeadlines.s0 k (spec_OrderByDeadlines.l0 k n) (spec_OrderByDeadlines.l1 k (spec_OrderByDeadlines.l0 k n) k) x0 x1 x2 x3 x4
noncomputable def spec_OrderByDeadlines.g (k : Nat) (r0 : (List Int) → (List Int) → (List Int) → (List Int) → Int → Option ((List Int) × Int)) (l0_0 : List Int) (l0_1 : List Int) (l0_2 : List Int) : Option ((List Int) × Int) := (spec_l04Is.f k l0_0 l0_1 l0_2).bind fun t1 => if t1 = true then (r0 l0_0 l0_1 l0_2 [] 0) else (some ([], 1))
noncomputable def spec_OrderByDeadlines.f (k : Nat) (l0_0 : List Int) (l0_1 : List Int) (l0_2 : List Int) : Option ((List Int) × Int) := spec_OrderByDeadlines.g k (spec_OrderByDeadlines.l0 k k) l0_0 l0_1 l0_2
noncomputable def S29 (k : Nat) : Does := ⟨[(true, [.dat (.list (.int .i64)), .dat (.list (.int .i64)), .dat (.list (.int .i64))])], [(false, [.own 2 (.int .i64)]), (false, [.dat (.int .i64)])], fun x => spec_OrderByDeadlines.f k x.1 x.2.1 x.2.2⟩
noncomputable def E29 (k : Nat) : En := ⟨tb, orcOf [(92, S92 k)], lvOf [(0, [(1, []), (4, []), (5, [])]), (2, [(1, []), (4, []), (5, []), (6, [])])], k, 0, lvOf [], []⟩
noncomputable def n29_0 (x1_0 : List Int) (x1_1 : List Int) (x1_2 : List Int) (x4 : List Int) (x5 : Int) : St := ⟨58, lookA [(1, .box 0 0), (4, .own 1), (5, .dat (.int .i64) x5)], Go.V.look [(0, .cells [.dat (.list (.int .i64)) x1_0, .dat (.list (.int .i64)) x1_1, .dat (.list (.int .i64)) x1_2]), (1, .flat 2 (.int .i64) x4)]⟩
def p29_0 : List Bool := [true, true, true, false, true, false]
noncomputable def n29_1 (x1_0 : List Int) (x1_1 : List Int) (x1_2 : List Int) (x4 : List Int) (x5 : Int) (x6 : Int) : St := ⟨58, lookA [(1, .box 0 0), (4, .own 1), (5, .dat (.int .i64) x5), (6, .dat (.int .i64) x6)], Go.V.look [(0, .cells [.dat (.list (.int .i64)) x1_0, .dat (.list (.int .i64)) x1_1, .dat (.list (.int .i64)) x1_2]), (1, .flat 2 (.int .i64) x4)]⟩
def p29_1 : List Bool := [true, true, true, false, true, false, false, true, false, false, true, true, false, false]
theorem r29_1 (k : Nat) (R0 : St → Option ((List Int) × Int)) (rec : St → Option ((List Int) × Int)) (v : (List Int) × (List Int) × (List Int) × (List Int) × Int × Int) : roundF (E29 k) (S29 k) Try.f29 p29_1 [R0] rec (n29_1 v.1 v.2.1 v.2.2.1 v.2.2.2.1 v.2.2.2.2.1 v.2.2.2.2.2) = spec_OrderByDeadlines.s1 k (fun a0 a1 a2 a3 a4 => R0 (n29_0 a0 a1 a2 a3 a4)) (fun a0 a1 a2 a3 a4 a5 => rec (n29_1 a0 a1 a2 a3 a4 a5)) v.1 v.2.1 v.2.2.1 v.2.2.2.1 v.2.2.2.2.1 v.2.2.2.2.2 := by
  kernel_rfl
theorem q29_1 (k : Nat) (R0 : St → Option ((List Int) × Int)) (n : Nat) : ∀ v : (List Int) × (List Int) × (List Int) × (List Int) × Int × Int, loopF (E29 k) (S29 k) Try.f29 p29_1 [R0] n (n29_1 v.1 v.2.1 v.2.2.1 v.2.2.2.1 v.2.2.2.2.1 v.2.2.2.2.2) = spec_OrderByDeadlines.l1 k (fun a0 a1 a2 a3 a4 => R0 (n29_0 a0 a1 a2 a3 a4)) n v.1 v.2.1 v.2.2.1 v.2.2.2.1 v.2.2.2.2.1 v.2.2.2.2.2 :=
  loopF_eq (E29 k) (S29 k) Try.f29 p29_1 [R0] (fun v : (List Int) × (List Int) × (List Int) × (List Int) × Int × Int => n29_1 v.1 v.2.1 v.2.2.1 v.2.2.2.1 v.2.2.2.2.1 v.2.2.2.2.2) (fun rec v => spec_OrderByDeadlines.s1 k (fun a0 a1 a2 a3 a4 => R0 (n29_0 a0 a1 a2 a3 a4)) (fun a0 a1 a2 a3 a4 a5 => rec (a0, a1, a2, a3, a4, a5)) v.1 v.2.1 v.2.2.1 v.2.2.2.1 v.2.2.2.2.1 v.2.2.2.2.2) (fun n v => spec_OrderByDeadlines.l1 k (fun a0 a1 a2 a3 a4 => R0 (n29_0 a0 a1 a2 a3 a4)) n v.1 v.2.1 v.2.2.1 v.2.2.2.1 v.2.2.2.2.1 v.2.2.2.2.2) (fun _ => rfl) (fun _ _ => rfl) (fun rec v => r29_1 k R0 rec v) n
theorem r29_0 (k : Nat) (rec : St → Option ((List Int) × Int)) (G1 : (List Int) → (List Int) → (List Int) → (List Int) → Int → Int → Option ((List Int) × Int)) (h1 : ∀ a0 a1 a2 a3 a4 a5, loopF (E29 k) (S29 k) Try.f29 p29_1 [rec] k (n29_1 a0 a1 a2 a3 a4 a5) = G1 a0 a1 a2 a3 a4 a5) (v : (List Int) × (List Int) × (List Int) × (List Int) × Int) : roundF (E29 k) (S29 k) Try.f29 p29_0 [] rec (n29_0 v.1 v.2.1 v.2.2.1 v.2.2.2.1 v.2.2.2.2) = spec_OrderByDeadlines.s0 k (fun a0 a1 a2 a3 a4 => rec (n29_0 a0 a1 a2 a3 a4)) G1 v.1 v.2.1 v.2.2.1 v.2.2.2.1 v.2.2.2.2 := by
  obtain rfl : (fun a0 a1 a2 a3 a4 a5 => loopF (E29 k) (S29 k) Try.f29 p29_1 [rec] k (n29_1 a0 a1 a2 a3 a4 a5)) = G1 := funext fun a0 => funext fun a1 => funext fun a2 => funext fun a3 => funext fun a4 => funext fun a5 => h1 a0 a1 a2 a3 a4 a5
  kernel_rfl
theorem q29_0 (k : Nat) (n : Nat) : ∀ v : (List Int) × (List Int) × (List Int) × (List Int) × Int, loopF (E29 k) (S29 k) Try.f29 p29_0 [] n (n29_0 v.1 v.2.1 v.2.2.1 v.2.2.2.1 v.2.2.2.2) = spec_OrderByDeadlines.l0 k n v.1 v.2.1 v.2.2.1 v.2.2.2.1 v.2.2.2.2 :=
  loopF_eq (E29 k) (S29 k) Try.f29 p29_0 [] (fun v : (List Int) × (List Int) × (List Int) × (List Int) × Int => n29_0 v.1 v.2.1 v.2.2.1 v.2.2.2.1 v.2.2.2.2) (fun rec v => spec_OrderByDeadlines.s0 k (fun a0 a1 a2 a3 a4 => rec (a0, a1, a2, a3, a4)) (spec_OrderByDeadlines.l1 k (fun a0 a1 a2 a3 a4 => rec (a0, a1, a2, a3, a4)) k) v.1 v.2.1 v.2.2.1 v.2.2.2.1 v.2.2.2.2) (fun n v => spec_OrderByDeadlines.l0 k n v.1 v.2.1 v.2.2.1 v.2.2.2.1 v.2.2.2.2) (fun _ => rfl) (fun _ _ => rfl) (fun rec v => r29_0 k rec _ (fun a0 a1 a2 a3 a4 a5 => q29_1 k rec k (a0, a1, a2, a3, a4, a5)) v) n
theorem e29 (k : Nat) (x : dens (flatC (S29 k).ps)) : funK (E29 k) (S29 k) Try.f29 x = (S29 k).fn x := by
  have h : funK (E29 k) (S29 k) Try.f29 x = spec_OrderByDeadlines.g k (fun a0 a1 a2 a3 a4 => loopF (E29 k) (S29 k) Try.f29 p29_0 [] k (n29_0 a0 a1 a2 a3 a4)) x.1 x.2.1 x.2.2 := by kernel_rfl
  rw [h]
  rw [show (fun a0 a1 a2 a3 a4 => loopF (E29 k) (S29 k) Try.f29 p29_0 [] k (n29_0 a0 a1 a2 a3 a4)) = spec_OrderByDeadlines.l0 k k from funext fun a0 => funext fun a1 => funext fun a2 => funext fun a3 => funext fun a4 => q29_0 k k (a0, a1, a2, a3, a4)]
  rfl
theorem M29 (k : Nat) : Meets Try.prog 29 (S29 k) := meets_of Try.func29 (by kernel_rfl) tbOk (orc_cons (M92 k) orc_nil) mixOk (fun x y h => (e29 k x).trans h) rfl

/-! impl_length_int64: function 101 -/
noncomputable def impl_length_int64.f (l0 : List Int) : Option (Int) := some (l0.length : Int)
noncomputable def S101 (k : Nat) : Does := ⟨[(false, [.dat (.list (.int .i64))])], [(false, [.dat (.int .i64)])], fun x => impl_length_int64.f x⟩
noncomputable def E101 (k : Nat) : En := ⟨tb, orcOf [], lvOf [], k, 0, lvOf [], []⟩
theorem e101 (k : Nat) (x : dens (flatC (S101 k).ps)) : funK (E101 k) (S101 k) Try.f101 x = (S101 k).fn x := by
  kernel_rfl
theorem M101 (k : Nat) : Meets Try.prog 101 (S101 k) := meets_of Try.func101 (by kernel_rfl) tbOk orc_nil mixOk (fun x y h => (e101 k x).trans h) rfl

/-! impl_Jobs_many: function 96 -/
noncomputable def impl_Jobs_many.f (l0_0 : List Int) (l0_1 : List Int) (l0_2 : List Int) : Option (Int) := (impl_length_int64.f l0_0).bind fun t1 => some t1
noncomputable def S96 (k : Nat) : Does := ⟨[(true, [.dat (.list (.int .i64)), .dat (.list (.int .i64)), .dat (.list (.int .i64))])], [(false, [.dat (.int .i64)])], fun x => impl_Jobs_many.f x.1 x.2.1 x.2.2⟩
noncomputable def E96 (k : Nat) : En := ⟨tb, orcOf [(101, S101 k)], lvOf [], k, 0, lvOf [], []⟩
theorem e96 (k : Nat) (x : dens (flatC (S96 k).ps)) : funK (E96 k) (S96 k) Try.f96 x = (S96 k).fn x := by
  kernel_rfl
theorem M96 (k : Nat) : Meets Try.prog 96 (S96 k) := meets_of Try.func96 (by kernel_rfl) tbOk (orc_cons (M101 k) orc_nil) mixOk (fun x y h => (e96 k x).trans h) rfl

/-! impl_within: function 104 -/
noncomputable def impl_within.f (a0 : Int) (a1 : Int) (a2 : Int) : Option (Bool) := if a1 ≤ a0 then (some (decide (a0 ≤ a2))) else (some false)
noncomputable def S104 (k : Nat) : Does := ⟨[(false, [.dat (.int .i64)]), (false, [.dat (.int .i64)]), (false, [.dat (.int .i64)])], [(false, [.dat .bool])], fun x => impl_within.f x.1 x.2.1 x.2.2⟩
noncomputable def E104 (k : Nat) : En := ⟨tb, orcOf [], lvOf [], k, 0, lvOf [], []⟩
theorem e104 (k : Nat) (x : dens (flatC (S104 k).ps)) : funK (E104 k) (S104 k) Try.f104 x = (S104 k).fn x := by
  kernel_rfl
theorem M104 (k : Nat) : Meets Try.prog 104 (S104 k) := meets_of Try.func104 (by kernel_rfl) tbOk orc_nil mixOk (fun x y h => (e104 k x).trans h) rfl

/-! impl_AreJobs: function 49 -/
noncomputable def impl_AreJobs.s0 (k : Nat) (r0 : (List Int) → (List Int) → (List Int) → (List Int) → Int → Int → Option (Bool)) (x1_0 : List Int) (x1_1 : List Int) (x1_2 : List Int) (x28 : List Int) (x29 : Int) (x30 : Int) : Option (Bool) := if x30 < x29 then (if 0 ≤ x30 then (if x30 < (x28.length : Int) then ((impl_within.f (rd x28 x30) 1 60).bind fun t3 => if t3 = true then (if 0 ≤ x30 then (if x30 < (x1_0.length : Int) then ((impl_within.f (rd x1_0 x30) 1 20).bind fun t4 => if t4 = true then (if 0 ≤ x30 then (if x30 < (x1_2.length : Int) then ((impl_within.f (rd x1_2 x30) 1 (rd x28 x30)).bind fun t5 => if t5 = true then (r0 x1_0 x1_1 x1_2 x28 x29 (wrap64 (x30 + 1))) else (some false)) else (none)) else (none)) else (some false)) else (none)) else (none)) else (some false)) else (none)) else (none)) else (some true)
noncomputable def impl_AreJobs.l0 (k : Nat) : Nat → (List Int) → (List Int) → (List Int) → (List Int) → Int → Int → Option (Bool)
  | 0, _, _, _, _, _, _ => none
  | n + 1, x0, x1, x2, x3, x4, x5 => impl_AreJobs.s0 k (impl_AreJobs.l0 k n) x0 x1 x2 x3 x4 x5
noncomputable def impl_AreJobs.g (k : Nat) (r0 : (List Int) → (List Int) → (List Int) → (List Int) → Int → Int → Option (Bool)) (l0_0 : List Int) (l0_1 : List Int) (l0_2 : List Int) : Option (Bool) := (impl_Jobs_many.f l0_0 l0_1 l0_2).bind fun t1 => (impl_within.f t1 1 8).bind fun t2 => if t2 = true then (if (l0_1.length : Int) = (l0_0.length : Int) then (if (l0_2.length : Int) = (l0_0.length : Int) then (r0 l0_0 l0_1 l0_2 l0_1 (l0_1.length : Int) 0) else (some false)) else (some false)) else (some false)
noncomputable def impl_AreJobs.f (k : Nat) (l0_0 : List Int) (l0_1 : List Int) (l0_2 : List Int) : Option (Bool) := impl_AreJobs.g k (impl_AreJobs.l0 k k) l0_0 l0_1 l0_2
noncomputable def S49 (k : Nat) : Does := ⟨[(true, [.dat (.list (.int .i64)), .dat (.list (.int .i64)), .dat (.list (.int .i64))])], [(false, [.dat .bool])], fun x => impl_AreJobs.f k x.1 x.2.1 x.2.2⟩
noncomputable def E49 (k : Nat) : En := ⟨tb, orcOf [(96, S96 k), (104, S104 k)], lvOf [(0, [(1, []), (28, []), (29, []), (30, [])])], k, 0, lvOf [], []⟩
noncomputable def n49_0 (x1_0 : List Int) (x1_1 : List Int) (x1_2 : List Int) (x28 : List Int) (x29 : Int) (x30 : Int) : St := ⟨58, lookA [(1, .box 0 0), (28, .dat (.list (.int .i64)) x28), (29, .dat (.int .i64) x29), (30, .dat (.int .i64) x30)], Go.V.look [(0, .cells [.dat (.list (.int .i64)) x1_0, .dat (.list (.int .i64)) x1_1, .dat (.list (.int .i64)) x1_2])]⟩
def p49_0 : List Bool := [true, true, false, true, false]
theorem r49_0 (k : Nat) (rec : St → Option (Bool)) (v : (List Int) × (List Int) × (List Int) × (List Int) × Int × Int) : roundF (E49 k) (S49 k) Try.f49 p49_0 [] rec (n49_0 v.1 v.2.1 v.2.2.1 v.2.2.2.1 v.2.2.2.2.1 v.2.2.2.2.2) = impl_AreJobs.s0 k (fun a0 a1 a2 a3 a4 a5 => rec (n49_0 a0 a1 a2 a3 a4 a5)) v.1 v.2.1 v.2.2.1 v.2.2.2.1 v.2.2.2.2.1 v.2.2.2.2.2 := by
  kernel_rfl
theorem q49_0 (k : Nat) (n : Nat) : ∀ v : (List Int) × (List Int) × (List Int) × (List Int) × Int × Int, loopF (E49 k) (S49 k) Try.f49 p49_0 [] n (n49_0 v.1 v.2.1 v.2.2.1 v.2.2.2.1 v.2.2.2.2.1 v.2.2.2.2.2) = impl_AreJobs.l0 k n v.1 v.2.1 v.2.2.1 v.2.2.2.1 v.2.2.2.2.1 v.2.2.2.2.2 :=
  loopF_eq (E49 k) (S49 k) Try.f49 p49_0 [] (fun v : (List Int) × (List Int) × (List Int) × (List Int) × Int × Int => n49_0 v.1 v.2.1 v.2.2.1 v.2.2.2.1 v.2.2.2.2.1 v.2.2.2.2.2) (fun rec v => impl_AreJobs.s0 k (fun a0 a1 a2 a3 a4 a5 => rec (a0, a1, a2, a3, a4, a5)) v.1 v.2.1 v.2.2.1 v.2.2.2.1 v.2.2.2.2.1 v.2.2.2.2.2) (fun n v => impl_AreJobs.l0 k n v.1 v.2.1 v.2.2.1 v.2.2.2.1 v.2.2.2.2.1 v.2.2.2.2.2) (fun _ => rfl) (fun _ _ => rfl) (fun rec v => r49_0 k rec v) n
theorem e49 (k : Nat) (x : dens (flatC (S49 k).ps)) : funK (E49 k) (S49 k) Try.f49 x = (S49 k).fn x := by
  have h : funK (E49 k) (S49 k) Try.f49 x = impl_AreJobs.g k (fun a0 a1 a2 a3 a4 a5 => loopF (E49 k) (S49 k) Try.f49 p49_0 [] k (n49_0 a0 a1 a2 a3 a4 a5)) x.1 x.2.1 x.2.2 := by kernel_rfl
  rw [h]
  rw [show (fun a0 a1 a2 a3 a4 a5 => loopF (E49 k) (S49 k) Try.f49 p49_0 [] k (n49_0 a0 a1 a2 a3 a4 a5)) = impl_AreJobs.l0 k k from funext fun a0 => funext fun a1 => funext fun a2 => funext fun a3 => funext fun a4 => funext fun a5 => q49_0 k k (a0, a1, a2, a3, a4, a5)]
  rfl
theorem M49 (k : Nat) : Meets Try.prog 49 (S49 k) := meets_of Try.func49 (by kernel_rfl) tbOk (orc_cons (M96 k) (orc_cons (M104 k) orc_nil)) mixOk (fun x y h => (e49 k x).trans h) rfl

/-! impl_divisor: function 169 -/
noncomputable def impl_divisor.s0 (k : Nat) (r0 : Int → Int → Option (Int)) (x0 : Int) (x1 : Int) : Option (Int) := if x1 = 0 then (some x0) else (if x1 = 0 then (none) else (r0 x1 (Int.tmod x0 x1)))
noncomputable def impl_divisor.l0 (k : Nat) : Nat → Int → Int → Option (Int)
  | 0, _, _ => none
  | n + 1, x0, x1 => impl_divisor.s0 k (impl_divisor.l0 k n) x0 x1
noncomputable def impl_divisor.g (k : Nat) (r0 : Int → Int → Option (Int)) (a0 : Int) (a1 : Int) : Option (Int) := r0 a0 a1
noncomputable def impl_divisor.f (k : Nat) (a0 : Int) (a1 : Int) : Option (Int) := impl_divisor.g k (impl_divisor.l0 k k) a0 a1
noncomputable def S169 (k : Nat) : Does := ⟨[(false, [.dat (.int .i64)]), (false, [.dat (.int .i64)])], [(false, [.dat (.int .i64)])], fun x => impl_divisor.f k x.1 x.2⟩
noncomputable def E169 (k : Nat) : En := ⟨tb, orcOf [], lvOf [(0, [(0, []), (1, [])])], k, 0, lvOf [], []⟩
noncomputable def n169_0 (x0 : Int) (x1 : Int) : St := ⟨12, lookA [(0, .dat (.int .i64) x0), (1, .dat (.int .i64) x1)], Go.V.look []⟩
def p169_0 : List Bool := [true, false, false]
theorem r169_0 (k : Nat) (rec : St → Option (Int)) (v : Int × Int) : roundF (E169 k) (S169 k) Try.f169 p169_0 [] rec (n169_0 v.1 v.2) = impl_divisor.s0 k (fun a0 a1 => rec (n169_0 a0 a1)) v.1 v.2 := by
  kernel_rfl
theorem q169_0 (k : Nat) (n : Nat) : ∀ v : Int × Int, loopF (E169 k) (S169 k) Try.f169 p169_0 [] n (n169_0 v.1 v.2) = impl_divisor.l0 k n v.1 v.2 :=
  loopF_eq (E169 k) (S169 k) Try.f169 p169_0 [] (fun v : Int × Int => n169_0 v.1 v.2) (fun rec v => impl_divisor.s0 k (fun a0 a1 => rec (a0, a1)) v.1 v.2) (fun n v => impl_divisor.l0 k n v.1 v.2) (fun _ => rfl) (fun _ _ => rfl) (fun rec v => r169_0 k rec v) n
theorem e169 (k : Nat) (x : dens (flatC (S169 k).ps)) : funK (E169 k) (S169 k) Try.f169 x = (S169 k).fn x := by
  have h : funK (E169 k) (S169 k) Try.f169 x = impl_divisor.g k (fun a0 a1 => loopF (E169 k) (S169 k) Try.f169 p169_0 [] k (n169_0 a0 a1)) x.1 x.2 := by kernel_rfl
  rw [h]
  rw [show (fun a0 a1 => loopF (E169 k) (S169 k) Try.f169 p169_0 [] k (n169_0 a0 a1)) = impl_divisor.l0 k k from funext fun a0 => funext fun a1 => q169_0 k k (a0, a1)]
  rfl
theorem M169 (k : Nat) : Meets Try.prog 169 (S169 k) := meets_of Try.func169 (by kernel_rfl) tbOk orc_nil mixOk (fun x y h => (e169 k x).trans h) rfl

/-! impl_Tasks_multiple: function 149 -/
noncomputable def impl_Tasks_multiple.s0 (k : Nat) (r0 : Int → (List Int) → Int → Int → Option (Int)) (x3 : Int) (x7 : List Int) (x8 : Int) (x9 : Int) : Option (Int) := if x9 < x8 then (if 0 ≤ x9 then (if x9 < (x7.length : Int) then ((impl_divisor.f k x3 (rd x7 x9)).bind fun t1 => if t1 = 0 then (none) else (r0 (wrap64 ((wrap64 (Int.tdiv x3 t1)) * (rd x7 x9))) x7 x8 (wrap64 (x9 + 1)))) else (none)) else (none)) else (some x3)
noncomputable def impl_Tasks_multiple.l0 (k : Nat) : Nat → Int → (List Int) → Int → Int → Option (Int)
  | 0, _, _, _, _ => none
  | n + 1, x0, x1, x2, x3 => impl_Tasks_multiple.s0 k (impl_Tasks_multiple.l0 k n) x0 x1 x2 x3
noncomputable def impl_Tasks_multiple.g (k : Nat) (r0 : Int → (List Int) → Int → Int → Option (Int)) (l0_0 : List Int) : Option (Int) := r0 1 l0_0 (l0_0.length : Int) 0
noncomputable def impl_Tasks_multiple.f (k : Nat) (l0_0 : List Int) : Option (Int) := impl_Tasks_multiple.g k (impl_Tasks_multiple.l0 k k) l0_0
noncomputable def S149 (k : Nat) : Does := ⟨[(true, [.dat (.list (.int .i64))])], [(false, [.dat (.int .i64)])], fun x => impl_Tasks_multiple.f k x⟩
noncomputable def E149 (k : Nat) : En := ⟨tb, orcOf [(169, S169 k)], lvOf [(0, [(3, []), (7, []), (8, []), (9, [])])], k, 0, lvOf [], []⟩
noncomputable def n149_0 (x3 : Int) (x7 : List Int) (x8 : Int) (x9 : Int) : St := ⟨22, lookA [(3, .dat (.int .i64) x3), (7, .dat (.list (.int .i64)) x7), (8, .dat (.int .i64) x8), (9, .dat (.int .i64) x9)], Go.V.look []⟩
def p149_0 : List Bool := [true, true, false, true, false]
theorem r149_0 (k : Nat) (rec : St → Option (Int)) (v : Int × (List Int) × Int × Int) : roundF (E149 k) (S149 k) Try.f149 p149_0 [] rec (n149_0 v.1 v.2.1 v.2.2.1 v.2.2.2) = impl_Tasks_multiple.s0 k (fun a0 a1 a2 a3 => rec (n149_0 a0 a1 a2 a3)) v.1 v.2.1 v.2.2.1 v.2.2.2 := by
  kernel_rfl
theorem q149_0 (k : Nat) (n : Nat) : ∀ v : Int × (List Int) × Int × Int, loopF (E149 k) (S149 k) Try.f149 p149_0 [] n (n149_0 v.1 v.2.1 v.2.2.1 v.2.2.2) = impl_Tasks_multiple.l0 k n v.1 v.2.1 v.2.2.1 v.2.2.2 :=
  loopF_eq (E149 k) (S149 k) Try.f149 p149_0 [] (fun v : Int × (List Int) × Int × Int => n149_0 v.1 v.2.1 v.2.2.1 v.2.2.2) (fun rec v => impl_Tasks_multiple.s0 k (fun a0 a1 a2 a3 => rec (a0, a1, a2, a3)) v.1 v.2.1 v.2.2.1 v.2.2.2) (fun n v => impl_Tasks_multiple.l0 k n v.1 v.2.1 v.2.2.1 v.2.2.2) (fun _ => rfl) (fun _ _ => rfl) (fun rec v => r149_0 k rec v) n
theorem e149 (k : Nat) (x : dens (flatC (S149 k).ps)) : funK (E149 k) (S149 k) Try.f149 x = (S149 k).fn x := by
  have h : funK (E149 k) (S149 k) Try.f149 x = impl_Tasks_multiple.g k (fun a0 a1 a2 a3 => loopF (E149 k) (S149 k) Try.f149 p149_0 [] k (n149_0 a0 a1 a2 a3)) x := by kernel_rfl
  rw [h]
  rw [show (fun a0 a1 a2 a3 => loopF (E149 k) (S149 k) Try.f149 p149_0 [] k (n149_0 a0 a1 a2 a3)) = impl_Tasks_multiple.l0 k k from funext fun a0 => funext fun a1 => funext fun a2 => funext fun a3 => q149_0 k k (a0, a1, a2, a3)]
  rfl
theorem M149 (k : Nat) : Meets Try.prog 149 (S149 k) := meets_of Try.func149 (by kernel_rfl) tbOk (orc_cons (M169 k) orc_nil) mixOk (fun x y h => (e149 k x).trans h) rfl

/-! impl_Jobs_whole: function 114 -/
noncomputable def impl_Jobs_whole.f (k : Nat) (l0_0 : List Int) (l0_1 : List Int) (l0_2 : List Int) : Option (Int) := (impl_Tasks_multiple.f k l0_1).bind fun t1 => some t1
noncomputable def S114 (k : Nat) : Does := ⟨[(true, [.dat (.list (.int .i64)), .dat (.list (.int .i64)), .dat (.list (.int .i64))])], [(false, [.dat (.int .i64)])], fun x => impl_Jobs_whole.f k x.1 x.2.1 x.2.2⟩
noncomputable def E114 (k : Nat) : En := ⟨tb, orcOf [(149, S149 k)], lvOf [], k, 0, lvOf [], []⟩
theorem e114 (k : Nat) (x : dens (flatC (S114 k).ps)) : funK (E114 k) (S114 k) Try.f114 x = (S114 k).fn x := by
  kernel_rfl
theorem M114 (k : Nat) : Meets Try.prog 114 (S114 k) := meets_of Try.func114 (by kernel_rfl) tbOk (orc_cons (M149 k) orc_nil) mixOk (fun x y h => (e114 k x).trans h) rfl

/-! impl_jobsCode: function 94 -/
noncomputable def impl_jobsCode.f (k : Nat) (l0_0 : List Int) (l0_1 : List Int) (l0_2 : List Int) (a1 : Bool) (a2 : Bool) : Option (Int) := (impl_AreJobs.f k l0_0 l0_1 l0_2).bind fun t1 => if (!decide (t1 = true)) = true then (some 1) else (if (!decide (a1 = true)) = true then (some 2) else (if a2 = true then ((impl_Jobs_whole.f k l0_0 l0_1 l0_2).bind fun t2 => if (decide (240 < t2)) = true then (some 3) else (some 0)) else (some 0)))
noncomputable def S94 (k : Nat) : Does := ⟨[(true, [.dat (.list (.int .i64)), .dat (.list (.int .i64)), .dat (.list (.int .i64))]), (false, [.dat .bool]), (false, [.dat .bool])], [(false, [.dat (.int .i64)])], fun x => impl_jobsCode.f k x.1 x.2.1 x.2.2.1 x.2.2.2.1 x.2.2.2.2⟩
noncomputable def E94 (k : Nat) : En := ⟨tb, orcOf [(49, S49 k), (114, S114 k)], lvOf [], k, 0, lvOf [], []⟩
theorem e94 (k : Nat) (x : dens (flatC (S94 k).ps)) : funK (E94 k) (S94 k) Try.f94 x = (S94 k).fn x := by
  kernel_rfl
theorem M94 (k : Nat) : Meets Try.prog 94 (S94 k) := meets_of Try.func94 (by kernel_rfl) tbOk (orc_cons (M49 k) (orc_cons (M114 k) orc_nil)) mixOk (fun x y h => (e94 k x).trans h) rfl

/-! impl_Tasks_many: function 162 -/
noncomputable def impl_Tasks_many.f (l0_0 : List Int) : Option (Int) := (impl_length_int64.f l0_0).bind fun t1 => some t1
noncomputable def S162 (k : Nat) : Does := ⟨[(true, [.dat (.list (.int .i64))])], [(false, [.dat (.int .i64)])], fun x => impl_Tasks_many.f x⟩
noncomputable def E162 (k : Nat) : En := ⟨tb, orcOf [(101, S101 k)], lvOf [], k, 0, lvOf [], []⟩
theorem e162 (k : Nat) (x : dens (flatC (S162 k).ps)) : funK (E162 k) (S162 k) Try.f162 x = (S162 k).fn x := by
  kernel_rfl
theorem M162 (k : Nat) : Meets Try.prog 162 (S162 k) := meets_of Try.func162 (by kernel_rfl) tbOk (orc_cons (M101 k) orc_nil) mixOk (fun x y h => (e162 k x).trans h) rfl

/-! impl_Tasks_byGap_1: function 164 -/
noncomputable def impl_Tasks_byGap_1.f (a0 : Int) (a1 : Int) (a2 : List Int) : Option (Int) := if 0 ≤ a0 then (if a0 < (a2.length : Int) then (if 0 ≤ a1 then (if a1 < (a2.length : Int) then (some (wrap64 ((rd a2 a0) - (rd a2 a1)))) else (none)) else (none)) else (none)) else (none)
noncomputable def S164 (k : Nat) : Does := ⟨[(false, [.dat (.int .i64)]), (false, [.dat (.int .i64)]), (false, [.dat (.ptr (.struct (.list (.int .i64))))])], [(false, [.dat (.int .i64)])], fun x => impl_Tasks_byGap_1.f x.1 x.2.1 x.2.2⟩
noncomputable def E164 (k : Nat) : En := ⟨tb, orcOf [], lvOf [], k, 0, lvOf [], []⟩
theorem e164 (k : Nat) (x : dens (flatC (S164 k).ps)) : funK (E164 k) (S164 k) Try.f164 x = (S164 k).fn x := by
  kernel_rfl
theorem M164 (k : Nat) : Meets Try.prog 164 (S164 k) := meets_of Try.func164 (by kernel_rfl) tbOk orc_nil mixOk (fun x y h => (e164 k x).trans h) rfl

/-! slices_insertionSortCmpFunc_int64_impl_Tasks_byGap_1: function 192 -/
noncomputable def slices_insertionSortCmpFunc_int64_impl_Tasks_byGap_1.s1 (k : Nat) (r0 : (List Int) → Int → Int → (List Int) → Int → Option ((List Int))) (r1 : (List Int) → Int → Int → (List Int) → Int → Int → Option ((List Int))) (x0 : List Int) (x1 : Int) (x2 : Int) (x3 : List Int) (x8 : Int) (x9 : Int) : Option ((List Int)) := if x1 < x9 then (if 0 ≤ x9 then (if x9 < (x0.length : Int) then (if 0 ≤ (wrap64 (x9 - 1)) then (if (wrap64 (x9 - 1)) < (x0.length : Int) then ((impl_Tasks_byGap_1.f (rd x0 x9) (rd x0 (wrap64 (x9 - 1))) x3).bind fun t1 => if t1 < 0 then (if 0 ≤ (wrap64 (x9 - 1)) then (if (wrap64 (x9 - 1)) < (x0.length : Int) then (if 0 ≤ x9 then (if x9 < (x0.length : Int) then (if 0 ≤ x9 then (if x9 < (x0.length : Int) then (if 0 ≤ (wrap64 (x9 - 1)) then (if (wrap64 (x9 - 1)) < ((x0.set x9.toNat (rd x0 (wrap64 (x9 - 1)))).length : Int) then (r1 ((x0.set x9.toNat (rd x0 (wrap64 (x9 - 1)))).set (wrap64 (x9 - 1)).toNat (rd x0 x9)) x1 x2 x3 x8 (wrap64 (x9 - 1))) else (none)) else (none)) else (none)) else (none)) else (none)) else (none)) else (none)) else (none)) else (r0 x0 x1 x2 x3 (wrap64 (x8 + 1)))) else (none)) else (none)) else (none)) else (none)) else (r0 x0 x1 x2 x3 (wrap64 (x8 + 1)))
noncomputable def slices_insertionSortCmpFunc_int64_impl_Tasks_byGap_1.l1 (k : Nat) (r0 : (List Int) → Int → Int → (List Int) → Int → Option ((List Int))) : Nat → (List Int) → Int → Int → (List Int) → Int → Int → Option ((List Int))
  | 0, _, _, _, _, _, _ => none
  | n + 1, x0, x1, x2, x3, x4, x5 => slices_insertionSortCmpFunc_int64_impl_Tasks_byGap_1.s1 k r0 (slices_insertionSortCmpFunc_int64_impl_Tasks_byGap_1.l1 k r0 n) x0 x1 x2 x3 x4 x5
noncomputable def slices_insertionSortCmpFunc_int64_impl_Tasks_byGap_1.s0 (k : Nat) (r0 : (List Int) → Int → Int → (List Int) → Int → Option ((List Int))) (r1 : (List Int) → Int → Int → (List Int) → Int → Int → Option ((List Int))) (x0 : List Int) (x1 : Int) (x2 : Int) (x3 : List Int) (x8 : Int) : Option ((List Int)) := if x8 < x2 then (r1 x0 x1 x2 x3 x8 x8) else (some x0)
noncomputable def slices_insertionSortCmpFunc_int64_impl_Tasks_byGap_1.l0 (k : Nat) : Nat → (List Int) → Int → Int → (List Int) → Int → Option ((List Int))
  | 0, _, _, _, _, _ => none
  | n + 1, x0, x1, x2, x3, x4 => slices_insertionSortCmpFunc_int64_impl_Tasks_byGap_1.s0 k (slices_insertionSortCmpFunc_int64_impl_Tasks_byGap_1.l0 k n) (slices_insertionSortCmpFunc_int64_impl_Tasks_byGap_1.l1 k (slices_insertionSortCmpFunc_int64_impl_Tasks_byGap_1.l0 k n) k) x0 x1 x2 x3 x4
noncomputable def slices_insertionSortCmpFunc_int64_impl_Tasks_byGap_1.g (k : Nat) (r0 : (List Int) → Int → Int → (List Int) → Int → Option ((List Int))) (l0 : List Int) (a1 : Int) (a2 : Int) (a3 : List Int) : Option ((List Int)) := r0 l0 a1 a2 a3 (wrap64 (a1 + 1))
noncomputable def slices_insertionSortCmpFunc_int64_impl_Tasks_byGap_1.f (k : Nat) (l0 : List Int) (a1 : Int) (a2 : Int) (a3 : List Int) : Option ((List Int)) := slices_insertionSortCmpFunc_int64_impl_Tasks_byGap_1.g k (slices_insertionSortCmpFunc_int64_impl_Tasks_byGap_1.l0 k k) l0 a1 a2 a3
noncomputable def S192_c164 (k : Nat) : Does := ⟨[(false, [.own 2 (.int .i64)]), (false, [.dat (.int .i64)]), (false, [.dat (.int .i64)]), (false, [.dat (.clo 164 (.ptr (.struct (.list (.int .i64)))))])], [], fun x => slices_insertionSortCmpFunc_int64_impl_Tasks_byGap_1.f k x.1 x.2.1 x.2.2.1 x.2.2.2⟩
noncomputable def E192_c164 (k : Nat) : En := ⟨tb, orcOf [(164, S164 k)], lvOf [(0, [(0, []), (1, []), (2, []), (3, []), (8, [])]), (2, [(0, []), (1, []), (2, []), (3, []), (8, []), (9, [])])], k, 1, lvOf [], []⟩
noncomputable def n192_c164_0 (x0 : List Int) (x1 : Int) (x2 : Int) (x3 : List Int) (x8 : Int) : St := ⟨53, lookA [(0, .own 0), (1, .dat (.int .i64) x1), (2, .dat (.int .i64) x2), (3, .dat (.clo 164 (.ptr (.struct (.list (.int .i64))))) x3), (8, .dat (.int .i64) x8)], Go.V.look [(0, .flat 2 (.int .i64) x0)]⟩
def p192_c164_0 : List Bool := [true, false]
noncomputable def n192_c164_1 (x0 : List Int) (x1 : Int) (x2 : Int) (x3 : List Int) (x8 : Int) (x9 : Int) : St := ⟨53, lookA [(0, .own 0), (1, .dat (.int .i64) x1), (2, .dat (.int .i64) x2), (3, .dat (.clo 164 (.ptr (.struct (.list (.int .i64))))) x3), (8, .dat (.int .i64) x8), (9, .dat (.int .i64) x9)], Go.V.look [(0, .flat 2 (.int .i64) x0)]⟩
def p192_c164_1 : List Bool := [true, false, false, true, false, false, true, false]
theorem r192_c164_1 (k : Nat) (R0 : St → Option ((List Int))) (rec : St → Option ((List Int))) (v : (List Int) × Int × Int × (List Int) × Int × Int) : roundF (E192_c164 k) (S192_c164 k) Try.f192 p192_c164_1 [R0] rec (n192_c164_1 v.1 v.2.1 v.2.2.1 v.2.2.2.1 v.2.2.2.2.1 v.2.2.2.2.2) = slices_insertionSortCmpFunc_int64_impl_Tasks_byGap_1.s1 k (fun a0 a1 a2 a3 a4 => R0 (n192_c164_0 a0 a1 a2 a3 a4)) (fun a0 a1 a2 a3 a4 a5 => rec (n192_c164_1 a0 a1 a2 a3 a4 a5)) v.1 v.2.1 v.2.2.1 v.2.2.2.1 v.2.2.2.2.1 v.2.2.2.2.2 := by
  kernel_rfl
theorem q192_c164_1 (k : Nat) (R0 : St → Option ((List Int))) (n : Nat) : ∀ v : (List Int) × Int × Int × (List Int) × Int × Int, loopF (E192_c164 k) (S192_c164 k) Try.f192 p192_c164_1 [R0] n (n192_c164_1 v.1 v.2.1 v.2.2.1 v.2.2.2.1 v.2.2.2.2.1 v.2.2.2.2.2) = slices_insertionSortCmpFunc_int64_impl_Tasks_byGap_1.l1 k (fun a0 a1 a2 a3 a4 => R0 (n192_c164_0 a0 a1 a2 a3 a4)) n v.1 v.2.1 v.2.2.1 v.2.2.2.1 v.2.2.2.2.1 v.2.2.2.2.2 :=
  loopF_eq (E192_c164 k) (S192_c164 k) Try.f192 p192_c164_1 [R0] (fun v : (List Int) × Int × Int × (List Int) × Int × Int => n192_c164_1 v.1 v.2.1 v.2.2.1 v.2.2.2.1 v.2.2.2.2.1 v.2.2.2.2.2) (fun rec v => slices_insertionSortCmpFunc_int64_impl_Tasks_byGap_1.s1 k (fun a0 a1 a2 a3 a4 => R0 (n192_c164_0 a0 a1 a2 a3 a4)) (fun a0 a1 a2 a3 a4 a5 => rec (a0, a1, a2, a3, a4, a5)) v.1 v.2.1 v.2.2.1 v.2.2.2.1 v.2.2.2.2.1 v.2.2.2.2.2) (fun n v => slices_insertionSortCmpFunc_int64_impl_Tasks_byGap_1.l1 k (fun a0 a1 a2 a3 a4 => R0 (n192_c164_0 a0 a1 a2 a3 a4)) n v.1 v.2.1 v.2.2.1 v.2.2.2.1 v.2.2.2.2.1 v.2.2.2.2.2) (fun _ => rfl) (fun _ _ => rfl) (fun rec v => r192_c164_1 k R0 rec v) n
theorem r192_c164_0 (k : Nat) (rec : St → Option ((List Int))) (G1 : (List Int) → Int → Int → (List Int) → Int → Int → Option ((List Int))) (h1 : ∀ a0 a1 a2 a3 a4 a5, loopF (E192_c164 k) (S192_c164 k) Try.f192 p192_c164_1 [rec] k (n192_c164_1 a0 a1 a2 a3 a4 a5) = G1 a0 a1 a2 a3 a4 a5) (v : (List Int) × Int × Int × (List Int) × Int) : roundF (E192_c164 k) (S192_c164 k) Try.f192 p192_c164_0 [] rec (n192_c164_0 v.1 v.2.1 v.2.2.1 v.2.2.2.1 v.2.2.2.2) = slices_insertionSortCmpFunc_int64_impl_Tasks_byGap_1.s0 k (fun a0 a1 a2 a3 a4 => rec (n192_c164_0 a0 a1 a2 a3 a4)) G1 v.1 v.2.1 v.2.2.1 v.2.2.2.1 v.2.2.2.2 := by
  obtain rfl : (fun a0 a1 a2 a3 a4 a5 => loopF (E192_c164 k) (S192_c164 k) Try.f192 p192_c164_1 [rec] k (n192_c164_1 a0 a1 a2 a3 a4 a5)) = G1 := funext fun a0 => funext fun a1 => funext fun a2 => funext fun a3 => funext fun a4 => funext fun a5 => h1 a0 a1 a2 a3 a4 a5
  kernel_rfl
theorem q192_c164_0 (k : Nat) (n : Nat) : ∀ v : (List Int) × Int × Int × (List Int) × Int, loopF (E192_c164 k) (S192_c164 k) Try.f192 p192_c164_0 [] n (n192_c164_0 v.1 v.2.1 v.2.2.1 v.2.2.2.1 v.2.2.2.2) = slices_insertionSortCmpFunc_int64_impl_Tasks_byGap_1.l0 k n v.1 v.2.1 v.2.2.1 v.2.2.2.1 v.2.2.2.2 :=
  loopF_eq (E192_c164 k) (S192_c164 k) Try.f192 p192_c164_0 [] (fun v : (List Int) × Int × Int × (List Int) × Int => n192_c164_0 v.1 v.2.1 v.2.2.1 v.2.2.2.1 v.2.2.2.2) (fun rec v => slices_insertionSortCmpFunc_int64_impl_Tasks_byGap_1.s0 k (fun a0 a1 a2 a3 a4 => rec (a0, a1, a2, a3, a4)) (slices_insertionSortCmpFunc_int64_impl_Tasks_byGap_1.l1 k (fun a0 a1 a2 a3 a4 => rec (a0, a1, a2, a3, a4)) k) v.1 v.2.1 v.2.2.1 v.2.2.2.1 v.2.2.2.2) (fun n v => slices_insertionSortCmpFunc_int64_impl_Tasks_byGap_1.l0 k n v.1 v.2.1 v.2.2.1 v.2.2.2.1 v.2.2.2.2) (fun _ => rfl) (fun _ _ => rfl) (fun rec v => r192_c164_0 k rec _ (fun a0 a1 a2 a3 a4 a5 => q192_c164_1 k rec k (a0, a1, a2, a3, a4, a5)) v) n
theorem e192_c164 (k : Nat) (x : dens (flatC (S192_c164 k).ps)) : funK (E192_c164 k) (S192_c164 k) Try.f192 x = (S192_c164 k).fn x := by
  have h : funK (E192_c164 k) (S192_c164 k) Try.f192 x = slices_insertionSortCmpFunc_int64_impl_Tasks_byGap_1.g k (fun a0 a1 a2 a3 a4 => loopF (E192_c164 k) (S192_c164 k) Try.f192 p192_c164_0 [] k (n192_c164_0 a0 a1 a2 a3 a4)) x.1 x.2.1 x.2.2.1 x.2.2.2 := by kernel_rfl
  rw [h]
  rw [show (fun a0 a1 a2 a3 a4 => loopF (E192_c164 k) (S192_c164 k) Try.f192 p192_c164_0 [] k (n192_c164_0 a0 a1 a2 a3 a4)) = slices_insertionSortCmpFunc_int64_impl_Tasks_byGap_1.l0 k k from funext fun a0 => funext fun a1 => funext fun a2 => funext fun a3 => funext fun a4 => q192_c164_0 k k (a0, a1, a2, a3, a4)]
  rfl
theorem M192_c164 (k : Nat) : Meets Try.prog 192 (S192_c164 k) := meets_of Try.func192 (by kernel_rfl) tbOk (orc_cons (M164 k) orc_nil) mixOk (fun x y h => (e192_c164 k x).trans h) rfl

/-! slices_stableCmpFunc_int64_impl_Tasks_byGap_1: function 186 -/
noncomputable def slices_stableCmpFunc_int64_impl_Tasks_byGap_1.s2 (k : Nat) (r1 : (List Int) → Int → (List Int) → Int → Option ((List Int))) (r2 : (List Int) → Int → (List Int) → Int → Int → Int → Option ((List Int))) (x0 : List Int) (x1 : Int) (x2 : List Int) (x6 : Int) (x7 : Int) (x8 : Int) : Option ((List Int)) := if x8 ≤ x1 then (none) else (if (wrap64 (x7 + x6)) < x1 then (none) else (r1 x0 x1 x2 (wrap64 (x6 * 2))))
noncomputable def slices_stableCmpFunc_int64_impl_Tasks_byGap_1.l2 (k : Nat) (r1 : (List Int) → Int → (List Int) → Int → Option ((List Int))) : Nat → (List Int) → Int → (List Int) → Int → Int → Int → Option ((List Int))
  | 0, _, _, _, _, _, _ => none
  | n + 1, x0, x1, x2, x3, x4, x5 => slices_stableCmpFunc_int64_impl_Tasks_byGap_1.s2 k r1 (slices_stableCmpFunc_int64_impl_Tasks_byGap_1.l2 k r1 n) x0 x1 x2 x3 x4 x5
noncomputable def slices_stableCmpFunc_int64_impl_Tasks_byGap_1.s1 (k : Nat) (r1 : (List Int) → Int → (List Int) → Int → Option ((List Int))) (r2 : (List Int) → Int → (List Int) → Int → Int → Int → Option ((List Int))) (x0 : List Int) (x1 : Int) (x2 : List Int) (x6 : Int) : Option ((List Int)) := if x6 < x1 then (r2 x0 x1 x2 x6 0 (wrap64 (2 * x6))) else (some x0)
noncomputable def slices_stableCmpFunc_int64_impl_Tasks_byGap_1.l1 (k : Nat) : Nat → (List Int) → Int → (List Int) → Int → Option ((List Int))
  | 0, _, _, _, _ => none
  | n + 1, x0, x1, x2, x3 => slices_stableCmpFunc_int64_impl_Tasks_byGap_1.s1 k (slices_stableCmpFunc_int64_impl_Tasks_byGap_1.l1 k n) (slices_stableCmpFunc_int64_impl_Tasks_byGap_1.l2 k (slices_stableCmpFunc_int64_impl_Tasks_byGap_1.l1 k n) k) x0 x1 x2 x3
noncomputable def slices_stableCmpFunc_int64_impl_Tasks_byGap_1.s0 (k : Nat) (r0 : (List Int) → Int → (List Int) → Int → Int → Int → Option ((List Int))) (r1 : (List Int) → Int → (List Int) → Int → Option ((List Int))) (x0 : List Int) (x1 : Int) (x2 : List Int) (x6 : Int) (x7 : Int) (x8 : Int) : Option ((List Int)) := if x8 ≤ x1 then ((slices_insertionSortCmpFunc_int64_impl_Tasks_byGap_1.f k x0 x7 x8 x2).bind fun t1 => r0 t1 x1 x2 x6 x8 (wrap64 (x8 + x6))) else ((slices_insertionSortCmpFunc_int64_impl_Tasks_byGap_1.f k x0 x7 x1 x2).bind fun t2 => r1 t2 x1 x2 x6)
noncomputable def slices_stableCmpFunc_int64_impl_Tasks_byGap_1.l0 (k : Nat) : Nat → (List Int) → Int → (List Int) → Int → Int → Int → Option ((List Int))
  | 0, _, _, _, _, _, _ => none
  | n + 1, x0, x1, x2, x3, x4, x5 => slices_stableCmpFunc_int64_impl_Tasks_byGap_1.s0 k (slices_stableCmpFunc_int64_impl_Tasks_byGap_1.l0 k n) (slices_stableCmpFunc_int64_impl_Tasks_byGap_1.l1 k k) x0 x1 x2 x3 x4 x5
noncomputable def slices_stableCmpFunc_int64_impl_Tasks_byGap_1.g (k : Nat) (r0 : (List Int) → Int → (List Int) → Int → Int → Int → Option ((List Int))) (l0 : List Int) (a1 : Int) (a2 : List Int) : Option ((List Int)) := r0 l0 a1 a2 20 0 20
noncomputable def slices_stableCmpFunc_int64_impl_Tasks_byGap_1.f (k : Nat) (l0 : List Int) (a1 : Int) (a2 : List Int) : Option ((List Int)) := slices_stableCmpFunc_int64_impl_Tasks_byGap_1.g k (slices_stableCmpFunc_int64_impl_Tasks_byGap_1.l0 k k) l0 a1 a2
noncomputable def S186_c164 (k : Nat) : Does := ⟨[(false, [.own 2 (.int .i64)]), (false, [.dat (.int .i64)]), (false, [.dat (.clo 164 (.ptr (.struct (.list (.int .i64)))))])], [], fun x => slices_stableCmpFunc_int64_impl_Tasks_byGap_1.f k x.1 x.2.1 x.2.2⟩
noncomputable def E186_c164 (k : Nat) : En := ⟨tb, orcOf [(192, S192_c164 k)], lvOf [(0, [(0, []), (1, []), (2, []), (6, []), (7, []), (8, [])]), (2, [(0, []), (1, []), (2, []), (6, [])]), (4, [(0, []), (1, []), (2, []), (6, []), (7, []), (8, [])])], k, 1, lvOf [], []⟩
noncomputable def n186_c164_0 (x0 : List Int) (x1 : Int) (x2 : List Int) (x6 : Int) (x7 : Int) (x8 : Int) : St := ⟨63, lookA [(0, .own 0), (1, .dat (.int .i64) x1), (2, .dat (.clo 164 (.ptr (.struct (.list (.int .i64))))) x2), (6, .dat (.int .i64) x6), (7, .dat (.int .i64) x7), (8, .dat (.int .i64) x8)], Go.V.look [(0, .flat 2 (.int .i64) x0)]⟩
def p186_c164_0 : List Bool := [true, true, false, false]
noncomputable def n186_c164_1 (x0 : List Int) (x1 : Int) (x2 : List Int) (x6 : Int) : St := ⟨63, lookA [(0, .own 0), (1, .dat (.int .i64) x1), (2, .dat (.clo 164 (.ptr (.struct (.list (.int .i64))))) x2), (6, .dat (.int .i64) x6)], Go.V.look [(0, .flat 2 (.int .i64) x0)]⟩
def p186_c164_1 : List Bool := [true, true, true, true, false]
noncomputable def n186_c164_2 (x0 : List Int) (x1 : Int) (x2 : List Int) (x6 : Int) (x7 : Int) (x8 : Int) : St := ⟨63, lookA [(0, .own 0), (1, .dat (.int .i64) x1), (2, .dat (.clo 164 (.ptr (.struct (.list (.int .i64))))) x2), (6, .dat (.int .i64) x6), (7, .dat (.int .i64) x7), (8, .dat (.int .i64) x8)], Go.V.look [(0, .flat 2 (.int .i64) x0)]⟩
def p186_c164_2 : List Bool := [true, true, true, true, false, false, true, false, true, false, false]
theorem r186_c164_2 (k : Nat) (R1 : St → Option ((List Int))) (rec : St → Option ((List Int))) (v : (List Int) × Int × (List Int) × Int × Int × Int) : roundF (E186_c164 k) (S186_c164 k) Try.f186 p186_c164_2 [R1] rec (n186_c164_2 v.1 v.2.1 v.2.2.1 v.2.2.2.1 v.2.2.2.2.1 v.2.2.2.2.2) = slices_stableCmpFunc_int64_impl_Tasks_byGap_1.s2 k (fun a0 a1 a2 a3 => R1 (n186_c164_1 a0 a1 a2 a3)) (fun a0 a1 a2 a3 a4 a5 => rec (n186_c164_2 a0 a1 a2 a3 a4 a5)) v.1 v.2.1 v.2.2.1 v.2.2.2.1 v.2.2.2.2.1 v.2.2.2.2.2 := by
  kernel_rfl
theorem q186_c164_2 (k : Nat) (R1 : St → Option ((List Int))) (n : Nat) : ∀ v : (List Int) × Int × (List Int) × Int × Int × Int, loopF (E186_c164 k) (S186_c164 k) Try.f186 p186_c164_2 [R1] n (n186_c164_2 v.1 v.2.1 v.2.2.1 v.2.2.2.1 v.2.2.2.2.1 v.2.2.2.2.2) = slices_stableCmpFunc_int64_impl_Tasks_byGap_1.l2 k (fun a0 a1 a2 a3 => R1 (n186_c164_1 a0 a1 a2 a3)) n v.1 v.2.1 v.2.2.1 v.2.2.2.1 v.2.2.2.2.1 v.2.2.2.2.2 :=
  loopF_eq (E186_c164 k) (S186_c164 k) Try.f186 p186_c164_2 [R1] (fun v : (List Int) × Int × (List Int) × Int × Int × Int => n186_c164_2 v.1 v.2.1 v.2.2.1 v.2.2.2.1 v.2.2.2.2.1 v.2.2.2.2.2) (fun rec v => slices_stableCmpFunc_int64_impl_Tasks_byGap_1.s2 k (fun a0 a1 a2 a3 => R1 (n186_c164_1 a0 a1 a2 a3)) (fun a0 a1 a2 a3 a4 a5 => rec (a0, a1, a2, a3, a4, a5)) v.1 v.2.1 v.2.2.1 v.2.2.2.1 v.2.2.2.2.1 v.2.2.2.2.2) (fun n v => slices_stableCmpFunc_int64_impl_Tasks_byGap_1.l2 k (fun a0 a1 a2 a3 => R1 (n186_c164_1 a0 a1 a2 a3)) n v.1 v.2.1 v.2.2.1 v.2.2.2.1 v.2.2.2.2.1 v.2.2.2.2.2) (fun _ => rfl) (fun _ _ => rfl) (fun rec v => r186_c164_2 k R1 rec v) n
theorem r186_c164_1 (k : Nat) (rec : St → Option ((List Int))) (G2 : (List Int) → Int → (List Int) → Int → Int → Int → Option ((List Int))) (h2 : ∀ a0 a1 a2 a3 a4 a5, loopF (E186_c164 k) (S186_c164 k) Try.f186 p186_c164_2 [rec] k (n186_c164_2 a0 a1 a2 a3 a4 a5) = G2 a0 a1 a2 a3 a4 a5) (v : (List Int) × Int × (List Int) × Int) : roundF (E186_c164 k) (S186_c164 k) Try.f186 p186_c164_1 [] rec (n186_c164_1 v.1 v.2.1 v.2.2.1 v.2.2.2) = slices_stableCmpFunc_int64_impl_Tasks_byGap_1.s1 k (fun a0 a1 a2 a3 => rec (n186_c164_1 a0 a1 a2 a3)) G2 v.1 v.2.1 v.2.2.1 v.2.2.2 := by
  obtain rfl : (fun a0 a1 a2 a3 a4 a5 => loopF (E186_c164 k) (S186_c164 k) Try.f186 p186_c164_2 [rec] k (n186_c164_2 a0 a1 a2 a3 a4 a5)) = G2 := funext fun a0 => funext fun a1 => funext fun a2 => funext fun a3 => funext fun a4 => funext fun a5 => h2 a0 a1 a2 a3 a4 a5
  kernel_rfl
theorem q186_c164_1 (k : Nat) (n : Nat) : ∀ v : (List Int) × Int × (List Int) × Int, loopF (E186_c164 k) (S186_c164 k) Try.f186 p186_c164_1 [] n (n186_c164_1 v.1 v.2.1 v.2.2.1 v.2.2.2) = slices_stableCmpFunc_int64_impl_Tasks_byGap_1.l1 k n v.1 v.2.1 v.2.2.1 v.2.2.2 :=
  loopF_eq (E186_c164 k) (S186_c164 k) Try.f186 p186_c164_1 [] (fun v : (List Int) × Int × (List Int) × Int => n186_c164_1 v.1 v.2.1 v.2.2.1 v.2.2.2) (fun rec v => slices_stableCmpFunc_int64_impl_Tasks_byGap_1.s1 k (fun a0 a1 a2 a3 => rec (a0, a1, a2, a3)) (slices_stableCmpFunc_int64_impl_Tasks_byGap_1.l2 k (fun a0 a1 a2 a3 => rec (a0, a1, a2, a3)) k) v.1 v.2.1 v.2.2.1 v.2.2.2) (fun n v => slices_stableCmpFunc_int64_impl_Tasks_byGap_1.l1 k n v.1 v.2.1 v.2.2.1 v.2.2.2) (fun _ => rfl) (fun _ _ => rfl) (fun rec v => r186_c164_1 k rec _ (fun a0 a1 a2 a3 a4 a5 => q186_c164_2 k rec k (a0, a1, a2, a3, a4, a5)) v) n
theorem r186_c164_0 (k : Nat) (rec : St → Option ((List Int))) (G1 : (List Int) → Int → (List Int) → Int → Option ((List Int))) (h1 : ∀ a0 a1 a2 a3, loopF (E186_c164 k) (S186_c164 k) Try.f186 p186_c164_1 [] k (n186_c164_1 a0 a1 a2 a3) = G1 a0 a1 a2 a3) (v : (List Int) × Int × (List Int) × Int × Int × Int) : roundF (E186_c164 k) (S186_c164 k) Try.f186 p186_c164_0 [] rec (n186_c164_0 v.1 v.2.1 v.2.2.1 v.2.2.2.1 v.2.2.2.2.1 v.2.2.2.2.2) = slices_stableCmpFunc_int64_impl_Tasks_byGap_1.s0 k (fun a0 a1 a2 a3 a4 a5 => rec (n186_c164_0 a0 a1 a2 a3 a4 a5)) G1 v.1 v.2.1 v.2.2.1 v.2.2.2.1 v.2.2.2.2.1 v.2.2.2.2.2 := by
  obtain rfl : (fun a0 a1 a2 a3 => loopF (E186_c164 k) (S186_c164 k) Try.f186 p186_c164_1 [] k (n186_c164_1 a0 a1 a2 a3)) = G1 := funext fun a0 => funext fun a1 => funext fun a2 => funext fun a3 => h1 a0 a1 a2 a3
  kernel_rfl
theorem q186_c164_0 (k : Nat) (n : Nat) : ∀ v : (List Int) × Int × (List Int) × Int × Int × Int, loopF (E186_c164 k) (S186_c164 k) Try.f186 p186_c164_0 [] n (n186_c164_0 v.1 v.2.1 v.2.2.1 v.2.2.2.1 v.2.2.2.2.1 v.2.2.2.2.2) = slices_stableCmpFunc_int64_impl_Tasks_byGap_1.l0 k n v.1 v.2.1 v.2.2.1 v.2.2.2.1 v.2.2.2.2.1 v.2.2.2.2.2 :=
  loopF_eq (E186_c164 k) (S186_c164 k) Try.f186 p186_c164_0 [] (fun v : (List Int) × Int × (List Int) × Int × Int × Int => n186_c164_0 v.1 v.2.1 v.2.2.1 v.2.2.2.1 v.2.2.2.2.1 v.2.2.2.2.2) (fun rec v => slices_stableCmpFunc_int64_impl_Tasks_byGap_1.s0 k (fun a0 a1 a2 a3 a4 a5 => rec (a0, a1, a2, a3, a4, a5)) (slices_stableCmpFunc_int64_impl_Tasks_byGap_1.l1 k k) v.1 v.2.1 v.2.2.1 v.2.2.2.1 v.2.2.2.2.1 v.2.2.2.2.2) (fun n v => slices_stableCmpFunc_int64_impl_Tasks_byGap_1.l0 k n v.1 v.2.1 v.2.2.1 v.2.2.2.1 v.2.2.2.2.1 v.2.2.2.2.2) (fun _ => rfl) (fun _ _ => rfl) (fun rec v => r186_c164_0 k rec _ (fun a0 a1 a2 a3 => q186_c164_1 k k (a0, a1, a2, a3)) v) n
theorem e186_c164 (k : Nat) (x : dens (flatC (S186_c164 k).ps)) : funK (E186_c164 k) (S186_c164 k) Try.f186 x = (S186_c164 k).fn x := by
  have h : funK (E186_c164 k) (S186_c164 k) Try.f186 x = slices_stableCmpFunc_int64_impl_Tasks_byGap_1.g k (fun a0 a1 a2 a3 a4 a5 => loopF (E186_c164 k) (S186_c164 k) Try.f186 p186_c164_0 [] k (n186_c164_0 a0 a1 a2 a3 a4 a5)) x.1 x.2.1 x.2.2 := by kernel_rfl
  rw [h]
  rw [show (fun a0 a1 a2 a3 a4 a5 => loopF (E186_c164 k) (S186_c164 k) Try.f186 p186_c164_0 [] k (n186_c164_0 a0 a1 a2 a3 a4 a5)) = slices_stableCmpFunc_int64_impl_Tasks_byGap_1.l0 k k from funext fun a0 => funext fun a1 => funext fun a2 => funext fun a3 => funext fun a4 => funext fun a5 => q186_c164_0 k k (a0, a1, a2, a3, a4, a5)]
  rfl
theorem M186_c164 (k : Nat) : Meets Try.prog 186 (S186_c164 k) := meets_of Try.func186 (by kernel_rfl) tbOk (orc_cons (M192_c164 k) orc_nil) mixOk (fun x y h => (e186_c164 k x).trans h) rfl

/-! slices_SortStableFunc_int64_int64_impl_Tasks_byGap_1: function 163 -/
noncomputable def slices_SortStableFunc_int64_int64_impl_Tasks_byGap_1.f (k : Nat) (l0 : List Int) (a1 : List Int) : Option ((List Int)) := (slices_stableCmpFunc_int64_impl_Tasks_byGap_1.f k l0 (l0.length : Int) a1).bind fun t1 => some t1
noncomputable def S163_c164 (k : Nat) : Does := ⟨[(false, [.own 2 (.int .i64)]), (false, [.dat (.clo 164 (.ptr (.struct (.list (.int .i64)))))])], [], fun x => slices_SortStableFunc_int64_int64_impl_Tasks_byGap_1.f k x.1 x.2⟩
noncomputable def E163_c164 (k : Nat) : En := ⟨tb, orcOf [(186, S186_c164 k)], lvOf [], k, 1, lvOf [], []⟩
theorem e163_c164 (k : Nat) (x : dens (flatC (S163_c164 k).ps)) : funK (E163_c164 k) (S163_c164 k) Try.f163 x = (S163_c164 k).fn x := by
  kernel_rfl
theorem M163_c164 (k : Nat) : Meets Try.prog 163 (S163_c164 k) := meets_of Try.func163 (by kernel_rfl) tbOk (orc_cons (M186_c164 k) orc_nil) mixOk (fun x y h => (e163_c164 k x).trans h) rfl

/-! impl_Tasks_byGap: function 115 -/
noncomputable def impl_Tasks_byGap.s0 (k : Nat) (r0 : (List Int) → (List Int) → Int → Int → Option ((List Int))) (x1_0 : List Int) (x3 : List Int) (x6 : Int) (x7 : Int) : Option ((List Int)) := if x7 < x6 then (if x3.length + 1 ≤ 1099511627776 then (r0 x1_0 (x3 ++ [x7]) x6 (wrap64 (x7 + 1))) else (none)) else ((slices_SortStableFunc_int64_int64_impl_Tasks_byGap_1.f k x3 x1_0).bind fun t2 => some t2)
noncomputable def impl_Tasks_byGap.l0 (k : Nat) : Nat → (List Int) → (List Int) → Int → Int → Option ((List Int))
  | 0, _, _, _, _ => none
  | n + 1, x0, x1, x2, x3 => impl_Tasks_byGap.s0 k (impl_Tasks_byGap.l0 k n) x0 x1 x2 x3
noncomputable def impl_Tasks_byGap.g (k : Nat) (r0 : (List Int) → (List Int) → Int → Int → Option ((List Int))) (l0_0 : List Int) : Option ((List Int)) := (impl_Tasks_many.f l0_0).bind fun t1 => r0 l0_0 [] t1 0
noncomputable def impl_Tasks_byGap.f (k : Nat) (l0_0 : List Int) : Option ((List Int)) := impl_Tasks_byGap.g k (impl_Tasks_byGap.l0 k k) l0_0
noncomputable def S115 (k : Nat) : Does := ⟨[(true, [.dat (.list (.int .i64))])], [(false, [.own 2 (.int .i64)])], fun x => impl_Tasks_byGap.f k x⟩
noncomputable def E115 (k : Nat) : En := ⟨tb, orcOf [(162, S162 k), (163, S163_c164 k)], lvOf [(0, [(1, []), (3, [.nil 2 (.int .i64)]), (6, []), (7, [])])], k, 0, lvOf [], []⟩
noncomputable def n115_0 (x1_0 : List Int) (x3 : List Int) (x6 : Int) (x7 : Int) : St := ⟨19, lookA [(1, .box 0 0), (3, .own 1), (6, .dat (.int .i64) x6), (7, .dat (.int .i64) x7)], Go.V.look [(0, .cells [.dat (.list (.int .i64)) x1_0]), (1, .flat 2 (.int .i64) x3)]⟩
def p115_0 : List Bool := [true, true, false, true, false]
theorem r115_0 (k : Nat) (rec : St → Option ((List Int))) (v : (List Int) × (List Int) × Int × Int) : roundF (E115 k) (S115 k) Try.f115 p115_0 [] rec (n115_0 v.1 v.2.1 v.2.2.1 v.2.2.2) = impl_Tasks_byGap.s0 k (fun a0 a1 a2 a3 => rec (n115_0 a0 a1 a2 a3)) v.1 v.2.1 v.2.2.1 v.2.2.2 := by
  kernel_rfl
theorem q115_0 (k : Nat) (n : Nat) : ∀ v : (List Int) × (List Int) × Int × Int, loopF (E115 k) (S115 k) Try.f115 p115_0 [] n (n115_0 v.1 v.2.1 v.2.2.1 v.2.2.2) = impl_Tasks_byGap.l0 k n v.1 v.2.1 v.2.2.1 v.2.2.2 :=
  loopF_eq (E115 k) (S115 k) Try.f115 p115_0 [] (fun v : (List Int) × (List Int) × Int × Int => n115_0 v.1 v.2.1 v.2.2.1 v.2.2.2) (fun rec v => impl_Tasks_byGap.s0 k (fun a0 a1 a2 a3 => rec (a0, a1, a2, a3)) v.1 v.2.1 v.2.2.1 v.2.2.2) (fun n v => impl_Tasks_byGap.l0 k n v.1 v.2.1 v.2.2.1 v.2.2.2) (fun _ => rfl) (fun _ _ => rfl) (fun rec v => r115_0 k rec v) n
theorem e115 (k : Nat) (x : dens (flatC (S115 k).ps)) : funK (E115 k) (S115 k) Try.f115 x = (S115 k).fn x := by
  have h : funK (E115 k) (S115 k) Try.f115 x = impl_Tasks_byGap.g k (fun a0 a1 a2 a3 => loopF (E115 k) (S115 k) Try.f115 p115_0 [] k (n115_0 a0 a1 a2 a3)) x := by kernel_rfl
  rw [h]
  rw [show (fun a0 a1 a2 a3 => loopF (E115 k) (S115 k) Try.f115 p115_0 [] k (n115_0 a0 a1 a2 a3)) = impl_Tasks_byGap.l0 k k from funext fun a0 => funext fun a1 => funext fun a2 => funext fun a3 => q115_0 k k (a0, a1, a2, a3)]
  rfl
theorem M115 (k : Nat) : Meets Try.prog 115 (S115 k) := meets_of Try.func115 (by kernel_rfl) tbOk (orc_cons (M162 k) (orc_cons (M163_c164 k) orc_nil)) mixOk (fun x y h => (e115 k x).trans h) rfl

/-! impl_OrderByDeadlines: function 30 -/
noncomputable def impl_OrderByDeadlines.f (k : Nat) (l0_0 : List Int) (l0_1 : List Int) (l0_2 : List Int) : Option ((List Int) × Int) := (impl_jobsCode.f k l0_0 l0_1 l0_2 true false).bind fun t1 => if t1 = 0 then ((impl_Tasks_byGap.f k l0_2).bind fun t2 => some (t2, 0)) else (some ([], t1))
noncomputable def S30 (k : Nat) : Does := ⟨[(true, [.dat (.list (.int .i64)), .dat (.list (.int .i64)), .dat (.list (.int .i64))])], [(false, [.own 2 (.int .i64)]), (false, [.dat (.int .i64)])], fun x => impl_OrderByDeadlines.f k x.1 x.2.1 x.2.2⟩
noncomputable def E30 (k : Nat) : En := ⟨tb, orcOf [(94, S94 k), (115, S115 k)], lvOf [], k, 0, lvOf [], []⟩
theorem e30 (k : Nat) (x : dens (flatC (S30 k).ps)) : funK (E30 k) (S30 k) Try.f30 x = (S30 k).fn x := by
  kernel_rfl
theorem M30 (k : Nat) : Meets Try.prog 30 (S30 k) := meets_of Try.func30 (by kernel_rfl) tbOk (orc_cons (M94 k) (orc_cons (M115 k) orc_nil)) mixOk (fun x y h => (e30 k x).trans h) rfl

/-! laws_eqInt64S: function 18 -/
noncomputable def laws_eqInt64S.s0 (k : Nat) (r0 : (List Int) → (List Int) → Int → Option (Bool)) (x0 : List Int) (x1 : List Int) (x5 : Int) : Option (Bool) := if x5 < (x0.length : Int) then (if 0 ≤ x5 then (if x5 < (x0.length : Int) then (if 0 ≤ x5 then (if x5 < (x1.length : Int) then (if (rd x0 x5) = (rd x1 x5) then (r0 x0 x1 (wrap64 (x5 + 1))) else (some false)) else (none)) else (none)) else (none)) else (none)) else (some true)
noncomputable def laws_eqInt64S.l0 (k : Nat) : Nat → (List Int) → (List Int) → Int → Option (Bool)
  | 0, _, _, _ => none
  | n + 1, x0, x1, x2 => laws_eqInt64S.s0 k (laws_eqInt64S.l0 k n) x0 x1 x2
noncomputable def laws_eqInt64S.g (k : Nat) (r0 : (List Int) → (List Int) → Int → Option (Bool)) (l0 : List Int) (l1 : List Int) : Option (Bool) := if (l0.length : Int) = (l1.length : Int) then (r0 l0 l1 0) else (some false)
noncomputable def laws_eqInt64S.f (k : Nat) (l0 : List Int) (l1 : List Int) : Option (Bool) := laws_eqInt64S.g k (laws_eqInt64S.l0 k k) l0 l1
noncomputable def S18 (k : Nat) : Does := ⟨[(false, [.dat (.list (.int .i64))]), (false, [.dat (.list (.int .i64))])], [(false, [.dat .bool])], fun x => laws_eqInt64S.f k x.1 x.2⟩
noncomputable def E18 (k : Nat) : En := ⟨tb, orcOf [], lvOf [(0, [(0, []), (1, []), (5, [])])], k, 0, lvOf [], []⟩
noncomputable def n18_0 (x0 : List Int) (x1 : List Int) (x5 : Int) : St := ⟨26, lookA [(0, .dat (.list (.int .i64)) x0), (1, .dat (.list (.int .i64)) x1), (5, .dat (.int .i64) x5)], Go.V.look []⟩
def p18_0 : List Bool := [true, true, false, true, false]
theorem r18_0 (k : Nat) (rec : St → Option (Bool)) (v : (List Int) × (List Int) × Int) : roundF (E18 k) (S18 k) Try.f18 p18_0 [] rec (n18_0 v.1 v.2.1 v.2.2) = laws_eqInt64S.s0 k (fun a0 a1 a2 => rec (n18_0 a0 a1 a2)) v.1 v.2.1 v.2.2 := by
  kernel_rfl
theorem q18_0 (k : Nat) (n : Nat) : ∀ v : (List Int) × (List Int) × Int, loopF (E18 k) (S18 k) Try.f18 p18_0 [] n (n18_0 v.1 v.2.1 v.2.2) = laws_eqInt64S.l0 k n v.1 v.2.1 v.2.2 :=
  loopF_eq (E18 k) (S18 k) Try.f18 p18_0 [] (fun v : (List Int) × (List Int) × Int => n18_0 v.1 v.2.1 v.2.2) (fun rec v => laws_eqInt64S.s0 k (fun a0 a1 a2 => rec (a0, a1, a2)) v.1 v.2.1 v.2.2) (fun n v => laws_eqInt64S.l0 k n v.1 v.2.1 v.2.2) (fun _ => rfl) (fun _ _ => rfl) (fun rec v => r18_0 k rec v) n
theorem e18 (k : Nat) (x : dens (flatC (S18 k).ps)) : funK (E18 k) (S18 k) Try.f18 x = (S18 k).fn x := by
  have h : funK (E18 k) (S18 k) Try.f18 x = laws_eqInt64S.g k (fun a0 a1 a2 => loopF (E18 k) (S18 k) Try.f18 p18_0 [] k (n18_0 a0 a1 a2)) x.1 x.2 := by kernel_rfl
  rw [h]
  rw [show (fun a0 a1 a2 => loopF (E18 k) (S18 k) Try.f18 p18_0 [] k (n18_0 a0 a1 a2)) = laws_eqInt64S.l0 k k from funext fun a0 => funext fun a1 => funext fun a2 => q18_0 k k (a0, a1, a2)]
  rfl
theorem M18 (k : Nat) : Meets Try.prog 18 (S18 k) := meets_of Try.func18 (by kernel_rfl) tbOk orc_nil mixOk (fun x y h => (e18 k x).trans h) rfl

/-! laws_eqJobs: function 19 -/
noncomputable def laws_eqJobs.f (k : Nat) (l0_0 : List Int) (l0_1 : List Int) (l0_2 : List Int) (l1_0 : List Int) (l1_1 : List Int) (l1_2 : List Int) : Option (Bool) := (laws_eqInt64S.f k l0_0 l1_0).bind fun t1 => if t1 = true then ((laws_eqInt64S.f k l0_1 l1_1).bind fun t2 => if t2 = true then ((laws_eqInt64S.f k l0_2 l1_2).bind fun t3 => if t3 = true then (some true) else (some false)) else (some false)) else (some false)
noncomputable def S19 (k : Nat) : Does := ⟨[(true, [.dat (.list (.int .i64)), .dat (.list (.int .i64)), .dat (.list (.int .i64))]), (true, [.dat (.list (.int .i64)), .dat (.list (.int .i64)), .dat (.list (.int .i64))])], [(false, [.dat .bool])], fun x => laws_eqJobs.f k x.1 x.2.1 x.2.2.1 x.2.2.2.1 x.2.2.2.2.1 x.2.2.2.2.2⟩
noncomputable def E19 (k : Nat) : En := ⟨tb, orcOf [(18, S18 k)], lvOf [], k, 0, lvOf [], []⟩
theorem e19 (k : Nat) (x : dens (flatC (S19 k).ps)) : funK (E19 k) (S19 k) Try.f19 x = (S19 k).fn x := by
  kernel_rfl
theorem M19 (k : Nat) : Meets Try.prog 19 (S19 k) := meets_of Try.func19 (by kernel_rfl) tbOk (orc_cons (M18 k) orc_nil) mixOk (fun x y h => (e19 k x).trans h) rfl

/-! laws_markInt64S: function 21 -/
noncomputable def laws_markInt64S.s0 (k : Nat) (r0 : (List Int) → Int → Int → Option (Int × (List Int))) (x0 : List Int) (x1 : Int) (x5 : Int) : Option (Int × (List Int)) := if x5 < (x0.length : Int) then (if 0 ≤ x5 then (if x5 < (x0.length : Int) then (r0 (x0.set x5.toNat x1) (wrap64 (x1 + 1)) (wrap64 (x5 + 1))) else (none)) else (none)) else (some (x1, x0))
noncomputable def laws_markInt64S.l0 (k : Nat) : Nat → (List Int) → Int → Int → Option (Int × (List Int))
  | 0, _, _, _ => none
  | n + 1, x0, x1, x2 => laws_markInt64S.s0 k (laws_markInt64S.l0 k n) x0 x1 x2
noncomputable def laws_markInt64S.g (k : Nat) (r0 : (List Int) → Int → Int → Option (Int × (List Int))) (l0 : List Int) (a1 : Int) : Option (Int × (List Int)) := r0 l0 a1 0
noncomputable def laws_markInt64S.f (k : Nat) (l0 : List Int) (a1 : Int) : Option (Int × (List Int)) := laws_markInt64S.g k (laws_markInt64S.l0 k k) l0 a1
noncomputable def S21 (k : Nat) : Does := ⟨[(false, [.own 2 (.int .i64)]), (false, [.dat (.int .i64)])], [(false, [.dat (.int .i64)])], fun x => laws_markInt64S.f k x.1 x.2⟩
noncomputable def E21 (k : Nat) : En := ⟨tb, orcOf [], lvOf [(0, [(0, []), (1, []), (5, [])])], k, 1, lvOf [], []⟩
noncomputable def n21_0 (x0 : List Int) (x1 : Int) (x5 : Int) : St := ⟨19, lookA [(0, .own 0), (1, .dat (.int .i64) x1), (5, .dat (.int .i64) x5)], Go.V.look [(0, .flat 2 (.int .i64) x0)]⟩
def p21_0 : List Bool := [true, false, true, false]
theorem r21_0 (k : Nat) (rec : St → Option (Int × (List Int))) (v : (List Int) × Int × Int) : roundF (E21 k) (S21 k) Try.f21 p21_0 [] rec (n21_0 v.1 v.2.1 v.2.2) = laws_markInt64S.s0 k (fun a0 a1 a2 => rec (n21_0 a0 a1 a2)) v.1 v.2.1 v.2.2 := by
  kernel_rfl
theorem q21_0 (k : Nat) (n : Nat) : ∀ v : (List Int) × Int × Int, loopF (E21 k) (S21 k) Try.f21 p21_0 [] n (n21_0 v.1 v.2.1 v.2.2) = laws_markInt64S.l0 k n v.1 v.2.1 v.2.2 :=
  loopF_eq (E21 k) (S21 k) Try.f21 p21_0 [] (fun v : (List Int) × Int × Int => n21_0 v.1 v.2.1 v.2.2) (fun rec v => laws_markInt64S.s0 k (fun a0 a1 a2 => rec (a0, a1, a2)) v.1 v.2.1 v.2.2) (fun n v => laws_markInt64S.l0 k n v.1 v.2.1 v.2.2) (fun _ => rfl) (fun _ _ => rfl) (fun rec v => r21_0 k rec v) n
theorem e21 (k : Nat) (x : dens (flatC (S21 k).ps)) : funK (E21 k) (S21 k) Try.f21 x = (S21 k).fn x := by
  have h : funK (E21 k) (S21 k) Try.f21 x = laws_markInt64S.g k (fun a0 a1 a2 => loopF (E21 k) (S21 k) Try.f21 p21_0 [] k (n21_0 a0 a1 a2)) x.1 x.2 := by kernel_rfl
  rw [h]
  rw [show (fun a0 a1 a2 => loopF (E21 k) (S21 k) Try.f21 p21_0 [] k (n21_0 a0 a1 a2)) = laws_markInt64S.l0 k k from funext fun a0 => funext fun a1 => funext fun a2 => q21_0 k k (a0, a1, a2)]
  rfl
theorem M21 (k : Nat) : Meets Try.prog 21 (S21 k) := meets_of Try.func21 (by kernel_rfl) tbOk orc_nil mixOk (fun x y h => (e21 k x).trans h) rfl

/-! laws_markJobs: function 20 -/
noncomputable def laws_markJobs.f (k : Nat) (l0_0 : List Int) (l0_1 : List Int) (l0_2 : List Int) (a1 : Int) : Option (Int × (List Int) × (List Int) × (List Int)) := (laws_markInt64S.f k l0_0 a1).bind fun t1 => (laws_markInt64S.f k l0_1 t1.1).bind fun t2 => (laws_markInt64S.f k l0_2 t2.1).bind fun t3 => some (t3.1, t1.2, t2.2, t3.2)
noncomputable def S20 (k : Nat) : Does := ⟨[(true, [.own 2 (.int .i64), .own 2 (.int .i64), .own 2 (.int .i64)]), (false, [.dat (.int .i64)])], [(false, [.dat (.int .i64)])], fun x => laws_markJobs.f k x.1 x.2.1 x.2.2.1 x.2.2.2⟩
noncomputable def E20 (k : Nat) : En := ⟨tb, orcOf [(21, S21 k)], lvOf [], k, 3, lvOf [], []⟩
theorem e20 (k : Nat) (x : dens (flatC (S20 k).ps)) : funK (E20 k) (S20 k) Try.f20 x = (S20 k).fn x := by
  kernel_rfl
theorem M20 (k : Nat) : Meets Try.prog 20 (S20 k) := meets_of Try.func20 (by kernel_rfl) tbOk (orc_cons (M21 k) orc_nil) mixOk (fun x y h => (e20 k x).trans h) rfl

/-! laws_heldInt64S: function 22 -/
noncomputable def laws_heldInt64S.s0 (k : Nat) (r0 : (List Int) → Int → Int → Option (Int)) (x0 : List Int) (x1 : Int) (x5 : Int) : Option (Int) := if x5 < (x0.length : Int) then (if 0 ≤ x5 then (if x5 < (x0.length : Int) then (if (rd x0 x5) = x1 then (r0 x0 (wrap64 (x1 + 1)) (wrap64 (x5 + 1))) else (some (-1))) else (none)) else (none)) else (some x1)
noncomputable def laws_heldInt64S.l0 (k : Nat) : Nat → (List Int) → Int → Int → Option (Int)
  | 0, _, _, _ => none
  | n + 1, x0, x1, x2 => laws_heldInt64S.s0 k (laws_heldInt64S.l0 k n) x0 x1 x2
noncomputable def laws_heldInt64S.g (k : Nat) (r0 : (List Int) → Int → Int → Option (Int)) (l0 : List Int) (a1 : Int) : Option (Int) := r0 l0 a1 0
noncomputable def laws_heldInt64S.f (k : Nat) (l0 : List Int) (a1 : Int) : Option (Int) := laws_heldInt64S.g k (laws_heldInt64S.l0 k k) l0 a1
noncomputable def S22 (k : Nat) : Does := ⟨[(false, [.dat (.list (.int .i64))]), (false, [.dat (.int .i64)])], [(false, [.dat (.int .i64)])], fun x => laws_heldInt64S.f k x.1 x.2⟩
noncomputable def E22 (k : Nat) : En := ⟨tb, orcOf [], lvOf [(0, [(0, []), (1, []), (5, [])])], k, 0, lvOf [], []⟩
noncomputable def n22_0 (x0 : List Int) (x1 : Int) (x5 : Int) : St := ⟨21, lookA [(0, .dat (.list (.int .i64)) x0), (1, .dat (.int .i64) x1), (5, .dat (.int .i64) x5)], Go.V.look []⟩
def p22_0 : List Bool := [true, false, true, false]
theorem r22_0 (k : Nat) (rec : St → Option (Int)) (v : (List Int) × Int × Int) : roundF (E22 k) (S22 k) Try.f22 p22_0 [] rec (n22_0 v.1 v.2.1 v.2.2) = laws_heldInt64S.s0 k (fun a0 a1 a2 => rec (n22_0 a0 a1 a2)) v.1 v.2.1 v.2.2 := by
  kernel_rfl
theorem q22_0 (k : Nat) (n : Nat) : ∀ v : (List Int) × Int × Int, loopF (E22 k) (S22 k) Try.f22 p22_0 [] n (n22_0 v.1 v.2.1 v.2.2) = laws_heldInt64S.l0 k n v.1 v.2.1 v.2.2 :=
  loopF_eq (E22 k) (S22 k) Try.f22 p22_0 [] (fun v : (List Int) × Int × Int => n22_0 v.1 v.2.1 v.2.2) (fun rec v => laws_heldInt64S.s0 k (fun a0 a1 a2 => rec (a0, a1, a2)) v.1 v.2.1 v.2.2) (fun n v => laws_heldInt64S.l0 k n v.1 v.2.1 v.2.2) (fun _ => rfl) (fun _ _ => rfl) (fun rec v => r22_0 k rec v) n
theorem e22 (k : Nat) (x : dens (flatC (S22 k).ps)) : funK (E22 k) (S22 k) Try.f22 x = (S22 k).fn x := by
  have h : funK (E22 k) (S22 k) Try.f22 x = laws_heldInt64S.g k (fun a0 a1 a2 => loopF (E22 k) (S22 k) Try.f22 p22_0 [] k (n22_0 a0 a1 a2)) x.1 x.2 := by kernel_rfl
  rw [h]
  rw [show (fun a0 a1 a2 => loopF (E22 k) (S22 k) Try.f22 p22_0 [] k (n22_0 a0 a1 a2)) = laws_heldInt64S.l0 k k from funext fun a0 => funext fun a1 => funext fun a2 => q22_0 k k (a0, a1, a2)]
  rfl
theorem M22 (k : Nat) : Meets Try.prog 22 (S22 k) := meets_of Try.func22 (by kernel_rfl) tbOk orc_nil mixOk (fun x y h => (e22 k x).trans h) rfl

/-! laws_FnExactOrderByDeadlines: function 7 -/
noncomputable def laws_FnExactOrderByDeadlines.f (k : Nat) (l0_0 : List Int) (l0_1 : List Int) (l0_2 : List Int) : Option (Bool) := (laws_szJobs.f l0_0 l0_1 l0_2 1048576).bind fun t1 => if t1 < 0 then (some true) else ((laws_toJobs.f k l0_0 l0_1 l0_2).bind fun t2 => (spec_OrderByDeadlines.f k t2.1 t2.2.1 t2.2.2).bind fun t3 => (laws_toJobs.f k l0_0 l0_1 l0_2).bind fun t4 => (impl_OrderByDeadlines.f k t4.1 t4.2.1 t4.2.2).bind fun t5 => (laws_eqInt64S.f k t5.1 t3.1).bind fun t6 => if t6 = true then (if t5.2 = t3.2 then ((laws_toJobs.f k l0_0 l0_1 l0_2).bind fun t7 => (laws_eqJobs.f k t4.1 t4.2.1 t4.2.2 t7.1 t7.2.1 t7.2.2).bind fun t8 => if t8 = true then ((laws_markJobs.f k t4.1 t4.2.1 t4.2.2 1).bind fun t9 => if t9.1 < 0 then (some false) else ((laws_eqInt64S.f k t5.1 t3.1).bind fun t10 => if t10 = true then (if t5.2 = t3.2 then ((laws_markInt64S.f k t5.1 1).bind fun t11 => (laws_heldInt64S.f k t11.2 1).bind fun t12 => if t12 < 0 then (some false) else (if t12 = t11.1 then ((laws_toJobs.f k l0_0 l0_1 l0_2).bind fun t13 => (impl_OrderByDeadlines.f k t13.1 t13.2.1 t13.2.2).bind fun t14 => (laws_eqInt64S.f k t14.1 t3.1).bind fun t15 => if t15 = true then (if t14.2 = t3.2 then ((laws_heldInt64S.f k t11.2 1).bind fun t16 => if t16 < 0 then (some false) else (if t16 = t11.1 then (some true) else (some false))) else (some false)) else (some false)) else (some false))) else (some false)) else (some false))) else (some false)) else (some false)) else (some false))
noncomputable def S7 (k : Nat) : Does := ⟨[(true, [.dat (.list (.int .i64)), .dat (.list (.int .i64)), .dat (.list (.int .i64))])], [(false, [.dat .bool])], fun x => laws_FnExactOrderByDeadlines.f k x.1 x.2.1 x.2.2⟩
noncomputable def E7 (k : Nat) : En := ⟨tb, orcOf [(13, S13 k), (15, S15 k), (29, S29 k), (30, S30 k), (18, S18 k), (19, S19 k), (20, S20 k), (21, S21 k), (22, S22 k)], lvOf [], k, 0, lvOf [], []⟩
theorem e7 (k : Nat) (x : dens (flatC (S7 k).ps)) : funK (E7 k) (S7 k) Try.f7 x = (S7 k).fn x := by
  kernel_rfl
theorem M7 (k : Nat) : Meets Try.prog 7 (S7 k) := meets_of Try.func7 (by kernel_rfl) tbOk (orc_cons (M13 k) (orc_cons (M15 k) (orc_cons (M29 k) (orc_cons (M30 k) (orc_cons (M18 k) (orc_cons (M19 k) (orc_cons (M20 k) (orc_cons (M21 k) (orc_cons (M22 k) orc_nil))))))))) mixOk (fun x y h => (e7 k x).trans h) rfl



end Go.Proofs.Ytmgdobiloapelaa.Vf
