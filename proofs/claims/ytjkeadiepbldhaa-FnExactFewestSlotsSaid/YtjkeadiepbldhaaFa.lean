/- What the functions of program, reference and laws give, as plain functions, and that they meet them (part 1). Conditions: none. Written by a program of my own (vp.py). -/
import Derived.Test.YtjkeadiepbldhaaVc
import Derived.Test.YtjkeadiepbldhaaProg
set_option linter.unusedVariables false
set_option maxRecDepth 100000
namespace Go.Proofs.Ytjkeadiepbldhaa.Vf
open Go Go.V Go.RowKit Go.Proofs
def tbl : List (Nat × TI) := [(1, ⟨.fn, 1, 8, [.nilFunc]⟩), (2, ⟨.int .i64, 1, 8, [.int .i64 0]⟩), (3, ⟨.int .i64, 1, 8, [.int .i64 0]⟩), (4, ⟨.bool, 1, 1, [.bool false]⟩), (5, ⟨.int .u8, 1, 1, [.int .u8 0]⟩), (6, ⟨.int .u8, 1, 1, [.int .u8 0]⟩), (7, ⟨.struct [(0, 2), (1, 3), (2, 4), (3, 6)], 4, 24, [.int .i64 0, .int .i64 0, .bool false, .int .u8 0]⟩), (8, ⟨.struct [(0, 2), (1, 3), (2, 4), (3, 6)], 4, 24, [.int .i64 0, .int .i64 0, .bool false, .int .u8 0]⟩), (9, ⟨.str, 1, 16, [.string ByteArray.empty]⟩), (10, ⟨.str, 1, 16, [.string ByteArray.empty]⟩), (11, ⟨.str, 1, 16, [.string ByteArray.empty]⟩), (12, ⟨.int .u64, 1, 8, [.int .u64 0]⟩), (13, ⟨.struct [(0, 9), (1, 12)], 2, 24, [.string ByteArray.empty, .int .u64 0]⟩), (14, ⟨.struct [(0, 9), (1, 12)], 2, 24, [.string ByteArray.empty, .int .u64 0]⟩), (15, ⟨.ptr 123, 1, 8, [.pointer none]⟩), (16, ⟨.ptr 126, 1, 8, [.pointer none]⟩), (17, ⟨.ptr 136, 1, 8, [.pointer none]⟩), (18, ⟨.struct [(0, 17)], 1, 8, [.pointer none]⟩), (19, ⟨.struct [(0, 17)], 1, 8, [.pointer none]⟩), (21, ⟨.int .i32, 1, 4, [.int .i32 0]⟩), (22, ⟨.slice 2, 1, 24, [.slice none 0 0]⟩), (23, ⟨.struct [(0, 22)], 1, 24, [.slice none 0 0]⟩), (24, ⟨.struct [(0, 22)], 1, 24, [.slice none 0 0]⟩), (25, ⟨.fn, 1, 8, [.nilFunc]⟩), (27, ⟨.fn, 1, 8, [.nilFunc]⟩), (28, ⟨.struct [(0, 22)], 1, 24, [.slice none 0 0]⟩), (29, ⟨.fn, 1, 8, [.nilFunc]⟩), (30, ⟨.fn, 1, 8, [.nilFunc]⟩), (31, ⟨.fn, 1, 8, [.nilFunc]⟩), (33, ⟨.fn, 1, 8, [.nilFunc]⟩), (34, ⟨.fn, 1, 8, [.nilFunc]⟩), (35, ⟨.fn, 1, 8, [.nilFunc]⟩), (36, ⟨.fn, 1, 8, [.nilFunc]⟩), (37, ⟨.fn, 1, 8, [.nilFunc]⟩), (38, ⟨.fn, 1, 8, [.nilFunc]⟩), (39, ⟨.fn, 1, 8, [.nilFunc]⟩), (41, ⟨.fn, 1, 8, [.nilFunc]⟩), (42, ⟨.fn, 1, 8, [.nilFunc]⟩), (43, ⟨.fn, 1, 8, [.nilFunc]⟩), (45, ⟨.fn, 1, 8, [.nilFunc]⟩), (46, ⟨.struct [(0, 22)], 1, 24, [.slice none 0 0]⟩), (47, ⟨.struct [(0, 22)], 1, 24, [.slice none 0 0]⟩), (48, ⟨.fn, 1, 8, [.nilFunc]⟩), (49, ⟨.fn, 1, 8, [.nilFunc]⟩), (50, ⟨.struct [(0, 22)], 1, 24, [.slice none 0 0]⟩), (51, ⟨.fn, 1, 8, [.nilFunc]⟩), (52, ⟨.fn, 1, 8, [.nilFunc]⟩), (53, ⟨.fn, 1, 8, [.nilFunc]⟩), (54, ⟨.fn, 1, 8, [.nilFunc]⟩), (55, ⟨.fn, 1, 8, [.nilFunc]⟩), (56, ⟨.struct [(0, 2), (1, 2)], 2, 16, [.int .i64 0, .int .i64 0]⟩), (57, ⟨.struct [(0, 2), (1, 2)], 2, 16, [.int .i64 0, .int .i64 0]⟩), (58, ⟨.fn, 1, 8, [.nilFunc]⟩), (59, ⟨.struct [(0, 2), (1, 2)], 2, 16, [.int .i64 0, .int .i64 0]⟩), (60, ⟨.fn, 1, 8, [.nilFunc]⟩), (61, ⟨.fn, 1, 8, [.nilFunc]⟩), (62, ⟨.fn, 1, 8, [.nilFunc]⟩), (63, ⟨.fn, 1, 8, [.nilFunc]⟩), (64, ⟨.fn, 1, 8, [.nilFunc]⟩), (65, ⟨.slice 4, 1, 24, [.slice none 0 0]⟩), (66, ⟨.fn, 1, 8, [.nilFunc]⟩), (67, ⟨.fn, 1, 8, [.nilFunc]⟩), (68, ⟨.slice 83, 1, 24, [.slice none 0 0]⟩), (69, ⟨.struct [(0, 28), (1, 68), (2, 65)], 3, 72, [.slice none 0 0, .slice none 0 0, .slice none 0 0]⟩), (70, ⟨.struct [(0, 28), (1, 68), (2, 65)], 3, 72, [.slice none 0 0, .slice none 0 0, .slice none 0 0]⟩), (71, ⟨.ptr 70, 1, 8, [.pointer none]⟩), (72, ⟨.fn, 1, 8, [.nilFunc]⟩), (73, ⟨.fn, 1, 8, [.nilFunc]⟩), (74, ⟨.fn, 1, 8, [.nilFunc]⟩), (75, ⟨.fn, 1, 8, [.nilFunc]⟩), (76, ⟨.fn, 1, 8, [.nilFunc]⟩), (77, ⟨.fn, 1, 8, [.nilFunc]⟩), (79, ⟨.fn, 1, 8, [.nilFunc]⟩), (80, ⟨.fn, 1, 8, [.nilFunc]⟩), (81, ⟨.fn, 1, 8, [.nilFunc]⟩), (83, ⟨.map 2 2, 1, 8, [.map none]⟩), (84, ⟨.fn, 1, 8, [.nilFunc]⟩), (86, ⟨.fn, 1, 8, [.nilFunc]⟩), (87, ⟨.map 2 3, 1, 8, [.map none]⟩), (88, ⟨.fn, 1, 8, [.nilFunc]⟩), (90, ⟨.fn, 1, 8, [.nilFunc]⟩), (91, ⟨.fn, 1, 8, [.nilFunc]⟩), (93, ⟨.fn, 1, 8, [.nilFunc]⟩), (94, ⟨.fn, 1, 8, [.nilFunc]⟩), (95, ⟨.fn, 1, 8, [.nilFunc]⟩), (96, ⟨.fn, 1, 8, [.nilFunc]⟩), (97, ⟨.fn, 1, 8, [.nilFunc]⟩), (98, ⟨.fn, 1, 8, [.nilFunc]⟩), (99, ⟨.fn, 1, 8, [.nilFunc]⟩), (100, ⟨.fn, 1, 8, [.nilFunc]⟩), (101, ⟨.fn, 1, 8, [.nilFunc]⟩), (102, ⟨.fn, 1, 8, [.nilFunc]⟩), (103, ⟨.ptr 108, 1, 8, [.pointer none]⟩), (105, ⟨.fn, 1, 8, [.nilFunc]⟩), (106, ⟨.slice 22, 1, 24, [.slice none 0 0]⟩), (107, ⟨.struct [(0, 59), (2, 28), (3, 106), (4, 65)], 5, 88, [.int .i64 0, .int .i64 0, .slice none 0 0, .slice none 0 0, .slice none 0 0]⟩), (108, ⟨.struct [(0, 59), (2, 28), (3, 106), (4, 65)], 5, 88, [.int .i64 0, .int .i64 0, .slice none 0 0, .slice none 0 0, .slice none 0 0]⟩), (109, ⟨.fn, 1, 8, [.nilFunc]⟩), (110, ⟨.fn, 1, 8, [.nilFunc]⟩), (111, ⟨.fn, 1, 8, [.nilFunc]⟩), (112, ⟨.fn, 1, 8, [.nilFunc]⟩), (113, ⟨.fn, 1, 8, [.nilFunc]⟩), (114, ⟨.fn, 1, 8, [.nilFunc]⟩), (115, ⟨.fn, 1, 8, [.nilFunc]⟩), (116, ⟨.fn, 1, 8, [.nilFunc]⟩), (117, ⟨.fn, 1, 8, [.nilFunc]⟩), (118, ⟨.fn, 1, 8, [.nilFunc]⟩), (119, ⟨.int .u64, 1, 8, [.int .u64 0]⟩), (120, ⟨.fn, 1, 8, [.nilFunc]⟩), (121, ⟨.fn, 1, 8, [.nilFunc]⟩), (122, ⟨.struct [(0, 17), (1, 17), (2, 17), (3, 9)], 4, 40, [.pointer none, .pointer none, .pointer none, .string ByteArray.empty]⟩), (123, ⟨.struct [(0, 17), (1, 17), (2, 17), (3, 9)], 4, 40, [.pointer none, .pointer none, .pointer none, .string ByteArray.empty]⟩), (125, ⟨.struct [(0, 124)], 0, 0, []⟩), (126, ⟨.struct [(0, 124)], 0, 0, []⟩), (127, ⟨.fn, 1, 8, [.nilFunc]⟩), (128, ⟨.int .u32, 1, 4, [.int .u32 0]⟩), (129, ⟨.int .u8, 1, 1, [.int .u8 0]⟩), (130, ⟨.int .u8, 1, 1, [.int .u8 0]⟩), (131, ⟨.fn, 1, 8, [.nilFunc]⟩), (132, ⟨.ptr 5, 1, 8, [.pointer none]⟩), (133, ⟨.int .i32, 1, 4, [.int .i32 0]⟩), (134, ⟨.int .i32, 1, 4, [.int .i32 0]⟩), (135, ⟨.struct [(0, 12), (1, 12), (2, 128), (3, 129), (4, 5), (5, 5), (6, 130), (7, 131), (8, 132), (9, 133), (10, 134)], 11, 48, [.int .u64 0, .int .u64 0, .int .u32 0, .int .u8 0, .int .u8 0, .int .u8 0, .int .u8 0, .nilFunc, .pointer none, .int .i32 0, .int .i32 0]⟩), (136, ⟨.struct [(0, 12), (1, 12), (2, 128), (3, 129), (4, 5), (5, 5), (6, 130), (7, 131), (8, 132), (9, 133), (10, 134)], 11, 48, [.int .u64 0, .int .u64 0, .int .u32 0, .int .u8 0, .int .u8 0, .int .u8 0, .int .u8 0, .nilFunc, .pointer none, .int .i32 0, .int .i32 0]⟩), (137, ⟨.fn, 1, 8, [.nilFunc]⟩)]
def tb : TypeId → Option TI := Go.V.look tbl
theorem tbEq : tbl.map (fun p => entryOf Try.prog p.1) = tbl.map (fun p => some p.2) := by kernel_rfl
theorem tbOk : TbOK Try.prog tb := tb_of tbEq
theorem mixOk : Try.prog.follows .mixedOrders = true := by kernel_rfl

/-! laws_szInt64S: function 51 -/
noncomputable def laws_szInt64S.f (l0 : List Int) (a1 : Int) : Option (Int) := if (wrap64 (a1 - (l0.length : Int))) < 0 then (some (-1)) else (some (wrap64 (a1 - (l0.length : Int))))
noncomputable def S51 (k : Nat) : Does := ⟨[(false, [.dat (.list (.int .i64))]), (false, [.dat (.int .i64)])], [(false, [.dat (.int .i64)])], fun x => laws_szInt64S.f x.1 x.2⟩
noncomputable def E51 (k : Nat) : En := ⟨tb, orcOf [], lvOf [], k, 0, lvOf [], []⟩
theorem e51 (k : Nat) (x : dens (flatC (S51 k).ps)) : funK (E51 k) (S51 k) Try.f51 x = (S51 k).fn x := by
  kernel_rfl
theorem M51 (k : Nat) : Meets Try.prog 51 (S51 k) := meets_of Try.func51 (by kernel_rfl) tbOk orc_nil mixOk (fun x y h => (e51 k x).trans h) rfl

/-! laws_szTasks: function 15 -/
noncomputable def laws_szTasks.f (l0_0 : List Int) (a1 : Int) : Option (Int) := (laws_szInt64S.f l0_0 a1).bind fun t1 => if t1 < 0 then (some (-1)) else (some t1)
noncomputable def S15 (k : Nat) : Does := ⟨[(true, [.dat (.list (.int .i64))]), (false, [.dat (.int .i64)])], [(false, [.dat (.int .i64)])], fun x => laws_szTasks.f x.1 x.2⟩
noncomputable def E15 (k : Nat) : En := ⟨tb, orcOf [(51, S51 k)], lvOf [], k, 0, lvOf [], []⟩
theorem e15 (k : Nat) (x : dens (flatC (S15 k).ps)) : funK (E15 k) (S15 k) Try.f15 x = (S15 k).fn x := by
  kernel_rfl
theorem M15 (k : Nat) : Meets Try.prog 15 (S15 k) := meets_of Try.func15 (by kernel_rfl) tbOk (orc_cons (M51 k) orc_nil) mixOk (fun x y h => (e15 k x).trans h) rfl

/-! laws_toInt64S: function 23 -/
noncomputable def laws_toInt64S.s0 (k : Nat) (r0 : (List Int) → (List Int) → Int → Option ((List Int))) (x0 : List Int) (x3 : List Int) (x4 : Int) : Option ((List Int)) := if x4 < (x0.length : Int) then (if 0 ≤ x4 then (if x4 < (x0.length : Int) then (if 0 ≤ x4 then (if x4 < (x3.length : Int) then (r0 x0 (x3.set x4.toNat (rd x0 x4)) (wrap64 (x4 + 1))) else (none)) else (none)) else (none)) else (none)) else (some x3)
noncomputable def laws_toInt64S.l0 (k : Nat) : Nat → (List Int) → (List Int) → Int → Option ((List Int))
  | 0, _, _, _ => none
  | n + 1, x0, x1, x2 => laws_toInt64S.s0 k (laws_toInt64S.l0 k n) x0 x1 x2
noncomputable def laws_toInt64S.g (k : Nat) (r0 : (List Int) → (List Int) → Int → Option ((List Int))) (l0 : List Int) : Option ((List Int)) := if 0 ≤ (l0.length : Int) then (if (l0.length : Int) ≤ (l0.length : Int) then (if (l0.length : Int).toNat ≤ 1099511627776 then (r0 l0 (List.replicate (l0.length : Int).toNat (0 : Int)) 0) else (none)) else (none)) else (none)
noncomputable def laws_toInt64S.f (k : Nat) (l0 : List Int) : Option ((List Int)) := laws_toInt64S.g k (laws_toInt64S.l0 k k) l0
noncomputable def S23 (k : Nat) : Does := ⟨[(false, [.dat (.list (.int .i64))])], [(false, [.own 2 (.int .i64)])], fun x => laws_toInt64S.f k x⟩
noncomputable def E23 (k : Nat) : En := ⟨tb, orcOf [], lvOf [(0, [(0, []), (3, []), (4, [])])], k, 0, lvOf [], []⟩
noncomputable def n23_0 (x0 : List Int) (x3 : List Int) (x4 : Int) : St := ⟨22, lookA [(0, .dat (.list (.int .i64)) x0), (3, .own 0), (4, .dat (.int .i64) x4)], Go.V.look [(0, .flat 2 (.int .i64) x3)]⟩
def p23_0 : List Bool := [true, true, false, true, false]
theorem r23_0 (k : Nat) (rec : St → Option ((List Int))) (v : (List Int) × (List Int) × Int) : roundF (E23 k) (S23 k) Try.f23 p23_0 [] rec (n23_0 v.1 v.2.1 v.2.2) = laws_toInt64S.s0 k (fun a0 a1 a2 => rec (n23_0 a0 a1 a2)) v.1 v.2.1 v.2.2 := by
  kernel_rfl
theorem q23_0 (k : Nat) (n : Nat) : ∀ v : (List Int) × (List Int) × Int, loopF (E23 k) (S23 k) Try.f23 p23_0 [] n (n23_0 v.1 v.2.1 v.2.2) = laws_toInt64S.l0 k n v.1 v.2.1 v.2.2 :=
  loopF_eq (E23 k) (S23 k) Try.f23 p23_0 [] (fun v : (List Int) × (List Int) × Int => n23_0 v.1 v.2.1 v.2.2) (fun rec v => laws_toInt64S.s0 k (fun a0 a1 a2 => rec (a0, a1, a2)) v.1 v.2.1 v.2.2) (fun n v => laws_toInt64S.l0 k n v.1 v.2.1 v.2.2) (fun _ => rfl) (fun _ _ => rfl) (fun rec v => r23_0 k rec v) n
theorem e23 (k : Nat) (x : dens (flatC (S23 k).ps)) : funK (E23 k) (S23 k) Try.f23 x = (S23 k).fn x := by
  have h : funK (E23 k) (S23 k) Try.f23 x = laws_toInt64S.g k (fun a0 a1 a2 => loopF (E23 k) (S23 k) Try.f23 p23_0 [] k (n23_0 a0 a1 a2)) x := by kernel_rfl
  rw [h]
  rw [show (fun a0 a1 a2 => loopF (E23 k) (S23 k) Try.f23 p23_0 [] k (n23_0 a0 a1 a2)) = laws_toInt64S.l0 k k from funext fun a0 => funext fun a1 => funext fun a2 => q23_0 k k (a0, a1, a2)]
  rfl
theorem M23 (k : Nat) : Meets Try.prog 23 (S23 k) := meets_of Try.func23 (by kernel_rfl) tbOk orc_nil mixOk (fun x y h => (e23 k x).trans h) rfl

/-! laws_toTasks: function 17 -/
noncomputable def laws_toTasks.f (k : Nat) (l0_0 : List Int) : Option ((List Int)) := (laws_toInt64S.f k l0_0).bind fun t1 => some t1
noncomputable def S17 (k : Nat) : Does := ⟨[(true, [.dat (.list (.int .i64))])], [(true, [.own 2 (.int .i64)])], fun x => laws_toTasks.f k x⟩
noncomputable def E17 (k : Nat) : En := ⟨tb, orcOf [(23, S23 k)], lvOf [], k, 0, lvOf [], []⟩
theorem e17 (k : Nat) (x : dens (flatC (S17 k).ps)) : funK (E17 k) (S17 k) Try.f17 x = (S17 k).fn x := by
  kernel_rfl
theorem M17 (k : Nat) : Meets Try.prog 17 (S17 k) := meets_of Try.func17 (by kernel_rfl) tbOk (orc_cons (M23 k) orc_nil) mixOk (fun x y h => (e17 k x).trans h) rfl

/-! spec_l01In: function 89 -/
noncomputable def spec_l01In.f (a0 : Int) (a1 : Int) (a2 : Int) : Option (Bool) := if a1 ≤ a0 then (some (decide (a0 ≤ a2))) else (some false)
noncomputable def S89 (k : Nat) : Does := ⟨[(false, [.dat (.int .i64)]), (false, [.dat (.int .i64)]), (false, [.dat (.int .i64)])], [(false, [.dat .bool])], fun x => spec_l01In.f x.1 x.2.1 x.2.2⟩
noncomputable def E89 (k : Nat) : En := ⟨tb, orcOf [], lvOf [], k, 0, lvOf [], []⟩
theorem e89 (k : Nat) (x : dens (flatC (S89 k).ps)) : funK (E89 k) (S89 k) Try.f89 x = (S89 k).fn x := by
  kernel_rfl
theorem M89 (k : Nat) : Meets Try.prog 89 (S89 k) := meets_of Try.func89 (by kernel_rfl) tbOk orc_nil mixOk (fun x y h => (e89 k x).trans h) rfl

/-! spec_l01K: function 90 -/
noncomputable def spec_l01K.f (l0_0 : List Int) : Option (Int) := some (l0_0.length : Int)
noncomputable def S90 (k : Nat) : Does := ⟨[(true, [.dat (.list (.int .i64))])], [(false, [.dat (.int .i64)])], fun x => spec_l01K.f x⟩
noncomputable def E90 (k : Nat) : En := ⟨tb, orcOf [], lvOf [], k, 0, lvOf [], []⟩
theorem e90 (k : Nat) (x : dens (flatC (S90 k).ps)) : funK (E90 k) (S90 k) Try.f90 x = (S90 k).fn x := by
  kernel_rfl
theorem M90 (k : Nat) : Meets Try.prog 90 (S90 k) := meets_of Try.func90 (by kernel_rfl) tbOk orc_nil mixOk (fun x y h => (e90 k x).trans h) rfl

/-! spec_l01Is: function 88 -/
noncomputable def spec_l01Is.s0 (k : Nat) (r0 : (List Int) → Int → Option (Bool)) (x1_0 : List Int) (x3 : Int) : Option (Bool) := if x3 < (x1_0.length : Int) then (if 0 ≤ x3 then (if x3 < (x1_0.length : Int) then ((spec_l01In.f (rd x1_0 x3) 1 40).bind fun t1 => if t1 = true then (r0 x1_0 (wrap64 (x3 + 1))) else (some false)) else (none)) else (none)) else ((spec_l01K.f x1_0).bind fun t2 => (spec_l01In.f t2 1 8).bind fun t3 => some t3)
noncomputable def spec_l01Is.l0 (k : Nat) : Nat → (List Int) → Int → Option (Bool)
  | 0, _, _ => none
  | n + 1, x0, x1 => spec_l01Is.s0 k (spec_l01Is.l0 k n) x0 x1
noncomputable def spec_l01Is.g (k : Nat) (r0 : (List Int) → Int → Option (Bool)) (l0_0 : List Int) : Option (Bool) := r0 l0_0 0
noncomputable def spec_l01Is.f (k : Nat) (l0_0 : List Int) : Option (Bool) := spec_l01Is.g k (spec_l01Is.l0 k k) l0_0
noncomputable def S88 (k : Nat) : Does := ⟨[(true, [.dat (.list (.int .i64))])], [(false, [.dat .bool])], fun x => spec_l01Is.f k x⟩
noncomputable def E88 (k : Nat) : En := ⟨tb, orcOf [(89, S89 k), (90, S90 k)], lvOf [(0, [(1, []), (3, [])])], k, 0, lvOf [], []⟩
noncomputable def n88_0 (x1_0 : List Int) (x3 : Int) : St := ⟨21, lookA [(1, .box 0 0), (3, .dat (.int .i64) x3)], Go.V.look [(0, .cells [.dat (.list (.int .i64)) x1_0])]⟩
def p88_0 : List Bool := [true, false, true, false]
theorem r88_0 (k : Nat) (rec : St → Option (Bool)) (v : (List Int) × Int) : roundF (E88 k) (S88 k) Try.f88 p88_0 [] rec (n88_0 v.1 v.2) = spec_l01Is.s0 k (fun a0 a1 => rec (n88_0 a0 a1)) v.1 v.2 := by
  kernel_rfl
theorem q88_0 (k : Nat) (n : Nat) : ∀ v : (List Int) × Int, loopF (E88 k) (S88 k) Try.f88 p88_0 [] n (n88_0 v.1 v.2) = spec_l01Is.l0 k n v.1 v.2 :=
  loopF_eq (E88 k) (S88 k) Try.f88 p88_0 [] (fun v : (List Int) × Int => n88_0 v.1 v.2) (fun rec v => spec_l01Is.s0 k (fun a0 a1 => rec (a0, a1)) v.1 v.2) (fun n v => spec_l01Is.l0 k n v.1 v.2) (fun _ => rfl) (fun _ _ => rfl) (fun rec v => r88_0 k rec v) n
theorem e88 (k : Nat) (x : dens (flatC (S88 k).ps)) : funK (E88 k) (S88 k) Try.f88 x = (S88 k).fn x := by
  have h : funK (E88 k) (S88 k) Try.f88 x = spec_l01Is.g k (fun a0 a1 => loopF (E88 k) (S88 k) Try.f88 p88_0 [] k (n88_0 a0 a1)) x := by kernel_rfl
  rw [h]
  rw [show (fun a0 a1 => loopF (E88 k) (S88 k) Try.f88 p88_0 [] k (n88_0 a0 a1)) = spec_l01Is.l0 k k from funext fun a0 => funext fun a1 => q88_0 k k (a0, a1)]
  rfl
theorem M88 (k : Nat) : Meets Try.prog 88 (S88 k) := meets_of Try.func88 (by kernel_rfl) tbOk (orc_cons (M89 k) (orc_cons (M90 k) orc_nil)) mixOk (fun x y h => (e88 k x).trans h) rfl

/-! spec_l02Count: function 76 -/
noncomputable def spec_l02Count.s0 (k : Nat) (r0 : (List Int) → Int → Int → Option (Int)) (x1_0 : List Int) (x3 : Int) (x4 : Int) : Option (Int) := if x4 < (x1_0.length : Int) then (if 0 ≤ x4 then (if x4 < (x1_0.length : Int) then (r0 x1_0 (wrap64 (x3 * (rd x1_0 x4))) (wrap64 (x4 + 1))) else (none)) else (none)) else (some x3)
noncomputable def spec_l02Count.l0 (k : Nat) : Nat → (List Int) → Int → Int → Option (Int)
  | 0, _, _, _ => none
  | n + 1, x0, x1, x2 => spec_l02Count.s0 k (spec_l02Count.l0 k n) x0 x1 x2
noncomputable def spec_l02Count.g (k : Nat) (r0 : (List Int) → Int → Int → Option (Int)) (l0_0 : List Int) : Option (Int) := r0 l0_0 1 0
noncomputable def spec_l02Count.f (k : Nat) (l0_0 : List Int) : Option (Int) := spec_l02Count.g k (spec_l02Count.l0 k k) l0_0
noncomputable def S76 (k : Nat) : Does := ⟨[(true, [.dat (.list (.int .i64))])], [(false, [.dat (.int .i64)])], fun x => spec_l02Count.f k x⟩
noncomputable def E76 (k : Nat) : En := ⟨tb, orcOf [], lvOf [(0, [(1, []), (3, []), (4, [])])], k, 0, lvOf [], []⟩
noncomputable def n76_0 (x1_0 : List Int) (x3 : Int) (x4 : Int) : St := ⟨20, lookA [(1, .box 0 0), (3, .dat (.int .i64) x3), (4, .dat (.int .i64) x4)], Go.V.look [(0, .cells [.dat (.list (.int .i64)) x1_0])]⟩
def p76_0 : List Bool := [true, true, false, true, false]
theorem r76_0 (k : Nat) (rec : St → Option (Int)) (v : (List Int) × Int × Int) : roundF (E76 k) (S76 k) Try.f76 p76_0 [] rec (n76_0 v.1 v.2.1 v.2.2) = spec_l02Count.s0 k (fun a0 a1 a2 => rec (n76_0 a0 a1 a2)) v.1 v.2.1 v.2.2 := by
  kernel_rfl
theorem q76_0 (k : Nat) (n : Nat) : ∀ v : (List Int) × Int × Int, loopF (E76 k) (S76 k) Try.f76 p76_0 [] n (n76_0 v.1 v.2.1 v.2.2) = spec_l02Count.l0 k n v.1 v.2.1 v.2.2 :=
  loopF_eq (E76 k) (S76 k) Try.f76 p76_0 [] (fun v : (List Int) × Int × Int => n76_0 v.1 v.2.1 v.2.2) (fun rec v => spec_l02Count.s0 k (fun a0 a1 a2 => rec (a0, a1, a2)) v.1 v.2.1 v.2.2) (fun n v => spec_l02Count.l0 k n v.1 v.2.1 v.2.2) (fun _ => rfl) (fun _ _ => rfl) (fun rec v => r76_0 k rec v) n
theorem e76 (k : Nat) (x : dens (flatC (S76 k).ps)) : funK (E76 k) (S76 k) Try.f76 x = (S76 k).fn x := by
  have h : funK (E76 k) (S76 k) Try.f76 x = spec_l02Count.g k (fun a0 a1 a2 => loopF (E76 k) (S76 k) Try.f76 p76_0 [] k (n76_0 a0 a1 a2)) x := by kernel_rfl
  rw [h]
  rw [show (fun a0 a1 a2 => loopF (E76 k) (S76 k) Try.f76 p76_0 [] k (n76_0 a0 a1 a2)) = spec_l02Count.l0 k k from funext fun a0 => funext fun a1 => funext fun a2 => q76_0 k k (a0, a1, a2)]
  rfl
theorem M76 (k : Nat) : Meets Try.prog 76 (S76 k) := meets_of Try.func76 (by kernel_rfl) tbOk orc_nil mixOk (fun x y h => (e76 k x).trans h) rfl

/-! spec_l02Few: function 52 -/
noncomputable def spec_l02Few.f (k : Nat) (l0_0 : List Int) : Option (Int) := (spec_l01Is.f k l0_0).bind fun t1 => if (!decide (t1 = true)) = true then (some 1) else ((spec_l02Count.f k l0_0).bind fun t2 => if (decide (4000 < t2)) = true then (some 3) else (some 0))
noncomputable def S52 (k : Nat) : Does := ⟨[(true, [.dat (.list (.int .i64))])], [(false, [.dat (.int .i64)])], fun x => spec_l02Few.f k x⟩
noncomputable def E52 (k : Nat) : En := ⟨tb, orcOf [(88, S88 k), (76, S76 k)], lvOf [], k, 0, lvOf [], []⟩
theorem e52 (k : Nat) (x : dens (flatC (S52 k).ps)) : funK (E52 k) (S52 k) Try.f52 x = (S52 k).fn x := by
  kernel_rfl
theorem M52 (k : Nat) : Meets Try.prog 52 (S52 k) := meets_of Try.func52 (by kernel_rfl) tbOk (orc_cons (M88 k) (orc_cons (M76 k) orc_nil)) mixOk (fun x y h => (e52 k x).trans h) rfl

/-! spec_l02Of: function 82 -/
noncomputable def spec_l02Of.s0 (k : Nat) (r0 : Int → (List Int) → (List Int) → Int → Option ((List Int))) (x1 : Int) (x2_0 : List Int) (x5 : List Int) (x6 : Int) : Option ((List Int)) := if 0 ≤ x6 then (if 0 ≤ x6 then (if x6 < (x2_0.length : Int) then (if (rd x2_0 x6) = 0 then (none) else (if 0 ≤ x6 then (if x6 < (x5.length : Int) then (if 0 ≤ x6 then (if x6 < (x2_0.length : Int) then (if (rd x2_0 x6) = 0 then (none) else (r0 (wrap64 (Int.tdiv x1 (rd x2_0 x6))) x2_0 (x5.set x6.toNat (wrap64 ((Int.tmod x1 (rd x2_0 x6)) + 1))) (wrap64 (x6 - 1)))) else (none)) else (none)) else (none)) else (none))) else (none)) else (none)) else (some x5)
noncomputable def spec_l02Of.l0 (k : Nat) : Nat → Int → (List Int) → (List Int) → Int → Option ((List Int))
  | 0, _, _, _, _ => none
  | n + 1, x0, x1, x2, x3 => spec_l02Of.s0 k (spec_l02Of.l0 k n) x0 x1 x2 x3
noncomputable def spec_l02Of.g (k : Nat) (r0 : Int → (List Int) → (List Int) → Int → Option ((List Int))) (l0_0 : List Int) (a1 : Int) : Option ((List Int)) := if 0 ≤ (l0_0.length : Int) then (if (l0_0.length : Int) ≤ (l0_0.length : Int) then (if (l0_0.length : Int).toNat ≤ 1099511627776 then (r0 a1 l0_0 (List.replicate (l0_0.length : Int).toNat (0 : Int)) (wrap64 (((List.replicate (l0_0.length : Int).toNat (0 : Int)).length : Int) - 1))) else (none)) else (none)) else (none)
noncomputable def spec_l02Of.f (k : Nat) (l0_0 : List Int) (a1 : Int) : Option ((List Int)) := spec_l02Of.g k (spec_l02Of.l0 k k) l0_0 a1
noncomputable def S82 (k : Nat) : Does := ⟨[(true, [.dat (.list (.int .i64))]), (false, [.dat (.int .i64)])], [(false, [.own 2 (.int .i64)])], fun x => spec_l02Of.f k x.1 x.2⟩
noncomputable def E82 (k : Nat) : En := ⟨tb, orcOf [], lvOf [(0, [(1, []), (2, []), (5, []), (6, [])])], k, 0, lvOf [], []⟩
noncomputable def n82_0 (x1 : Int) (x2_0 : List Int) (x5 : List Int) (x6 : Int) : St := ⟨37, lookA [(1, .dat (.int .i64) x1), (2, .box 0 0), (5, .own 1), (6, .dat (.int .i64) x6)], Go.V.look [(0, .cells [.dat (.list (.int .i64)) x2_0]), (1, .flat 2 (.int .i64) x5)]⟩
def p82_0 : List Bool := [true, true, false, true, false]
theorem r82_0 (k : Nat) (rec : St → Option ((List Int))) (v : Int × (List Int) × (List Int) × Int) : roundF (E82 k) (S82 k) Try.f82 p82_0 [] rec (n82_0 v.1 v.2.1 v.2.2.1 v.2.2.2) = spec_l02Of.s0 k (fun a0 a1 a2 a3 => rec (n82_0 a0 a1 a2 a3)) v.1 v.2.1 v.2.2.1 v.2.2.2 := by
  kernel_rfl
theorem q82_0 (k : Nat) (n : Nat) : ∀ v : Int × (List Int) × (List Int) × Int, loopF (E82 k) (S82 k) Try.f82 p82_0 [] n (n82_0 v.1 v.2.1 v.2.2.1 v.2.2.2) = spec_l02Of.l0 k n v.1 v.2.1 v.2.2.1 v.2.2.2 :=
  loopF_eq (E82 k) (S82 k) Try.f82 p82_0 [] (fun v : Int × (List Int) × (List Int) × Int => n82_0 v.1 v.2.1 v.2.2.1 v.2.2.2) (fun rec v => spec_l02Of.s0 k (fun a0 a1 a2 a3 => rec (a0, a1, a2, a3)) v.1 v.2.1 v.2.2.1 v.2.2.2) (fun n v => spec_l02Of.l0 k n v.1 v.2.1 v.2.2.1 v.2.2.2) (fun _ => rfl) (fun _ _ => rfl) (fun rec v => r82_0 k rec v) n
theorem e82 (k : Nat) (x : dens (flatC (S82 k).ps)) : funK (E82 k) (S82 k) Try.f82 x = (S82 k).fn x := by
  have h : funK (E82 k) (S82 k) Try.f82 x = spec_l02Of.g k (fun a0 a1 a2 a3 => loopF (E82 k) (S82 k) Try.f82 p82_0 [] k (n82_0 a0 a1 a2 a3)) x.1 x.2 := by kernel_rfl
  rw [h]
  rw [show (fun a0 a1 a2 a3 => loopF (E82 k) (S82 k) Try.f82 p82_0 [] k (n82_0 a0 a1 a2 a3)) = spec_l02Of.l0 k k from funext fun a0 => funext fun a1 => funext fun a2 => funext fun a3 => q82_0 k k (a0, a1, a2, a3)]
  rfl
theorem M82 (k : Nat) : Meets Try.prog 82 (S82 k) := meets_of Try.func82 (by kernel_rfl) tbOk orc_nil mixOk (fun x y h => (e82 k x).trans h) rfl

/-! spec_l02Step: function 63 -/
noncomputable def spec_l02Step.s0 (k : Nat) (r0 : (List Int) → Int → (List Int) → (List Int) → Int → Option ((List Int) × Bool)) (x1 : List Int) (x2 : Int) (x3_0 : List Int) (x8 : List Int) (x9 : Int) : Option ((List Int) × Bool) := if x9 < (x1.length : Int) then (if (decide (x9 = x2)) = true then (if 0 ≤ x9 then (if x9 < (x3_0.length : Int) then (if x8.length + 1 ≤ 1099511627776 then (r0 x1 x2 x3_0 (x8 ++ [(rd x3_0 x9)]) (wrap64 (x9 + 1))) else (none)) else (none)) else (none)) else (if 0 ≤ x9 then (if x9 < (x1.length : Int) then (if (decide ((rd x1 x9) = 1)) = true then (some ([], false)) else (if 0 ≤ x9 then (if x9 < (x1.length : Int) then (if x8.length + 1 ≤ 1099511627776 then (r0 x1 x2 x3_0 (x8 ++ [(wrap64 ((rd x1 x9) - 1))]) (wrap64 (x9 + 1))) else (none)) else (none)) else (none))) else (none)) else (none))) else (some (x8, true))
noncomputable def spec_l02Step.l0 (k : Nat) : Nat → (List Int) → Int → (List Int) → (List Int) → Int → Option ((List Int) × Bool)
  | 0, _, _, _, _, _ => none
  | n + 1, x0, x1, x2, x3, x4 => spec_l02Step.s0 k (spec_l02Step.l0 k n) x0 x1 x2 x3 x4
noncomputable def spec_l02Step.g (k : Nat) (r0 : (List Int) → Int → (List Int) → (List Int) → Int → Option ((List Int) × Bool)) (l0_0 : List Int) (l1 : List Int) (a2 : Int) : Option ((List Int) × Bool) := r0 l1 a2 l0_0 [] 0
noncomputable def spec_l02Step.f (k : Nat) (l0_0 : List Int) (l1 : List Int) (a2 : Int) : Option ((List Int) × Bool) := spec_l02Step.g k (spec_l02Step.l0 k k) l0_0 l1 a2
noncomputable def S63 (k : Nat) : Does := ⟨[(true, [.dat (.list (.int .i64))]), (false, [.dat (.list (.int .i64))]), (false, [.dat (.int .i64)])], [(false, [.own 2 (.int .i64)]), (false, [.dat .bool])], fun x => spec_l02Step.f k x.1 x.2.1 x.2.2⟩
noncomputable def E63 (k : Nat) : En := ⟨tb, orcOf [], lvOf [(0, [(1, []), (2, []), (3, []), (8, []), (9, [])])], k, 0, lvOf [], []⟩
noncomputable def n63_0 (x1 : List Int) (x2 : Int) (x3_0 : List Int) (x8 : List Int) (x9 : Int) : St := ⟨44, lookA [(1, .dat (.list (.int .i64)) x1), (2, .dat (.int .i64) x2), (3, .box 0 0), (8, .own 1), (9, .dat (.int .i64) x9)], Go.V.look [(0, .cells [.dat (.list (.int .i64)) x3_0]), (1, .flat 2 (.int .i64) x8)]⟩
def p63_0 : List Bool := [true, true, false, true, false]
theorem r63_0 (k : Nat) (rec : St → Option ((List Int) × Bool)) (v : (List Int) × Int × (List Int) × (List Int) × Int) : roundF (E63 k) (S63 k) Try.f63 p63_0 [] rec (n63_0 v.1 v.2.1 v.2.2.1 v.2.2.2.1 v.2.2.2.2) = spec_l02Step.s0 k (fun a0 a1 a2 a3 a4 => rec (n63_0 a0 a1 a2 a3 a4)) v.1 v.2.1 v.2.2.1 v.2.2.2.1 v.2.2.2.2 := by
  kernel_rfl
theorem q63_0 (k : Nat) (n : Nat) : ∀ v : (List Int) × Int × (List Int) × (List Int) × Int, loopF (E63 k) (S63 k) Try.f63 p63_0 [] n (n63_0 v.1 v.2.1 v.2.2.1 v.2.2.2.1 v.2.2.2.2) = spec_l02Step.l0 k n v.1 v.2.1 v.2.2.1 v.2.2.2.1 v.2.2.2.2 :=
  loopF_eq (E63 k) (S63 k) Try.f63 p63_0 [] (fun v : (List Int) × Int × (List Int) × (List Int) × Int => n63_0 v.1 v.2.1 v.2.2.1 v.2.2.2.1 v.2.2.2.2) (fun rec v => spec_l02Step.s0 k (fun a0 a1 a2 a3 a4 => rec (a0, a1, a2, a3, a4)) v.1 v.2.1 v.2.2.1 v.2.2.2.1 v.2.2.2.2) (fun n v => spec_l02Step.l0 k n v.1 v.2.1 v.2.2.1 v.2.2.2.1 v.2.2.2.2) (fun _ => rfl) (fun _ _ => rfl) (fun rec v => r63_0 k rec v) n
theorem e63 (k : Nat) (x : dens (flatC (S63 k).ps)) : funK (E63 k) (S63 k) Try.f63 x = (S63 k).fn x := by
  have h : funK (E63 k) (S63 k) Try.f63 x = spec_l02Step.g k (fun a0 a1 a2 a3 a4 => loopF (E63 k) (S63 k) Try.f63 p63_0 [] k (n63_0 a0 a1 a2 a3 a4)) x.1 x.2.1 x.2.2 := by kernel_rfl
  rw [h]
  rw [show (fun a0 a1 a2 a3 a4 => loopF (E63 k) (S63 k) Try.f63 p63_0 [] k (n63_0 a0 a1 a2 a3 a4)) = spec_l02Step.l0 k k from funext fun a0 => funext fun a1 => funext fun a2 => funext fun a3 => funext fun a4 => q63_0 k k (a0, a1, a2, a3, a4)]
  rfl
theorem M63 (k : Nat) : Meets Try.prog 63 (S63 k) := meets_of Try.func63 (by kernel_rfl) tbOk orc_nil mixOk (fun x y h => (e63 k x).trans h) rfl

/-! spec_l02Number: function 58 -/
noncomputable def spec_l02Number.s0 (k : Nat) (r0 : (List Int) → (List Int) → Int → Int → Option (Int)) (x1 : List Int) (x2_0 : List Int) (x5 : Int) (x6 : Int) : Option (Int) := if x6 < (x1.length : Int) then (if 0 ≤ x6 then (if x6 < (x2_0.length : Int) then (if 0 ≤ x6 then (if x6 < (x1.length : Int) then (r0 x1 x2_0 (wrap64 ((wrap64 ((wrap64 (x5 * (rd x2_0 x6))) + (rd x1 x6))) - 1)) (wrap64 (x6 + 1))) else (none)) else (none)) else (none)) else (none)) else (some x5)
noncomputable def spec_l02Number.l0 (k : Nat) : Nat → (List Int) → (List Int) → Int → Int → Option (Int)
  | 0, _, _, _, _ => none
  | n + 1, x0, x1, x2, x3 => spec_l02Number.s0 k (spec_l02Number.l0 k n) x0 x1 x2 x3
noncomputable def spec_l02Number.g (k : Nat) (r0 : (List Int) → (List Int) → Int → Int → Option (Int)) (l0_0 : List Int) (l1 : List Int) : Option (Int) := r0 l1 l0_0 0 0
noncomputable def spec_l02Number.f (k : Nat) (l0_0 : List Int) (l1 : List Int) : Option (Int) := spec_l02Number.g k (spec_l02Number.l0 k k) l0_0 l1
noncomputable def S58 (k : Nat) : Does := ⟨[(true, [.dat (.list (.int .i64))]), (false, [.dat (.list (.int .i64))])], [(false, [.dat (.int .i64)])], fun x => spec_l02Number.f k x.1 x.2⟩
noncomputable def E58 (k : Nat) : En := ⟨tb, orcOf [], lvOf [(0, [(1, []), (2, []), (5, []), (6, [])])], k, 0, lvOf [], []⟩
noncomputable def n58_0 (x1 : List Int) (x2_0 : List Int) (x5 : Int) (x6 : Int) : St := ⟨27, lookA [(1, .dat (.list (.int .i64)) x1), (2, .box 0 0), (5, .dat (.int .i64) x5), (6, .dat (.int .i64) x6)], Go.V.look [(0, .cells [.dat (.list (.int .i64)) x2_0])]⟩
def p58_0 : List Bool := [true, true, false, true, false]
theorem r58_0 (k : Nat) (rec : St → Option (Int)) (v : (List Int) × (List Int) × Int × Int) : roundF (E58 k) (S58 k) Try.f58 p58_0 [] rec (n58_0 v.1 v.2.1 v.2.2.1 v.2.2.2) = spec_l02Number.s0 k (fun a0 a1 a2 a3 => rec (n58_0 a0 a1 a2 a3)) v.1 v.2.1 v.2.2.1 v.2.2.2 := by
  kernel_rfl
theorem q58_0 (k : Nat) (n : Nat) : ∀ v : (List Int) × (List Int) × Int × Int, loopF (E58 k) (S58 k) Try.f58 p58_0 [] n (n58_0 v.1 v.2.1 v.2.2.1 v.2.2.2) = spec_l02Number.l0 k n v.1 v.2.1 v.2.2.1 v.2.2.2 :=
  loopF_eq (E58 k) (S58 k) Try.f58 p58_0 [] (fun v : (List Int) × (List Int) × Int × Int => n58_0 v.1 v.2.1 v.2.2.1 v.2.2.2) (fun rec v => spec_l02Number.s0 k (fun a0 a1 a2 a3 => rec (a0, a1, a2, a3)) v.1 v.2.1 v.2.2.1 v.2.2.2) (fun n v => spec_l02Number.l0 k n v.1 v.2.1 v.2.2.1 v.2.2.2) (fun _ => rfl) (fun _ _ => rfl) (fun rec v => r58_0 k rec v) n
theorem e58 (k : Nat) (x : dens (flatC (S58 k).ps)) : funK (E58 k) (S58 k) Try.f58 x = (S58 k).fn x := by
  have h : funK (E58 k) (S58 k) Try.f58 x = spec_l02Number.g k (fun a0 a1 a2 a3 => loopF (E58 k) (S58 k) Try.f58 p58_0 [] k (n58_0 a0 a1 a2 a3)) x.1 x.2 := by kernel_rfl
  rw [h]
  rw [show (fun a0 a1 a2 a3 => loopF (E58 k) (S58 k) Try.f58 p58_0 [] k (n58_0 a0 a1 a2 a3)) = spec_l02Number.l0 k k from funext fun a0 => funext fun a1 => funext fun a2 => funext fun a3 => q58_0 k k (a0, a1, a2, a3)]
  rfl
theorem M58 (k : Nat) : Meets Try.prog 58 (S58 k) := meets_of Try.func58 (by kernel_rfl) tbOk orc_nil mixOk (fun x y h => (e58 k x).trans h) rfl

/-! spec_l02Lasting: function 53 -/
noncomputable def spec_l02Lasting.s3 (k : Nat) (r2 : (List Int) → Int → (List Bool) → Bool → Int → Option ((List Bool))) (r3 : (List Int) → Int → (List Bool) → Bool → Int → (List Int) → Bool → Int → Option ((List Bool))) (x1_0 : List Int) (x3 : Int) (x4 : List Bool) (x6 : Bool) (x7 : Int) (x8 : List Int) (x9 : Bool) (x10 : Int) : Option ((List Bool)) := (spec_l01K.f x1_0).bind fun t3 => if x10 < t3 then (if x9 = true then (if x9 = true then (r2 x1_0 x3 x4 x6 (wrap64 (x7 + 1))) else (if 0 ≤ x7 then (if x7 < (x4.length : Int) then (r2 x1_0 x3 (x4.set x7.toNat false) true (wrap64 (x7 + 1))) else (none)) else (none))) else ((spec_l02Step.f k x1_0 x8 x10).bind fun t4 => if t4.2 = true then ((spec_l02Number.f k x1_0 t4.1).bind fun t5 => if 0 ≤ t5 then (if t5 < (x4.length : Int) then (r3 x1_0 x3 x4 x6 x7 x8 (rdOf false x4 t5) (wrap64 (x10 + 1))) else (none)) else (none)) else (r3 x1_0 x3 x4 x6 x7 x8 x9 (wrap64 (x10 + 1))))) else (if x9 = true then (r2 x1_0 x3 x4 x6 (wrap64 (x7 + 1))) else (if 0 ≤ x7 then (if x7 < (x4.length : Int) then (r2 x1_0 x3 (x4.set x7.toNat false) true (wrap64 (x7 + 1))) else (none)) else (none)))
noncomputable def spec_l02Lasting.l3 (k : Nat) (r1 : (List Int) → Int → (List Bool) → Bool → Option ((List Bool))) (r2 : (List Int) → Int → (List Bool) → Bool → Int → Option ((List Bool))) : Nat → (List Int) → Int → (List Bool) → Bool → Int → (List Int) → Bool → Int → Option ((List Bool))
  | 0, _, _, _, _, _, _, _, _ => none
  | n + 1, x0, x1, x2, x3, x4, x5, x6, x7 => spec_l02Lasting.s3 k r2 (spec_l02Lasting.l3 k r1 r2 n) x0 x1 x2 x3 x4 x5 x6 x7
noncomputable def spec_l02Lasting.s2 (k : Nat) (r1 : (List Int) → Int → (List Bool) → Bool → Option ((List Bool))) (r2 : (List Int) → Int → (List Bool) → Bool → Int → Option ((List Bool))) (r3 : (List Int) → Int → (List Bool) → Bool → Int → (List Int) → Bool → Int → Option ((List Bool))) (x1_0 : List Int) (x3 : Int) (x4 : List Bool) (x6 : Bool) (x7 : Int) : Option ((List Bool)) := if x7 < x3 then (if 0 ≤ x7 then (if x7 < (x4.length : Int) then (if (rdOf false x4 x7) = true then ((spec_l02Of.f k x1_0 x7).bind fun t2 => r3 x1_0 x3 x4 x6 x7 t2 false (-1)) else (r2 x1_0 x3 x4 x6 (wrap64 (x7 + 1)))) else (none)) else (none)) else (r1 x1_0 x3 x4 x6)
noncomputable def spec_l02Lasting.l2 (k : Nat) (r1 : (List Int) → Int → (List Bool) → Bool → Option ((List Bool))) : Nat → (List Int) → Int → (List Bool) → Bool → Int → Option ((List Bool))
  | 0, _, _, _, _, _ => none
  | n + 1, x0, x1, x2, x3, x4 => spec_l02Lasting.s2 k r1 (spec_l02Lasting.l2 k r1 n) (spec_l02Lasting.l3 k r1 (spec_l02Lasting.l2 k r1 n) k) x0 x1 x2 x3 x4
noncomputable def spec_l02Lasting.s1 (k : Nat) (r1 : (List Int) → Int → (List Bool) → Bool → Option ((List Bool))) (r2 : (List Int) → Int → (List Bool) → Bool → Int → Option ((List Bool))) (x1_0 : List Int) (x3 : Int) (x4 : List Bool) (x6 : Bool) : Option ((List Bool)) := if x6 = true then (r2 x1_0 x3 x4 false 0) else (some x4)
noncomputable def spec_l02Lasting.l1 (k : Nat) : Nat → (List Int) → Int → (List Bool) → Bool → Option ((List Bool))
  | 0, _, _, _, _ => none
  | n + 1, x0, x1, x2, x3 => spec_l02Lasting.s1 k (spec_l02Lasting.l1 k n) (spec_l02Lasting.l2 k (spec_l02Lasting.l1 k n) k) x0 x1 x2 x3
noncomputable def spec_l02Lasting.s0 (k : Nat) (r0 : (List Int) → Int → (List Bool) → Int → Int → Option ((List Bool))) (r1 : (List Int) → Int → (List Bool) → Bool → Option ((List Bool))) (x1_0 : List Int) (x3 : Int) (x4 : List Bool) (x18 : Int) (x19 : Int) : Option ((List Bool)) := if x19 < x18 then (if 0 ≤ x19 then (if x19 < (x4.length : Int) then (r0 x1_0 x3 (x4.set x19.toNat true) x18 (wrap64 (x19 + 1))) else (none)) else (none)) else (r1 x1_0 x3 x4 true)
noncomputable def spec_l02Lasting.l0 (k : Nat) : Nat → (List Int) → Int → (List Bool) → Int → Int → Option ((List Bool))
  | 0, _, _, _, _, _ => none
  | n + 1, x0, x1, x2, x3, x4 => spec_l02Lasting.s0 k (spec_l02Lasting.l0 k n) (spec_l02Lasting.l1 k k) x0 x1 x2 x3 x4
noncomputable def spec_l02Lasting.g (k : Nat) (r0 : (List Int) → Int → (List Bool) → Int → Int → Option ((List Bool))) (l0_0 : List Int) : Option ((List Bool)) := (spec_l02Count.f k l0_0).bind fun t1 => if 0 ≤ t1 then (if t1 ≤ t1 then (if t1.toNat ≤ 1099511627776 then (r0 l0_0 t1 (List.replicate t1.toNat (false : Bool)) ((List.replicate t1.toNat (false : Bool)).length : Int) 0) else (none)) else (none)) else (none)
noncomputable def spec_l02Lasting.f (k : Nat) (l0_0 : List Int) : Option ((List Bool)) := spec_l02Lasting.g k (spec_l02Lasting.l0 k k) l0_0
noncomputable def S53 (k : Nat) : Does := ⟨[(true, [.dat (.list (.int .i64))])], [(false, [.own 4 .bool])], fun x => spec_l02Lasting.f k x⟩
noncomputable def E53 (k : Nat) : En := ⟨tb, orcOf [(76, S76 k), (82, S82 k), (90, S90 k), (63, S63 k), (58, S58 k)], lvOf [(0, [(1, []), (3, []), (4, []), (18, []), (19, [])]), (2, [(1, []), (3, []), (4, []), (6, [])]), (4, [(1, []), (3, []), (4, []), (6, []), (7, [])]), (6, [(1, []), (3, []), (4, []), (6, []), (7, []), (8, []), (9, []), (10, [])])], k, 0, lvOf [], []⟩
noncomputable def n53_0 (x1_0 : List Int) (x3 : Int) (x4 : List Bool) (x18 : Int) (x19 : Int) : St := ⟨70, lookA [(1, .box 0 0), (3, .dat (.int .i64) x3), (4, .own 1), (18, .dat (.int .i64) x18), (19, .dat (.int .i64) x19)], Go.V.look [(0, .cells [.dat (.list (.int .i64)) x1_0]), (1, .flat 4 .bool x4)]⟩
def p53_0 : List Bool := [true, true, true, false, true, false]
noncomputable def n53_1 (x1_0 : List Int) (x3 : Int) (x4 : List Bool) (x6 : Bool) : St := ⟨70, lookA [(1, .box 0 0), (3, .dat (.int .i64) x3), (4, .own 1), (6, .dat .bool x6)], Go.V.look [(0, .cells [.dat (.list (.int .i64)) x1_0]), (1, .flat 4 .bool x4)]⟩
def p53_1 : List Bool := [true, true, true, true, false, true, false]
noncomputable def n53_2 (x1_0 : List Int) (x3 : Int) (x4 : List Bool) (x6 : Bool) (x7 : Int) : St := ⟨70, lookA [(1, .box 0 0), (3, .dat (.int .i64) x3), (4, .own 1), (6, .dat .bool x6), (7, .dat (.int .i64) x7)], Go.V.look [(0, .cells [.dat (.list (.int .i64)) x1_0]), (1, .flat 4 .bool x4)]⟩
def p53_2 : List Bool := [true, true, true, true, false, true, false, false, true, false, true, true, false]
noncomputable def n53_3 (x1_0 : List Int) (x3 : Int) (x4 : List Bool) (x6 : Bool) (x7 : Int) (x8 : List Int) (x9 : Bool) (x10 : Int) : St := ⟨70, lookA [(1, .box 0 0), (3, .dat (.int .i64) x3), (4, .own 1), (6, .dat .bool x6), (7, .dat (.int .i64) x7), (8, .own 2), (9, .dat .bool x9), (10, .dat (.int .i64) x10)], Go.V.look [(0, .cells [.dat (.list (.int .i64)) x1_0]), (1, .flat 4 .bool x4), (2, .flat 2 (.int .i64) x8)]⟩
def p53_3 : List Bool := [true, true, true, true, false, true, false, false, true, false, true, true, false, false, true, false, false, true, true, false, true, false]
theorem r53_3 (k : Nat) (R1 : St → Option ((List Bool))) (R2 : St → Option ((List Bool))) (rec : St → Option ((List Bool))) (v : (List Int) × Int × (List Bool) × Bool × Int × (List Int) × Bool × Int) : roundF (E53 k) (S53 k) Try.f53 p53_3 [R1, R2] rec (n53_3 v.1 v.2.1 v.2.2.1 v.2.2.2.1 v.2.2.2.2.1 v.2.2.2.2.2.1 v.2.2.2.2.2.2.1 v.2.2.2.2.2.2.2) = spec_l02Lasting.s3 k (fun a0 a1 a2 a3 a4 => R2 (n53_2 a0 a1 a2 a3 a4)) (fun a0 a1 a2 a3 a4 a5 a6 a7 => rec (n53_3 a0 a1 a2 a3 a4 a5 a6 a7)) v.1 v.2.1 v.2.2.1 v.2.2.2.1 v.2.2.2.2.1 v.2.2.2.2.2.1 v.2.2.2.2.2.2.1 v.2.2.2.2.2.2.2 := by
  kernel_rfl
theorem q53_3 (k : Nat) (R1 : St → Option ((List Bool))) (R2 : St → Option ((List Bool))) (n : Nat) : ∀ v : (List Int) × Int × (List Bool) × Bool × Int × (List Int) × Bool × Int, loopF (E53 k) (S53 k) Try.f53 p53_3 [R1, R2] n (n53_3 v.1 v.2.1 v.2.2.1 v.2.2.2.1 v.2.2.2.2.1 v.2.2.2.2.2.1 v.2.2.2.2.2.2.1 v.2.2.2.2.2.2.2) = spec_l02Lasting.l3 k (fun a0 a1 a2 a3 => R1 (n53_1 a0 a1 a2 a3)) (fun a0 a1 a2 a3 a4 => R2 (n53_2 a0 a1 a2 a3 a4)) n v.1 v.2.1 v.2.2.1 v.2.2.2.1 v.2.2.2.2.1 v.2.2.2.2.2.1 v.2.2.2.2.2.2.1 v.2.2.2.2.2.2.2 :=
  loopF_eq (E53 k) (S53 k) Try.f53 p53_3 [R1, R2] (fun v : (List Int) × Int × (List Bool) × Bool × Int × (List Int) × Bool × Int => n53_3 v.1 v.2.1 v.2.2.1 v.2.2.2.1 v.2.2.2.2.1 v.2.2.2.2.2.1 v.2.2.2.2.2.2.1 v.2.2.2.2.2.2.2) (fun rec v => spec_l02Lasting.s3 k (fun a0 a1 a2 a3 a4 => R2 (n53_2 a0 a1 a2 a3 a4)) (fun a0 a1 a2 a3 a4 a5 a6 a7 => rec (a0, a1, a2, a3, a4, a5, a6, a7)) v.1 v.2.1 v.2.2.1 v.2.2.2.1 v.2.2.2.2.1 v.2.2.2.2.2.1 v.2.2.2.2.2.2.1 v.2.2.2.2.2.2.2) (fun n v => spec_l02Lasting.l3 k (fun a0 a1 a2 a3 => R1 (n53_1 a0 a1 a2 a3)) (fun a0 a1 a2 a3 a4 => R2 (n53_2 a0 a1 a2 a3 a4)) n v.1 v.2.1 v.2.2.1 v.2.2.2.1 v.2.2.2.2.1 v.2.2.2.2.2.1 v.2.2.2.2.2.2.1 v.2.2.2.2.2.2.2) (fun _ => rfl) (fun _ _ => rfl) (fun rec v => r53_3 k R1 R2 rec v) n
theorem r53_2 (k : Nat) (R1 : St → Option ((List Bool))) (rec : St → Option ((List Bool))) (G3 : (List Int) → Int → (List Bool) → Bool → Int → (List Int) → Bool → Int → Option ((List Bool))) (h3 : ∀ a0 a1 a2 a3 a4 a5 a6 a7, loopF (E53 k) (S53 k) Try.f53 p53_3 [R1, rec] k (n53_3 a0 a1 a2 a3 a4 a5 a6 a7) = G3 a0 a1 a2 a3 a4 a5 a6 a7) (v : (List Int) × Int × (List Bool) × Bool × Int) : roundF (E53 k) (S53 k) Try.f53 p53_2 [R1] rec (n53_2 v.1 v.2.1 v.2.2.1 v.2.2.2.1 v.2.2.2.2) = spec_l02Lasting.s2 k (fun a0 a1 a2 a3 => R1 (n53_1 a0 a1 a2 a3)) (fun a0 a1 a2 a3 a4 => rec (n53_2 a0 a1 a2 a3 a4)) G3 v.1 v.2.1 v.2.2.1 v.2.2.2.1 v.2.2.2.2 := by
  obtain rfl : (fun a0 a1 a2 a3 a4 a5 a6 a7 => loopF (E53 k) (S53 k) Try.f53 p53_3 [R1, rec] k (n53_3 a0 a1 a2 a3 a4 a5 a6 a7)) = G3 := funext fun a0 => funext fun a1 => funext fun a2 => funext fun a3 => funext fun a4 => funext fun a5 => funext fun a6 => funext fun a7 => h3 a0 a1 a2 a3 a4 a5 a6 a7
  kernel_rfl
theorem q53_2 (k : Nat) (R1 : St → Option ((List Bool))) (n : Nat) : ∀ v : (List Int) × Int × (List Bool) × Bool × Int, loopF (E53 k) (S53 k) Try.f53 p53_2 [R1] n (n53_2 v.1 v.2.1 v.2.2.1 v.2.2.2.1 v.2.2.2.2) = spec_l02Lasting.l2 k (fun a0 a1 a2 a3 => R1 (n53_1 a0 a1 a2 a3)) n v.1 v.2.1 v.2.2.1 v.2.2.2.1 v.2.2.2.2 :=
  loopF_eq (E53 k) (S53 k) Try.f53 p53_2 [R1] (fun v : (List Int) × Int × (List Bool) × Bool × Int => n53_2 v.1 v.2.1 v.2.2.1 v.2.2.2.1 v.2.2.2.2) (fun rec v => spec_l02Lasting.s2 k (fun a0 a1 a2 a3 => R1 (n53_1 a0 a1 a2 a3)) (fun a0 a1 a2 a3 a4 => rec (a0, a1, a2, a3, a4)) (spec_l02Lasting.l3 k (fun a0 a1 a2 a3 => R1 (n53_1 a0 a1 a2 a3)) (fun a0 a1 a2 a3 a4 => rec (a0, a1, a2, a3, a4)) k) v.1 v.2.1 v.2.2.1 v.2.2.2.1 v.2.2.2.2) (fun n v => spec_l02Lasting.l2 k (fun a0 a1 a2 a3 => R1 (n53_1 a0 a1 a2 a3)) n v.1 v.2.1 v.2.2.1 v.2.2.2.1 v.2.2.2.2) (fun _ => rfl) (fun _ _ => rfl) (fun rec v => r53_2 k R1 rec _ (fun a0 a1 a2 a3 a4 a5 a6 a7 => q53_3 k R1 rec k (a0, a1, a2, a3, a4, a5, a6, a7)) v) n
theorem r53_1 (k : Nat) (rec : St → Option ((List Bool))) (G2 : (List Int) → Int → (List Bool) → Bool → Int → Option ((List Bool))) (h2 : ∀ a0 a1 a2 a3 a4, loopF (E53 k) (S53 k) Try.f53 p53_2 [rec] k (n53_2 a0 a1 a2 a3 a4) = G2 a0 a1 a2 a3 a4) (v : (List Int) × Int × (List Bool) × Bool) : roundF (E53 k) (S53 k) Try.f53 p53_1 [] rec (n53_1 v.1 v.2.1 v.2.2.1 v.2.2.2) = spec_l02Lasting.s1 k (fun a0 a1 a2 a3 => rec (n53_1 a0 a1 a2 a3)) G2 v.1 v.2.1 v.2.2.1 v.2.2.2 := by
  obtain rfl : (fun a0 a1 a2 a3 a4 => loopF (E53 k) (S53 k) Try.f53 p53_2 [rec] k (n53_2 a0 a1 a2 a3 a4)) = G2 := funext fun a0 => funext fun a1 => funext fun a2 => funext fun a3 => funext fun a4 => h2 a0 a1 a2 a3 a4
  kernel_rfl
theorem q53_1 (k : Nat) (n : Nat) : ∀ v : (List Int) × Int × (List Bool) × Bool, loopF (E53 k) (S53 k) Try.f53 p53_1 [] n (n53_1 v.1 v.2.1 v.2.2.1 v.2.2.2) = spec_l02Lasting.l1 k n v.1 v.2.1 v.2.2.1 v.2.2.2 :=
  loopF_eq (E53 k) (S53 k) Try.f53 p53_1 [] (fun v : (List Int) × Int × (List Bool) × Bool => n53_1 v.1 v.2.1 v.2.2.1 v.2.2.2) (fun rec v => spec_l02Lasting.s1 k (fun a0 a1 a2 a3 => rec (a0, a1, a2, a3)) (spec_l02Lasting.l2 k (fun a0 a1 a2 a3 => rec (a0, a1, a2, a3)) k) v.1 v.2.1 v.2.2.1 v.2.2.2) (fun n v => spec_l02Lasting.l1 k n v.1 v.2.1 v.2.2.1 v.2.2.2) (fun _ => rfl) (fun _ _ => rfl) (fun rec v => r53_1 k rec _ (fun a0 a1 a2 a3 a4 => q53_2 k rec k (a0, a1, a2, a3, a4)) v) n
theorem r53_0 (k : Nat) (rec : St → Option ((List Bool))) (G1 : (List Int) → Int → (List Bool) → Bool → Option ((List Bool))) (h1 : ∀ a0 a1 a2 a3, loopF (E53 k) (S53 k) Try.f53 p53_1 [] k (n53_1 a0 a1 a2 a3) = G1 a0 a1 a2 a3) (v : (List Int) × Int × (List Bool) × Int × Int) : roundF (E53 k) (S53 k) Try.f53 p53_0 [] rec (n53_0 v.1 v.2.1 v.2.2.1 v.2.2.2.1 v.2.2.2.2) = spec_l02Lasting.s0 k (fun a0 a1 a2 a3 a4 => rec (n53_0 a0 a1 a2 a3 a4)) G1 v.1 v.2.1 v.2.2.1 v.2.2.2.1 v.2.2.2.2 := by
  obtain rfl : (fun a0 a1 a2 a3 => loopF (E53 k) (S53 k) Try.f53 p53_1 [] k (n53_1 a0 a1 a2 a3)) = G1 := funext fun a0 => funext fun a1 => funext fun a2 => funext fun a3 => h1 a0 a1 a2 a3
  kernel_rfl
theorem q53_0 (k : Nat) (n : Nat) : ∀ v : (List Int) × Int × (List Bool) × Int × Int, loopF (E53 k) (S53 k) Try.f53 p53_0 [] n (n53_0 v.1 v.2.1 v.2.2.1 v.2.2.2.1 v.2.2.2.2) = spec_l02Lasting.l0 k n v.1 v.2.1 v.2.2.1 v.2.2.2.1 v.2.2.2.2 :=
  loopF_eq (E53 k) (S53 k) Try.f53 p53_0 [] (fun v : (List Int) × Int × (List Bool) × Int × Int => n53_0 v.1 v.2.1 v.2.2.1 v.2.2.2.1 v.2.2.2.2) (fun rec v => spec_l02Lasting.s0 k (fun a0 a1 a2 a3 a4 => rec (a0, a1, a2, a3, a4)) (spec_l02Lasting.l1 k k) v.1 v.2.1 v.2.2.1 v.2.2.2.1 v.2.2.2.2) (fun n v => spec_l02Lasting.l0 k n v.1 v.2.1 v.2.2.1 v.2.2.2.1 v.2.2.2.2) (fun _ => rfl) (fun _ _ => rfl) (fun rec v => r53_0 k rec _ (fun a0 a1 a2 a3 => q53_1 k k (a0, a1, a2, a3)) v) n
theorem e53 (k : Nat) (x : dens (flatC (S53 k).ps)) : funK (E53 k) (S53 k) Try.f53 x = (S53 k).fn x := by
  have h : funK (E53 k) (S53 k) Try.f53 x = spec_l02Lasting.g k (fun a0 a1 a2 a3 a4 => loopF (E53 k) (S53 k) Try.f53 p53_0 [] k (n53_0 a0 a1 a2 a3 a4)) x := by kernel_rfl
  rw [h]
  rw [show (fun a0 a1 a2 a3 a4 => loopF (E53 k) (S53 k) Try.f53 p53_0 [] k (n53_0 a0 a1 a2 a3 a4)) = spec_l02Lasting.l0 k k from funext fun a0 => funext fun a1 => funext fun a2 => funext fun a3 => funext fun a4 => q53_0 k k (a0, a1, a2, a3, a4)]
  rfl
theorem M53 (k : Nat) : Meets Try.prog 53 (S53 k) := meets_of Try.func53 (by kernel_rfl) tbOk (orc_cons (M76 k) (orc_cons (M82 k) (orc_cons (M90 k) (orc_cons (M63 k) (orc_cons (M58 k) orc_nil))))) mixOk (fun x y h => (e53 k x).trans h) rfl

/-! spec_CountLasting: function 16 -/
noncomputable def spec_CountLasting.s0 (k : Nat) (r0 : (List Bool) → Int → Int → Int → Option (Int × Int)) (x5 : List Bool) (x6 : Int) (x16 : Int) (x17 : Int) : Option (Int × Int) := if x17 < x16 then (if 0 ≤ x17 then (if x17 < (x5.length : Int) then (if (rdOf false x5 x17) = true then (r0 x5 (wrap64 (x6 + 1)) x16 (wrap64 (x17 + 1))) else (r0 x5 x6 x16 (wrap64 (x17 + 1)))) else (none)) else (none)) else (some (x6, 0))
noncomputable def spec_CountLasting.l0 (k : Nat) : Nat → (List Bool) → Int → Int → Int → Option (Int × Int)
  | 0, _, _, _, _ => none
  | n + 1, x0, x1, x2, x3 => spec_CountLasting.s0 k (spec_CountLasting.l0 k n) x0 x1 x2 x3
noncomputable def spec_CountLasting.g (k : Nat) (r0 : (List Bool) → Int → Int → Int → Option (Int × Int)) (l0_0 : List Int) : Option (Int × Int) := (spec_l02Few.f k l0_0).bind fun t1 => if t1 = 0 then ((spec_l02Lasting.f k l0_0).bind fun t2 => r0 t2 0 (t2.length : Int) 0) else (some (0, t1))
noncomputable def spec_CountLasting.f (k : Nat) (l0_0 : List Int) : Option (Int × Int) := spec_CountLasting.g k (spec_CountLasting.l0 k k) l0_0
noncomputable def S16 (k : Nat) : Does := ⟨[(true, [.dat (.list (.int .i64))])], [(false, [.dat (.int .i64)]), (false, [.dat (.int .i64)])], fun x => spec_CountLasting.f k x⟩
noncomputable def E16 (k : Nat) : En := ⟨tb, orcOf [(52, S52 k), (53, S53 k)], lvOf [(0, [(5, []), (6, []), (16, []), (17, [])])], k, 0, lvOf [], []⟩
noncomputable def n16_0 (x5 : List Bool) (x6 : Int) (x16 : Int) (x17 : Int) : St := ⟨28, lookA [(5, .own 0), (6, .dat (.int .i64) x6), (16, .dat (.int .i64) x16), (17, .dat (.int .i64) x17)], Go.V.look [(0, .flat 4 .bool x5)]⟩
def p16_0 : List Bool := [true, true, true, false, true, false]
theorem r16_0 (k : Nat) (rec : St → Option (Int × Int)) (v : (List Bool) × Int × Int × Int) : roundF (E16 k) (S16 k) Try.f16 p16_0 [] rec (n16_0 v.1 v.2.1 v.2.2.1 v.2.2.2) = spec_CountLasting.s0 k (fun a0 a1 a2 a3 => rec (n16_0 a0 a1 a2 a3)) v.1 v.2.1 v.2.2.1 v.2.2.2 := by
  kernel_rfl
theorem q16_0 (k : Nat) (n : Nat) : ∀ v : (List Bool) × Int × Int × Int, loopF (E16 k) (S16 k) Try.f16 p16_0 [] n (n16_0 v.1 v.2.1 v.2.2.1 v.2.2.2) = spec_CountLasting.l0 k n v.1 v.2.1 v.2.2.1 v.2.2.2 :=
  loopF_eq (E16 k) (S16 k) Try.f16 p16_0 [] (fun v : (List Bool) × Int × Int × Int => n16_0 v.1 v.2.1 v.2.2.1 v.2.2.2) (fun rec v => spec_CountLasting.s0 k (fun a0 a1 a2 a3 => rec (a0, a1, a2, a3)) v.1 v.2.1 v.2.2.1 v.2.2.2) (fun n v => spec_CountLasting.l0 k n v.1 v.2.1 v.2.2.1 v.2.2.2) (fun _ => rfl) (fun _ _ => rfl) (fun rec v => r16_0 k rec v) n
theorem e16 (k : Nat) (x : dens (flatC (S16 k).ps)) : funK (E16 k) (S16 k) Try.f16 x = (S16 k).fn x := by
  have h : funK (E16 k) (S16 k) Try.f16 x = spec_CountLasting.g k (fun a0 a1 a2 a3 => loopF (E16 k) (S16 k) Try.f16 p16_0 [] k (n16_0 a0 a1 a2 a3)) x := by kernel_rfl
  rw [h]
  rw [show (fun a0 a1 a2 a3 => loopF (E16 k) (S16 k) Try.f16 p16_0 [] k (n16_0 a0 a1 a2 a3)) = spec_CountLasting.l0 k k from funext fun a0 => funext fun a1 => funext fun a2 => funext fun a3 => q16_0 k k (a0, a1, a2, a3)]
  rfl
theorem M16 (k : Nat) : Meets Try.prog 16 (S16 k) := meets_of Try.func16 (by kernel_rfl) tbOk (orc_cons (M52 k) (orc_cons (M53 k) orc_nil)) mixOk (fun x y h => (e16 k x).trans h) rfl

/-! impl_length_int64: function 66 -/
noncomputable def impl_length_int64.f (l0 : List Int) : Option (Int) := some (l0.length : Int)
noncomputable def S66 (k : Nat) : Does := ⟨[(false, [.dat (.list (.int .i64))])], [(false, [.dat (.int .i64)])], fun x => impl_length_int64.f x⟩
noncomputable def E66 (k : Nat) : En := ⟨tb, orcOf [], lvOf [], k, 0, lvOf [], []⟩
theorem e66 (k : Nat) (x : dens (flatC (S66 k).ps)) : funK (E66 k) (S66 k) Try.f66 x = (S66 k).fn x := by
  kernel_rfl
theorem M66 (k : Nat) : Meets Try.prog 66 (S66 k) := meets_of Try.func66 (by kernel_rfl) tbOk orc_nil mixOk (fun x y h => (e66 k x).trans h) rfl

/-! impl_within: function 104 -/
noncomputable def impl_within.f (a0 : Int) (a1 : Int) (a2 : Int) : Option (Bool) := if a1 ≤ a0 then (some (decide (a0 ≤ a2))) else (some false)
noncomputable def S104 (k : Nat) : Does := ⟨[(false, [.dat (.int .i64)]), (false, [.dat (.int .i64)]), (false, [.dat (.int .i64)])], [(false, [.dat .bool])], fun x => impl_within.f x.1 x.2.1 x.2.2⟩
noncomputable def E104 (k : Nat) : En := ⟨tb, orcOf [], lvOf [], k, 0, lvOf [], []⟩
theorem e104 (k : Nat) (x : dens (flatC (S104 k).ps)) : funK (E104 k) (S104 k) Try.f104 x = (S104 k).fn x := by
  kernel_rfl
theorem M104 (k : Nat) : Meets Try.prog 104 (S104 k) := meets_of Try.func104 (by kernel_rfl) tbOk orc_nil mixOk (fun x y h => (e104 k x).trans h) rfl

/-! impl_IsTasks_1: function 109 -/
noncomputable def impl_IsTasks_1.f (a0 : Int) : Option (Bool) := (impl_within.f a0 1 40).bind fun t1 => some t1
noncomputable def S109 (k : Nat) : Does := ⟨[(false, [.dat (.int .i64)])], [(false, [.dat .bool])], fun x => impl_IsTasks_1.f x⟩
noncomputable def E109 (k : Nat) : En := ⟨tb, orcOf [(104, S104 k)], lvOf [], k, 0, lvOf [], []⟩
theorem e109 (k : Nat) (x : dens (flatC (S109 k).ps)) : funK (E109 k) (S109 k) Try.f109 x = (S109 k).fn x := by
  kernel_rfl
theorem M109 (k : Nat) : Meets Try.prog 109 (S109 k) := meets_of Try.func109 (by kernel_rfl) tbOk (orc_cons (M104 k) orc_nil) mixOk (fun x y h => (e109 k x).trans h) rfl

/-! impl_areAll_int64_1_impl_IsTasks_1: function 107 -/
noncomputable def impl_areAll_int64_1_impl_IsTasks_1.f (a0 : Int) (a1 : Unit) : Option (Bool) := (impl_IsTasks_1.f a0).bind fun t1 => some (!decide (t1 = true))
noncomputable def S107_c109 (k : Nat) : Does := ⟨[(false, [.dat (.int .i64)]), (false, [.dat (.ptr (.clo 109 .unit))])], [(false, [.dat .bool])], fun x => impl_areAll_int64_1_impl_IsTasks_1.f x.1 x.2⟩
noncomputable def E107_c109 (k : Nat) : En := ⟨tb, orcOf [(109, S109 k)], lvOf [], k, 0, lvOf [], []⟩
theorem e107_c109 (k : Nat) (x : dens (flatC (S107_c109 k).ps)) : funK (E107_c109 k) (S107_c109 k) Try.f107 x = (S107_c109 k).fn x := by
  kernel_rfl
theorem M107_c109 (k : Nat) : Meets Try.prog 107 (S107_c109 k) := meets_of Try.func107 (by kernel_rfl) tbOk (orc_cons (M109 k) orc_nil) mixOk (fun x y h => (e107_c109 k x).trans h) rfl

/-! slices_IndexFunc_int64_int64_impl_areAll_int64_1_impl_IsTasks_1: function 117 -/
noncomputable def slices_IndexFunc_int64_int64_impl_areAll_int64_1_impl_IsTasks_1.s0 (k : Nat) (r0 : (List Int) → Unit → Int → Int → Option (Int)) (x0 : List Int) (x1 : Unit) (x7 : Int) (x8 : Int) : Option (Int) := if x8 < x7 then (if 0 ≤ x8 then (if x8 < (x0.length : Int) then ((impl_areAll_int64_1_impl_IsTasks_1.f (rd x0 x8) x1).bind fun t1 => if t1 = true then (some x8) else (r0 x0 x1 x7 (wrap64 (x8 + 1)))) else (none)) else (none)) else (some (-1))
noncomputable def slices_IndexFunc_int64_int64_impl_areAll_int64_1_impl_IsTasks_1.l0 (k : Nat) : Nat → (List Int) → Unit → Int → Int → Option (Int)
  | 0, _, _, _, _ => none
  | n + 1, x0, x1, x2, x3 => slices_IndexFunc_int64_int64_impl_areAll_int64_1_impl_IsTasks_1.s0 k (slices_IndexFunc_int64_int64_impl_areAll_int64_1_impl_IsTasks_1.l0 k n) x0 x1 x2 x3
noncomputable def slices_IndexFunc_int64_int64_impl_areAll_int64_1_impl_IsTasks_1.g (k : Nat) (r0 : (List Int) → Unit → Int → Int → Option (Int)) (l0 : List Int) (a1 : Unit) : Option (Int) := r0 l0 a1 (l0.length : Int) 0
noncomputable def slices_IndexFunc_int64_int64_impl_areAll_int64_1_impl_IsTasks_1.f (k : Nat) (l0 : List Int) (a1 : Unit) : Option (Int) := slices_IndexFunc_int64_int64_impl_areAll_int64_1_impl_IsTasks_1.g k (slices_IndexFunc_int64_int64_impl_areAll_int64_1_impl_IsTasks_1.l0 k k) l0 a1
noncomputable def S117_c107c109 (k : Nat) : Does := ⟨[(false, [.dat (.list (.int .i64))]), (false, [.dat (.clo 107 (.ptr (.clo 109 .unit)))])], [(false, [.dat (.int .i64)])], fun x => slices_IndexFunc_int64_int64_impl_areAll_int64_1_impl_IsTasks_1.f k x.1 x.2⟩
noncomputable def E117_c107c109 (k : Nat) : En := ⟨tb, orcOf [(107, S107_c109 k)], lvOf [(0, [(0, []), (1, []), (7, []), (8, [])])], k, 0, lvOf [], []⟩
noncomputable def n117_c107c109_0 (x0 : List Int) (x1 : Unit) (x7 : Int) (x8 : Int) : St := ⟨19, lookA [(0, .dat (.list (.int .i64)) x0), (1, .dat (.clo 107 (.ptr (.clo 109 .unit))) x1), (7, .dat (.int .i64) x7), (8, .dat (.int .i64) x8)], Go.V.look []⟩
def p117_c107c109_0 : List Bool := [true, false, true, false]
theorem r117_c107c109_0 (k : Nat) (rec : St → Option (Int)) (v : (List Int) × Unit × Int × Int) : roundF (E117_c107c109 k) (S117_c107c109 k) Try.f117 p117_c107c109_0 [] rec (n117_c107c109_0 v.1 v.2.1 v.2.2.1 v.2.2.2) = slices_IndexFunc_int64_int64_impl_areAll_int64_1_impl_IsTasks_1.s0 k (fun a0 a1 a2 a3 => rec (n117_c107c109_0 a0 a1 a2 a3)) v.1 v.2.1 v.2.2.1 v.2.2.2 := by
  kernel_rfl
theorem q117_c107c109_0 (k : Nat) (n : Nat) : ∀ v : (List Int) × Unit × Int × Int, loopF (E117_c107c109 k) (S117_c107c109 k) Try.f117 p117_c107c109_0 [] n (n117_c107c109_0 v.1 v.2.1 v.2.2.1 v.2.2.2) = slices_IndexFunc_int64_int64_impl_areAll_int64_1_impl_IsTasks_1.l0 k n v.1 v.2.1 v.2.2.1 v.2.2.2 :=
  loopF_eq (E117_c107c109 k) (S117_c107c109 k) Try.f117 p117_c107c109_0 [] (fun v : (List Int) × Unit × Int × Int => n117_c107c109_0 v.1 v.2.1 v.2.2.1 v.2.2.2) (fun rec v => slices_IndexFunc_int64_int64_impl_areAll_int64_1_impl_IsTasks_1.s0 k (fun a0 a1 a2 a3 => rec (a0, a1, a2, a3)) v.1 v.2.1 v.2.2.1 v.2.2.2) (fun n v => slices_IndexFunc_int64_int64_impl_areAll_int64_1_impl_IsTasks_1.l0 k n v.1 v.2.1 v.2.2.1 v.2.2.2) (fun _ => rfl) (fun _ _ => rfl) (fun rec v => r117_c107c109_0 k rec v) n
theorem e117_c107c109 (k : Nat) (x : dens (flatC (S117_c107c109 k).ps)) : funK (E117_c107c109 k) (S117_c107c109 k) Try.f117 x = (S117_c107c109 k).fn x := by
  have h : funK (E117_c107c109 k) (S117_c107c109 k) Try.f117 x = slices_IndexFunc_int64_int64_impl_areAll_int64_1_impl_IsTasks_1.g k (fun a0 a1 a2 a3 => loopF (E117_c107c109 k) (S117_c107c109 k) Try.f117 p117_c107c109_0 [] k (n117_c107c109_0 a0 a1 a2 a3)) x.1 x.2 := by kernel_rfl
  rw [h]
  rw [show (fun a0 a1 a2 a3 => loopF (E117_c107c109 k) (S117_c107c109 k) Try.f117 p117_c107c109_0 [] k (n117_c107c109_0 a0 a1 a2 a3)) = slices_IndexFunc_int64_int64_impl_areAll_int64_1_impl_IsTasks_1.l0 k k from funext fun a0 => funext fun a1 => funext fun a2 => funext fun a3 => q117_c107c109_0 k k (a0, a1, a2, a3)]
  rfl
theorem M117_c107c109 (k : Nat) : Meets Try.prog 117 (S117_c107c109 k) := meets_of Try.func117 (by kernel_rfl) tbOk (orc_cons (M107_c109 k) orc_nil) mixOk (fun x y h => (e117_c107c109 k x).trans h) rfl

/-! slices_ContainsFunc_int64_int64_impl_areAll_int64_1_impl_IsTasks_1: function 106 -/
noncomputable def slices_ContainsFunc_int64_int64_impl_areAll_int64_1_impl_IsTasks_1.f (k : Nat) (l0 : List Int) (a1 : Unit) : Option (Bool) := (slices_IndexFunc_int64_int64_impl_areAll_int64_1_impl_IsTasks_1.f k l0 a1).bind fun t1 => some (decide (0 ≤ t1))
noncomputable def S106_c107c109 (k : Nat) : Does := ⟨[(false, [.dat (.list (.int .i64))]), (false, [.dat (.clo 107 (.ptr (.clo 109 .unit)))])], [(false, [.dat .bool])], fun x => slices_ContainsFunc_int64_int64_impl_areAll_int64_1_impl_IsTasks_1.f k x.1 x.2⟩
noncomputable def E106_c107c109 (k : Nat) : En := ⟨tb, orcOf [(117, S117_c107c109 k)], lvOf [], k, 0, lvOf [], []⟩
theorem e106_c107c109 (k : Nat) (x : dens (flatC (S106_c107c109 k).ps)) : funK (E106_c107c109 k) (S106_c107c109 k) Try.f106 x = (S106_c107c109 k).fn x := by
  kernel_rfl
theorem M106_c107c109 (k : Nat) : Meets Try.prog 106 (S106_c107c109 k) := meets_of Try.func106 (by kernel_rfl) tbOk (orc_cons (M117_c107c109 k) orc_nil) mixOk (fun x y h => (e106_c107c109 k x).trans h) rfl

/-! impl_areAll_int64_impl_IsTasks_1: function 64 -/
noncomputable def impl_areAll_int64_impl_IsTasks_1.f (k : Nat) (l0 : List Int) (a1 : Unit) : Option (Bool) := (slices_ContainsFunc_int64_int64_impl_areAll_int64_1_impl_IsTasks_1.f k l0 a1).bind fun t1 => some (!decide (t1 = true))
noncomputable def S64_c109 (k : Nat) : Does := ⟨[(false, [.dat (.list (.int .i64))]), (false, [.dat (.clo 109 .unit)])], [(false, [.dat .bool])], fun x => impl_areAll_int64_impl_IsTasks_1.f k x.1 x.2⟩
noncomputable def E64_c109 (k : Nat) : En := ⟨tb, orcOf [(106, S106_c107c109 k)], lvOf [], k, 0, lvOf [], []⟩
theorem e64_c109 (k : Nat) (x : dens (flatC (S64_c109 k).ps)) : funK (E64_c109 k) (S64_c109 k) Try.f64 x = (S64_c109 k).fn x := by
  kernel_rfl
theorem M64_c109 (k : Nat) : Meets Try.prog 64 (S64_c109 k) := meets_of Try.func64 (by kernel_rfl) tbOk (orc_cons (M106_c107c109 k) orc_nil) mixOk (fun x y h => (e64_c109 k x).trans h) rfl

/-! impl_IsTasks: function 80 -/
noncomputable def impl_IsTasks.f (k : Nat) (l0_0 : List Int) : Option (Bool) := (impl_length_int64.f l0_0).bind fun t1 => (impl_within.f t1 1 8).bind fun t2 => if t2 = true then ((impl_areAll_int64_impl_IsTasks_1.f k l0_0 ()).bind fun t3 => some t3) else (some false)
noncomputable def S80 (k : Nat) : Does := ⟨[(true, [.dat (.list (.int .i64))])], [(false, [.dat .bool])], fun x => impl_IsTasks.f k x⟩
noncomputable def E80 (k : Nat) : En := ⟨tb, orcOf [(66, S66 k), (104, S104 k), (64, S64_c109 k)], lvOf [], k, 0, lvOf [], []⟩
theorem e80 (k : Nat) (x : dens (flatC (S80 k).ps)) : funK (E80 k) (S80 k) Try.f80 x = (S80 k).fn x := by
  kernel_rfl
theorem M80 (k : Nat) : Meets Try.prog 80 (S80 k) := meets_of Try.func80 (by kernel_rfl) tbOk (orc_cons (M66 k) (orc_cons (M104 k) (orc_cons (M64_c109 k) orc_nil))) mixOk (fun x y h => (e80 k x).trans h) rfl

/-! impl_tasksCode: function 101 -/
noncomputable def impl_tasksCode.f (k : Nat) (l0_0 : List Int) (a1 : Bool) : Option (Int) := (impl_IsTasks.f k l0_0).bind fun t1 => if (!decide (t1 = true)) = true then (some 1) else (if (!decide (a1 = true)) = true then (some 2) else (some 0))
noncomputable def S101 (k : Nat) : Does := ⟨[(true, [.dat (.list (.int .i64))]), (false, [.dat .bool])], [(false, [.dat (.int .i64)])], fun x => impl_tasksCode.f k x.1 x.2⟩
noncomputable def E101 (k : Nat) : En := ⟨tb, orcOf [(80, S80 k)], lvOf [], k, 0, lvOf [], []⟩
theorem e101 (k : Nat) (x : dens (flatC (S101 k).ps)) : funK (E101 k) (S101 k) Try.f101 x = (S101 k).fn x := by
  kernel_rfl
theorem M101 (k : Nat) : Meets Try.prog 101 (S101 k) := meets_of Try.func101 (by kernel_rfl) tbOk (orc_cons (M80 k) orc_nil) mixOk (fun x y h => (e101 k x).trans h) rfl

/-! impl_Tasks_states: function 81 -/
noncomputable def impl_Tasks_states.s0 (k : Nat) (r0 : Int → (List Int) → Int → Int → Option (Int)) (x3 : Int) (x7 : List Int) (x8 : Int) (x9 : Int) : Option (Int) := if x9 < x8 then (if 0 ≤ x9 then (if x9 < (x7.length : Int) then (r0 (wrap64 (x3 * (rd x7 x9))) x7 x8 (wrap64 (x9 + 1))) else (none)) else (none)) else (some x3)
noncomputable def impl_Tasks_states.l0 (k : Nat) : Nat → Int → (List Int) → Int → Int → Option (Int)
  | 0, _, _, _, _ => none
  | n + 1, x0, x1, x2, x3 => impl_Tasks_states.s0 k (impl_Tasks_states.l0 k n) x0 x1 x2 x3
noncomputable def impl_Tasks_states.g (k : Nat) (r0 : Int → (List Int) → Int → Int → Option (Int)) (l0_0 : List Int) : Option (Int) := r0 1 l0_0 (l0_0.length : Int) 0
noncomputable def impl_Tasks_states.f (k : Nat) (l0_0 : List Int) : Option (Int) := impl_Tasks_states.g k (impl_Tasks_states.l0 k k) l0_0
noncomputable def S81 (k : Nat) : Does := ⟨[(true, [.dat (.list (.int .i64))])], [(false, [.dat (.int .i64)])], fun x => impl_Tasks_states.f k x⟩
noncomputable def E81 (k : Nat) : En := ⟨tb, orcOf [], lvOf [(0, [(3, []), (7, []), (8, []), (9, [])])], k, 0, lvOf [], []⟩
noncomputable def n81_0 (x3 : Int) (x7 : List Int) (x8 : Int) (x9 : Int) : St := ⟨18, lookA [(3, .dat (.int .i64) x3), (7, .dat (.list (.int .i64)) x7), (8, .dat (.int .i64) x8), (9, .dat (.int .i64) x9)], Go.V.look []⟩
def p81_0 : List Bool := [true, true, false, true, false]
theorem r81_0 (k : Nat) (rec : St → Option (Int)) (v : Int × (List Int) × Int × Int) : roundF (E81 k) (S81 k) Try.f81 p81_0 [] rec (n81_0 v.1 v.2.1 v.2.2.1 v.2.2.2) = impl_Tasks_states.s0 k (fun a0 a1 a2 a3 => rec (n81_0 a0 a1 a2 a3)) v.1 v.2.1 v.2.2.1 v.2.2.2 := by
  kernel_rfl
theorem q81_0 (k : Nat) (n : Nat) : ∀ v : Int × (List Int) × Int × Int, loopF (E81 k) (S81 k) Try.f81 p81_0 [] n (n81_0 v.1 v.2.1 v.2.2.1 v.2.2.2) = impl_Tasks_states.l0 k n v.1 v.2.1 v.2.2.1 v.2.2.2 :=
  loopF_eq (E81 k) (S81 k) Try.f81 p81_0 [] (fun v : Int × (List Int) × Int × Int => n81_0 v.1 v.2.1 v.2.2.1 v.2.2.2) (fun rec v => impl_Tasks_states.s0 k (fun a0 a1 a2 a3 => rec (a0, a1, a2, a3)) v.1 v.2.1 v.2.2.1 v.2.2.2) (fun n v => impl_Tasks_states.l0 k n v.1 v.2.1 v.2.2.1 v.2.2.2) (fun _ => rfl) (fun _ _ => rfl) (fun rec v => r81_0 k rec v) n
theorem e81 (k : Nat) (x : dens (flatC (S81 k).ps)) : funK (E81 k) (S81 k) Try.f81 x = (S81 k).fn x := by
  have h : funK (E81 k) (S81 k) Try.f81 x = impl_Tasks_states.g k (fun a0 a1 a2 a3 => loopF (E81 k) (S81 k) Try.f81 p81_0 [] k (n81_0 a0 a1 a2 a3)) x := by kernel_rfl
  rw [h]
  rw [show (fun a0 a1 a2 a3 => loopF (E81 k) (S81 k) Try.f81 p81_0 [] k (n81_0 a0 a1 a2 a3)) = impl_Tasks_states.l0 k k from funext fun a0 => funext fun a1 => funext fun a2 => funext fun a3 => q81_0 k k (a0, a1, a2, a3)]
  rfl
theorem M81 (k : Nat) : Meets Try.prog 81 (S81 k) := meets_of Try.func81 (by kernel_rfl) tbOk orc_nil mixOk (fun x y h => (e81 k x).trans h) rfl

/-! impl_statesCode: function 54 -/
noncomputable def impl_statesCode.f (k : Nat) (l0_0 : List Int) (a1 : Bool) : Option (Int) := (impl_tasksCode.f k l0_0 a1).bind fun t1 => if t1 = 0 then ((impl_Tasks_states.f k l0_0).bind fun t2 => if 4000 < t2 then (some 3) else (some 0)) else (some t1)
noncomputable def S54 (k : Nat) : Does := ⟨[(true, [.dat (.list (.int .i64))]), (false, [.dat .bool])], [(false, [.dat (.int .i64)])], fun x => impl_statesCode.f k x.1 x.2⟩
noncomputable def E54 (k : Nat) : En := ⟨tb, orcOf [(101, S101 k), (81, S81 k)], lvOf [], k, 0, lvOf [], []⟩
theorem e54 (k : Nat) (x : dens (flatC (S54 k).ps)) : funK (E54 k) (S54 k) Try.f54 x = (S54 k).fn x := by
  kernel_rfl
theorem M54 (k : Nat) : Meets Try.prog 54 (S54 k) := meets_of Try.func54 (by kernel_rfl) tbOk (orc_cons (M101 k) (orc_cons (M81 k) orc_nil)) mixOk (fun x y h => (e54 k x).trans h) rfl

/-! impl_Tasks_many: function 102 -/
noncomputable def impl_Tasks_many.f (l0_0 : List Int) : Option (Int) := (impl_length_int64.f l0_0).bind fun t1 => some t1
noncomputable def S102 (k : Nat) : Does := ⟨[(true, [.dat (.list (.int .i64))])], [(false, [.dat (.int .i64)])], fun x => impl_Tasks_many.f x⟩
noncomputable def E102 (k : Nat) : En := ⟨tb, orcOf [(66, S66 k)], lvOf [], k, 0, lvOf [], []⟩
theorem e102 (k : Nat) (x : dens (flatC (S102 k).ps)) : funK (E102 k) (S102 k) Try.f102 x = (S102 k).fn x := by
  kernel_rfl
theorem M102 (k : Nat) : Meets Try.prog 102 (S102 k) := meets_of Try.func102 (by kernel_rfl) tbOk (orc_cons (M66 k) orc_nil) mixOk (fun x y h => (e102 k x).trans h) rfl

/-! impl_Tasks_numbered: function 86 -/
noncomputable def impl_Tasks_numbered.s0 (k : Nat) (r0 : Int → (List Int) → (List Int) → Int → Option ((List Int))) (x1 : Int) (x2_0 : List Int) (x5 : List Int) (x6 : Int) : Option ((List Int)) := if 0 ≤ x6 then (if 0 ≤ x6 then (if x6 < (x2_0.length : Int) then (if (rd x2_0 x6) = 0 then (none) else (if 0 ≤ x6 then (if x6 < (x5.length : Int) then (if 0 ≤ x6 then (if x6 < (x2_0.length : Int) then (if (rd x2_0 x6) = 0 then (none) else (r0 (wrap64 (Int.tdiv x1 (rd x2_0 x6))) x2_0 (x5.set x6.toNat (wrap64 ((Int.tmod x1 (rd x2_0 x6)) + 1))) (wrap64 (x6 - 1)))) else (none)) else (none)) else (none)) else (none))) else (none)) else (none)) else (some x5)
noncomputable def impl_Tasks_numbered.l0 (k : Nat) : Nat → Int → (List Int) → (List Int) → Int → Option ((List Int))
  | 0, _, _, _, _ => none
  | n + 1, x0, x1, x2, x3 => impl_Tasks_numbered.s0 k (impl_Tasks_numbered.l0 k n) x0 x1 x2 x3
noncomputable def impl_Tasks_numbered.g (k : Nat) (r0 : Int → (List Int) → (List Int) → Int → Option ((List Int))) (l0_0 : List Int) (a1 : Int) : Option ((List Int)) := (impl_Tasks_many.f l0_0).bind fun t1 => if 0 ≤ t1 then (if t1 ≤ t1 then (if t1.toNat ≤ 1099511627776 then ((impl_Tasks_many.f l0_0).bind fun t2 => r0 a1 l0_0 (List.replicate t1.toNat (0 : Int)) (wrap64 (t2 - 1))) else (none)) else (none)) else (none)
noncomputable def impl_Tasks_numbered.f (k : Nat) (l0_0 : List Int) (a1 : Int) : Option ((List Int)) := impl_Tasks_numbered.g k (impl_Tasks_numbered.l0 k k) l0_0 a1
noncomputable def S86 (k : Nat) : Does := ⟨[(true, [.dat (.list (.int .i64))]), (false, [.dat (.int .i64)])], [(false, [.own 2 (.int .i64)])], fun x => impl_Tasks_numbered.f k x.1 x.2⟩
noncomputable def E86 (k : Nat) : En := ⟨tb, orcOf [(102, S102 k)], lvOf [(0, [(1, []), (2, []), (5, []), (6, [])])], k, 0, lvOf [], []⟩
noncomputable def n86_0 (x1 : Int) (x2_0 : List Int) (x5 : List Int) (x6 : Int) : St := ⟨36, lookA [(1, .dat (.int .i64) x1), (2, .box 0 0), (5, .own 1), (6, .dat (.int .i64) x6)], Go.V.look [(0, .cells [.dat (.list (.int .i64)) x2_0]), (1, .flat 2 (.int .i64) x5)]⟩
def p86_0 : List Bool := [true, true, false, true, false]
theorem r86_0 (k : Nat) (rec : St → Option ((List Int))) (v : Int × (List Int) × (List Int) × Int) : roundF (E86 k) (S86 k) Try.f86 p86_0 [] rec (n86_0 v.1 v.2.1 v.2.2.1 v.2.2.2) = impl_Tasks_numbered.s0 k (fun a0 a1 a2 a3 => rec (n86_0 a0 a1 a2 a3)) v.1 v.2.1 v.2.2.1 v.2.2.2 := by
  kernel_rfl
theorem q86_0 (k : Nat) (n : Nat) : ∀ v : Int × (List Int) × (List Int) × Int, loopF (E86 k) (S86 k) Try.f86 p86_0 [] n (n86_0 v.1 v.2.1 v.2.2.1 v.2.2.2) = impl_Tasks_numbered.l0 k n v.1 v.2.1 v.2.2.1 v.2.2.2 :=
  loopF_eq (E86 k) (S86 k) Try.f86 p86_0 [] (fun v : Int × (List Int) × (List Int) × Int => n86_0 v.1 v.2.1 v.2.2.1 v.2.2.2) (fun rec v => impl_Tasks_numbered.s0 k (fun a0 a1 a2 a3 => rec (a0, a1, a2, a3)) v.1 v.2.1 v.2.2.1 v.2.2.2) (fun n v => impl_Tasks_numbered.l0 k n v.1 v.2.1 v.2.2.1 v.2.2.2) (fun _ => rfl) (fun _ _ => rfl) (fun rec v => r86_0 k rec v) n
theorem e86 (k : Nat) (x : dens (flatC (S86 k).ps)) : funK (E86 k) (S86 k) Try.f86 x = (S86 k).fn x := by
  have h : funK (E86 k) (S86 k) Try.f86 x = impl_Tasks_numbered.g k (fun a0 a1 a2 a3 => loopF (E86 k) (S86 k) Try.f86 p86_0 [] k (n86_0 a0 a1 a2 a3)) x.1 x.2 := by kernel_rfl
  rw [h]
  rw [show (fun a0 a1 a2 a3 => loopF (E86 k) (S86 k) Try.f86 p86_0 [] k (n86_0 a0 a1 a2 a3)) = impl_Tasks_numbered.l0 k k from funext fun a0 => funext fun a1 => funext fun a2 => funext fun a3 => q86_0 k k (a0, a1, a2, a3)]
  rfl
theorem M86 (k : Nat) : Meets Try.prog 86 (S86 k) := meets_of Try.func86 (by kernel_rfl) tbOk (orc_cons (M102 k) orc_nil) mixOk (fun x y h => (e86 k x).trans h) rfl

/-! slices_Clone_int64_int64: function 71 -/
def slices_Clone_int64_int64.f (l : List Int) : Option (List Int) := if l.length = 0 then some [] else if 0 + l.length ≤ 1099511627776 then some ([] ++ l) else none
def S71 (k : Nat) : Does := ⟨[(false, [.dat (.list (.int .i64))])], [(false, [.own 2 (.int .i64)])], fun x => slices_Clone_int64_int64.f x⟩
def E71 : En := ⟨tb, orcOf [], lvOf [], 0, 0, lvOf [], []⟩
theorem slices_Clone_int64_int64.e (l : List Int) (h : l.length ≠ 0) : slices_Clone_int64_int64.f l = (if l.length = 0 then none else if 0 + l.length ≤ 1099511627776 then some ([] ++ l) else none) := by
  unfold slices_Clone_int64_int64.f; rw [if_neg h, if_neg h]
theorem M71 (k : Nat) : Meets Try.prog 71 (S71 k) := by
  refine meets_nil (E := E71) (t := (.int .i64)) (rs := [(false, [.own 2 (.int .i64)])]) (F := slices_Clone_int64_int64.f) Try.func71 (by kernel_rfl) tbOk orc_nil mixOk rfl rfl rfl (fun l hl => ?_) (by kernel_rfl) (by kernel_rfl)
  refine Eq.trans ?_ (slices_Clone_int64_int64.e l hl).symm
  kernel_rfl

/-! impl_Tasks_step: function 103 -/
noncomputable def impl_Tasks_step.s0 (k : Nat) (r0 : Int → (List Int) → (List Int) → Int → Int → Option ((List Int) × Bool)) (x2 : Int) (x3_0 : List Int) (x8 : List Int) (x13 : Int) (x14 : Int) : Option ((List Int) × Bool) := if x14 < x13 then (if (decide (x14 = x2)) = true then (if 0 ≤ x14 then (if x14 < (x3_0.length : Int) then (if 0 ≤ x14 then (if x14 < (x8.length : Int) then (r0 x2 x3_0 (x8.set x14.toNat (rd x3_0 x14)) x13 (wrap64 (x14 + 1))) else (none)) else (none)) else (none)) else (none)) else (if 0 ≤ x14 then (if x14 < (x8.length : Int) then (if (decide ((rd x8 x14) < 2)) = true then (some ([], false)) else (if 0 ≤ x14 then (if x14 < (x8.length : Int) then (if 0 ≤ x14 then (if x14 < (x8.length : Int) then (r0 x2 x3_0 (x8.set x14.toNat (wrap64 ((rd x8 x14) - 1))) x13 (wrap64 (x14 + 1))) else (none)) else (none)) else (none)) else (none))) else (none)) else (none))) else (some (x8, true))
noncomputable def impl_Tasks_step.l0 (k : Nat) : Nat → Int → (List Int) → (List Int) → Int → Int → Option ((List Int) × Bool)
  | 0, _, _, _, _, _ => none
  | n + 1, x0, x1, x2, x3, x4 => impl_Tasks_step.s0 k (impl_Tasks_step.l0 k n) x0 x1 x2 x3 x4
noncomputable def impl_Tasks_step.g (k : Nat) (r0 : Int → (List Int) → (List Int) → Int → Int → Option ((List Int) × Bool)) (l0_0 : List Int) (l1 : List Int) (a2 : Int) : Option ((List Int) × Bool) := (slices_Clone_int64_int64.f l1).bind fun t1 => r0 a2 l0_0 t1 (t1.length : Int) 0
noncomputable def impl_Tasks_step.f (k : Nat) (l0_0 : List Int) (l1 : List Int) (a2 : Int) : Option ((List Int) × Bool) := impl_Tasks_step.g k (impl_Tasks_step.l0 k k) l0_0 l1 a2
noncomputable def S103 (k : Nat) : Does := ⟨[(true, [.dat (.list (.int .i64))]), (false, [.dat (.list (.int .i64))]), (false, [.dat (.int .i64)])], [(false, [.own 2 (.int .i64)]), (false, [.dat .bool])], fun x => impl_Tasks_step.f k x.1 x.2.1 x.2.2⟩
noncomputable def E103 (k : Nat) : En := ⟨tb, orcOf [(71, S71 k)], lvOf [(0, [(2, []), (3, []), (8, []), (13, []), (14, [])])], k, 0, lvOf [], []⟩
noncomputable def n103_0 (x2 : Int) (x3_0 : List Int) (x8 : List Int) (x13 : Int) (x14 : Int) : St := ⟨43, lookA [(2, .dat (.int .i64) x2), (3, .box 0 0), (8, .own 1), (13, .dat (.int .i64) x13), (14, .dat (.int .i64) x14)], Go.V.look [(0, .cells [.dat (.list (.int .i64)) x3_0]), (1, .flat 2 (.int .i64) x8)]⟩
def p103_0 : List Bool := [true, true, false, true, false]
theorem r103_0 (k : Nat) (rec : St → Option ((List Int) × Bool)) (v : Int × (List Int) × (List Int) × Int × Int) : roundF (E103 k) (S103 k) Try.f103 p103_0 [] rec (n103_0 v.1 v.2.1 v.2.2.1 v.2.2.2.1 v.2.2.2.2) = impl_Tasks_step.s0 k (fun a0 a1 a2 a3 a4 => rec (n103_0 a0 a1 a2 a3 a4)) v.1 v.2.1 v.2.2.1 v.2.2.2.1 v.2.2.2.2 := by
  kernel_rfl
theorem q103_0 (k : Nat) (n : Nat) : ∀ v : Int × (List Int) × (List Int) × Int × Int, loopF (E103 k) (S103 k) Try.f103 p103_0 [] n (n103_0 v.1 v.2.1 v.2.2.1 v.2.2.2.1 v.2.2.2.2) = impl_Tasks_step.l0 k n v.1 v.2.1 v.2.2.1 v.2.2.2.1 v.2.2.2.2 :=
  loopF_eq (E103 k) (S103 k) Try.f103 p103_0 [] (fun v : Int × (List Int) × (List Int) × Int × Int => n103_0 v.1 v.2.1 v.2.2.1 v.2.2.2.1 v.2.2.2.2) (fun rec v => impl_Tasks_step.s0 k (fun a0 a1 a2 a3 a4 => rec (a0, a1, a2, a3, a4)) v.1 v.2.1 v.2.2.1 v.2.2.2.1 v.2.2.2.2) (fun n v => impl_Tasks_step.l0 k n v.1 v.2.1 v.2.2.1 v.2.2.2.1 v.2.2.2.2) (fun _ => rfl) (fun _ _ => rfl) (fun rec v => r103_0 k rec v) n
theorem e103 (k : Nat) (x : dens (flatC (S103 k).ps)) : funK (E103 k) (S103 k) Try.f103 x = (S103 k).fn x := by
  have h : funK (E103 k) (S103 k) Try.f103 x = impl_Tasks_step.g k (fun a0 a1 a2 a3 a4 => loopF (E103 k) (S103 k) Try.f103 p103_0 [] k (n103_0 a0 a1 a2 a3 a4)) x.1 x.2.1 x.2.2 := by kernel_rfl
  rw [h]
  rw [show (fun a0 a1 a2 a3 a4 => loopF (E103 k) (S103 k) Try.f103 p103_0 [] k (n103_0 a0 a1 a2 a3 a4)) = impl_Tasks_step.l0 k k from funext fun a0 => funext fun a1 => funext fun a2 => funext fun a3 => funext fun a4 => q103_0 k k (a0, a1, a2, a3, a4)]
  rfl
theorem M103 (k : Nat) : Meets Try.prog 103 (S103 k) := meets_of Try.func103 (by kernel_rfl) tbOk (orc_cons (M71 k) orc_nil) mixOk (fun x y h => (e103 k x).trans h) rfl

/-! impl_Tasks_number: function 60 -/
noncomputable def impl_Tasks_number.s0 (k : Nat) (r0 : (List Int) → Int → (List Int) → Int → Int → Option (Int)) (x2_0 : List Int) (x5 : Int) (x8 : List Int) (x9 : Int) (x10 : Int) : Option (Int) := if x10 < x9 then (if 0 ≤ x10 then (if x10 < (x8.length : Int) then (if 0 ≤ x10 then (if x10 < (x2_0.length : Int) then (r0 x2_0 (wrap64 ((wrap64 ((wrap64 (x5 * (rd x2_0 x10))) + (rd x8 x10))) - 1)) x8 x9 (wrap64 (x10 + 1))) else (none)) else (none)) else (none)) else (none)) else (some x5)
noncomputable def impl_Tasks_number.l0 (k : Nat) : Nat → (List Int) → Int → (List Int) → Int → Int → Option (Int)
  | 0, _, _, _, _, _ => none
  | n + 1, x0, x1, x2, x3, x4 => impl_Tasks_number.s0 k (impl_Tasks_number.l0 k n) x0 x1 x2 x3 x4
noncomputable def impl_Tasks_number.g (k : Nat) (r0 : (List Int) → Int → (List Int) → Int → Int → Option (Int)) (l0_0 : List Int) (l1 : List Int) : Option (Int) := r0 l0_0 0 l1 (l1.length : Int) 0
noncomputable def impl_Tasks_number.f (k : Nat) (l0_0 : List Int) (l1 : List Int) : Option (Int) := impl_Tasks_number.g k (impl_Tasks_number.l0 k k) l0_0 l1
noncomputable def S60 (k : Nat) : Does := ⟨[(true, [.dat (.list (.int .i64))]), (false, [.dat (.list (.int .i64))])], [(false, [.dat (.int .i64)])], fun x => impl_Tasks_number.f k x.1 x.2⟩
noncomputable def E60 (k : Nat) : En := ⟨tb, orcOf [], lvOf [(0, [(2, []), (5, []), (8, []), (9, []), (10, [])])], k, 0, lvOf [], []⟩
noncomputable def n60_0 (x2_0 : List Int) (x5 : Int) (x8 : List Int) (x9 : Int) (x10 : Int) : St := ⟨27, lookA [(2, .box 0 0), (5, .dat (.int .i64) x5), (8, .dat (.list (.int .i64)) x8), (9, .dat (.int .i64) x9), (10, .dat (.int .i64) x10)], Go.V.look [(0, .cells [.dat (.list (.int .i64)) x2_0])]⟩
def p60_0 : List Bool := [true, true, false, true, false]
theorem r60_0 (k : Nat) (rec : St → Option (Int)) (v : (List Int) × Int × (List Int) × Int × Int) : roundF (E60 k) (S60 k) Try.f60 p60_0 [] rec (n60_0 v.1 v.2.1 v.2.2.1 v.2.2.2.1 v.2.2.2.2) = impl_Tasks_number.s0 k (fun a0 a1 a2 a3 a4 => rec (n60_0 a0 a1 a2 a3 a4)) v.1 v.2.1 v.2.2.1 v.2.2.2.1 v.2.2.2.2 := by
  kernel_rfl
theorem q60_0 (k : Nat) (n : Nat) : ∀ v : (List Int) × Int × (List Int) × Int × Int, loopF (E60 k) (S60 k) Try.f60 p60_0 [] n (n60_0 v.1 v.2.1 v.2.2.1 v.2.2.2.1 v.2.2.2.2) = impl_Tasks_number.l0 k n v.1 v.2.1 v.2.2.1 v.2.2.2.1 v.2.2.2.2 :=
  loopF_eq (E60 k) (S60 k) Try.f60 p60_0 [] (fun v : (List Int) × Int × (List Int) × Int × Int => n60_0 v.1 v.2.1 v.2.2.1 v.2.2.2.1 v.2.2.2.2) (fun rec v => impl_Tasks_number.s0 k (fun a0 a1 a2 a3 a4 => rec (a0, a1, a2, a3, a4)) v.1 v.2.1 v.2.2.1 v.2.2.2.1 v.2.2.2.2) (fun n v => impl_Tasks_number.l0 k n v.1 v.2.1 v.2.2.1 v.2.2.2.1 v.2.2.2.2) (fun _ => rfl) (fun _ _ => rfl) (fun rec v => r60_0 k rec v) n
theorem e60 (k : Nat) (x : dens (flatC (S60 k).ps)) : funK (E60 k) (S60 k) Try.f60 x = (S60 k).fn x := by
  have h : funK (E60 k) (S60 k) Try.f60 x = impl_Tasks_number.g k (fun a0 a1 a2 a3 a4 => loopF (E60 k) (S60 k) Try.f60 p60_0 [] k (n60_0 a0 a1 a2 a3 a4)) x.1 x.2 := by kernel_rfl
  rw [h]
  rw [show (fun a0 a1 a2 a3 a4 => loopF (E60 k) (S60 k) Try.f60 p60_0 [] k (n60_0 a0 a1 a2 a3 a4)) = impl_Tasks_number.l0 k k from funext fun a0 => funext fun a1 => funext fun a2 => funext fun a3 => funext fun a4 => q60_0 k k (a0, a1, a2, a3, a4)]
  rfl
theorem M60 (k : Nat) : Meets Try.prog 60 (S60 k) := meets_of Try.func60 (by kernel_rfl) tbOk orc_nil mixOk (fun x y h => (e60 k x).trans h) rfl

/-! impl_graph_keeping: function 72 -/
noncomputable def impl_graph_keeping.s0 (k : Nat) (r0 : ((List Int) × (List (List (Int × Int))) × (List Bool)) → Int → (List Int) → Int → Option ((List Int))) (x0 : (List Int) × (List (List (Int × Int))) × (List Bool)) (x1 : Int) (x5 : List Int) (x6 : Int) : Option ((List Int)) := (impl_Tasks_many.f x0.1).bind fun t1 => if x6 < t1 then (if 0 ≤ x1 then (if x1 < (x0.2.1.length : Int) then (if (mgI (rdOf ([] : List (Int × Int)) x0.2.1 x1) x6).isSome = true then (if 0 ≤ ((mgI (rdOf ([] : List (Int × Int)) x0.2.1 x1) x6).getD 0) then (if ((mgI (rdOf ([] : List (Int × Int)) x0.2.1 x1) x6).getD 0) < (x0.2.2.length : Int) then (if (rdOf false x0.2.2 ((mgI (rdOf ([] : List (Int × Int)) x0.2.1 x1) x6).getD 0)) = true then (if x5.length + 1 ≤ 1099511627776 then (r0 x0 x1 (x5 ++ [x6]) (wrap64 (x6 + 1))) else (none)) else (r0 x0 x1 x5 (wrap64 (x6 + 1)))) else (none)) else (none)) else (r0 x0 x1 x5 (wrap64 (x6 + 1)))) else (none)) else (none)) else (some x5)
noncomputable def impl_graph_keeping.l0 (k : Nat) : Nat → ((List Int) × (List (List (Int × Int))) × (List Bool)) → Int → (List Int) → Int → Option ((List Int))
  | 0, _, _, _, _ => none
  | n + 1, x0, x1, x2, x3 => impl_graph_keeping.s0 k (impl_graph_keeping.l0 k n) x0 x1 x2 x3
noncomputable def impl_graph_keeping.g (k : Nat) (r0 : ((List Int) × (List (List (Int × Int))) × (List Bool)) → Int → (List Int) → Int → Option ((List Int))) (a0 : (List Int) × (List (List (Int × Int))) × (List Bool)) (a1 : Int) : Option ((List Int)) := r0 a0 a1 [] (-1)
noncomputable def impl_graph_keeping.f (k : Nat) (a0 : (List Int) × (List (List (Int × Int))) × (List Bool)) (a1 : Int) : Option ((List Int)) := impl_graph_keeping.g k (impl_graph_keeping.l0 k k) a0 a1
noncomputable def S72 (k : Nat) : Does := ⟨[(false, [.dat (.ptr (.struct (.pair (.struct (.list (.int .i64))) (.pair (.list (.map (.int .i64) (.int .i64))) (.list .bool)))))]), (false, [.dat (.int .i64)])], [(false, [.own 2 (.int .i64)])], fun x => impl_graph_keeping.f k x.1 x.2⟩
noncomputable def E72 (k : Nat) : En := ⟨tb, orcOf [(102, S102 k)], lvOf [(0, [(0, []), (1, []), (5, [.nil 2 (.int .i64)]), (6, [])])], k, 0, lvOf [], []⟩
noncomputable def n72_0 (x0 : (List Int) × (List (List (Int × Int))) × (List Bool)) (x1 : Int) (x5 : List Int) (x6 : Int) : St := ⟨45, lookA [(0, .dp (.struct (.pair (.struct (.list (.int .i64))) (.pair (.list (.map (.int .i64) (.int .i64))) (.list .bool)))) x0), (1, .dat (.int .i64) x1), (5, .own 0), (6, .dat (.int .i64) x6)], Go.V.look [(0, .flat 2 (.int .i64) x5)]⟩
def p72_0 : List Bool := [true, true, false, true, false]
theorem r72_0 (k : Nat) (rec : St → Option ((List Int))) (v : ((List Int) × (List (List (Int × Int))) × (List Bool)) × Int × (List Int) × Int) : roundF (E72 k) (S72 k) Try.f72 p72_0 [] rec (n72_0 v.1 v.2.1 v.2.2.1 v.2.2.2) = impl_graph_keeping.s0 k (fun a0 a1 a2 a3 => rec (n72_0 a0 a1 a2 a3)) v.1 v.2.1 v.2.2.1 v.2.2.2 := by
  kernel_rfl
theorem q72_0 (k : Nat) (n : Nat) : ∀ v : ((List Int) × (List (List (Int × Int))) × (List Bool)) × Int × (List Int) × Int, loopF (E72 k) (S72 k) Try.f72 p72_0 [] n (n72_0 v.1 v.2.1 v.2.2.1 v.2.2.2) = impl_graph_keeping.l0 k n v.1 v.2.1 v.2.2.1 v.2.2.2 :=
  loopF_eq (E72 k) (S72 k) Try.f72 p72_0 [] (fun v : ((List Int) × (List (List (Int × Int))) × (List Bool)) × Int × (List Int) × Int => n72_0 v.1 v.2.1 v.2.2.1 v.2.2.2) (fun rec v => impl_graph_keeping.s0 k (fun a0 a1 a2 a3 => rec (a0, a1, a2, a3)) v.1 v.2.1 v.2.2.1 v.2.2.2) (fun n v => impl_graph_keeping.l0 k n v.1 v.2.1 v.2.2.1 v.2.2.2) (fun _ => rfl) (fun _ _ => rfl) (fun rec v => r72_0 k rec v) n
theorem e72 (k : Nat) (x : dens (flatC (S72 k).ps)) : funK (E72 k) (S72 k) Try.f72 x = (S72 k).fn x := by
  have h : funK (E72 k) (S72 k) Try.f72 x = impl_graph_keeping.g k (fun a0 a1 a2 a3 => loopF (E72 k) (S72 k) Try.f72 p72_0 [] k (n72_0 a0 a1 a2 a3)) x.1 x.2 := by kernel_rfl
  rw [h]
  rw [show (fun a0 a1 a2 a3 => loopF (E72 k) (S72 k) Try.f72 p72_0 [] k (n72_0 a0 a1 a2 a3)) = impl_graph_keeping.l0 k k from funext fun a0 => funext fun a1 => funext fun a2 => funext fun a3 => q72_0 k k (a0, a1, a2, a3)]
  rfl
theorem M72 (k : Nat) : Meets Try.prog 72 (S72 k) := meets_of Try.func72 (by kernel_rfl) tbOk (orc_cons (M102 k) orc_nil) mixOk (fun x y h => (e72 k x).trans h) rfl

/-! impl_graphOf: function 55 -/
noncomputable def impl_graphOf.s3 (k : Nat) (r2 : (List Int) → (List (List (Int × Int))) → (List Bool) → Bool → Option (((List Int) × (List (List (Int × Int))) × (List Bool)))) (r3 : (List Int) → (List (List (Int × Int))) → (List Bool) → Bool → Int → Int → Option (((List Int) × (List (List (Int × Int))) × (List Bool)))) (x3_0 : List Int) (x3_1 : List (List (Int × Int))) (x3_2 : List Bool) (x9 : Bool) (x67 : Int) (x68 : Int) : Option (((List Int) × (List (List (Int × Int))) × (List Bool))) := if x68 < x67 then (if 0 ≤ x68 then (if x68 < (x3_2.length : Int) then (if (rdOf false x3_2 x68) = true then ((impl_graph_keeping.f k (x3_0, x3_1, x3_2) x68).bind fun t6 => if (t6.length : Int) = 0 then (if 0 ≤ x68 then (if x68 < (x3_2.length : Int) then (r3 x3_0 x3_1 (x3_2.set x68.toNat false) true x67 (wrap64 (x68 + 1))) else (none)) else (none)) else (r3 x3_0 x3_1 x3_2 x9 x67 (wrap64 (x68 + 1)))) else (r3 x3_0 x3_1 x3_2 x9 x67 (wrap64 (x68 + 1)))) else (none)) else (none)) else (r2 x3_0 x3_1 x3_2 x9)
noncomputable def impl_graphOf.l3 (k : Nat) (r2 : (List Int) → (List (List (Int × Int))) → (List Bool) → Bool → Option (((List Int) × (List (List (Int × Int))) × (List Bool)))) : Nat → (List Int) → (List (List (Int × Int))) → (List Bool) → Bool → Int → Int → Option (((List Int) × (List (List (Int × Int))) × (List Bool)))
  | 0, _, _, _, _, _, _ => none
  | n + 1, x0, x1, x2, x3, x4, x5 => impl_graphOf.s3 k r2 (impl_graphOf.l3 k r2 n) x0 x1 x2 x3 x4 x5
noncomputable def impl_graphOf.s2 (k : Nat) (r2 : (List Int) → (List (List (Int × Int))) → (List Bool) → Bool → Option (((List Int) × (List (List (Int × Int))) × (List Bool)))) (r3 : (List Int) → (List (List (Int × Int))) → (List Bool) → Bool → Int → Int → Option (((List Int) × (List (List (Int × Int))) × (List Bool)))) (x3_0 : List Int) (x3_1 : List (List (Int × Int))) (x3_2 : List Bool) (x9 : Bool) : Option (((List Int) × (List (List (Int × Int))) × (List Bool))) := if x9 = true then (r3 x3_0 x3_1 x3_2 false (x3_2.length : Int) 0) else (some (x3_0, x3_1, x3_2))
noncomputable def impl_graphOf.l2 (k : Nat) : Nat → (List Int) → (List (List (Int × Int))) → (List Bool) → Bool → Option (((List Int) × (List (List (Int × Int))) × (List Bool)))
  | 0, _, _, _, _ => none
  | n + 1, x0, x1, x2, x3 => impl_graphOf.s2 k (impl_graphOf.l2 k n) (impl_graphOf.l3 k (impl_graphOf.l2 k n) k) x0 x1 x2 x3
noncomputable def impl_graphOf.s1 (k : Nat) (r0 : (List Int) → (List Int) → (List (List (Int × Int))) → (List Bool) → Int → Int → Option (((List Int) × (List (List (Int × Int))) × (List Bool)))) (r1 : (List Int) → (List Int) → (List (List (Int × Int))) → (List Bool) → Int → (List (Int × Int)) → Int → Int → Int → Option (((List Int) × (List (List (Int × Int))) × (List Bool)))) (x1_0 : List Int) (x3_0 : List Int) (x3_1 : List (List (Int × Int))) (x3_2 : List Bool) (x4 : Int) (x5 : List (Int × Int)) (x6 : Int) (x16 : Int) (x17 : Int) : Option (((List Int) × (List (List (Int × Int))) × (List Bool))) := (impl_Tasks_many.f x1_0).bind fun t2 => if x6 < t2 then ((impl_Tasks_numbered.f k x1_0 x4).bind fun t3 => (impl_Tasks_step.f k x1_0 t3 x6).bind fun t4 => if t4.2 = true then ((impl_Tasks_number.f k x1_0 t4.1).bind fun t5 => r1 x1_0 x3_0 x3_1 x3_2 x4 (mpI x5 x6 t5) (wrap64 (x6 + 1)) x16 x17) else (r1 x1_0 x3_0 x3_1 x3_2 x4 x5 (wrap64 (x6 + 1)) x16 x17)) else (if x3_1.length + 1 ≤ 1099511627776 then (if x3_2.length + 1 ≤ 1099511627776 then (r0 x1_0 x3_0 (x3_1 ++ [x5]) (x3_2 ++ [true]) x16 (wrap64 (x17 + 1))) else (none)) else (none))
noncomputable def impl_graphOf.l1 (k : Nat) (r0 : (List Int) → (List Int) → (List (List (Int × Int))) → (List Bool) → Int → Int → Option (((List Int) × (List (List (Int × Int))) × (List Bool)))) : Nat → (List Int) → (List Int) → (List (List (Int × Int))) → (List Bool) → Int → (List (Int × Int)) → Int → Int → Int → Option (((List Int) × (List (List (Int × Int))) × (List Bool)))
  | 0, _, _, _, _, _, _, _, _, _ => none
  | n + 1, x0, x1, x2, x3, x4, x5, x6, x7, x8 => impl_graphOf.s1 k r0 (impl_graphOf.l1 k r0 n) x0 x1 x2 x3 x4 x5 x6 x7 x8
noncomputable def impl_graphOf.s0 (k : Nat) (r0 : (List Int) → (List Int) → (List (List (Int × Int))) → (List Bool) → Int → Int → Option (((List Int) × (List (List (Int × Int))) × (List Bool)))) (r1 : (List Int) → (List Int) → (List (List (Int × Int))) → (List Bool) → Int → (List (Int × Int)) → Int → Int → Int → Option (((List Int) × (List (List (Int × Int))) × (List Bool)))) (r2 : (List Int) → (List (List (Int × Int))) → (List Bool) → Bool → Option (((List Int) × (List (List (Int × Int))) × (List Bool)))) (x1_0 : List Int) (x3_0 : List Int) (x3_1 : List (List (Int × Int))) (x3_2 : List Bool) (x16 : Int) (x17 : Int) : Option (((List Int) × (List (List (Int × Int))) × (List Bool))) := if x17 < x16 then (r1 x1_0 x3_0 x3_1 x3_2 x17 [] (-1) x16 x17) else (r2 x3_0 x3_1 x3_2 true)
noncomputable def impl_graphOf.l0 (k : Nat) : Nat → (List Int) → (List Int) → (List (List (Int × Int))) → (List Bool) → Int → Int → Option (((List Int) × (List (List (Int × Int))) × (List Bool)))
  | 0, _, _, _, _, _, _ => none
  | n + 1, x0, x1, x2, x3, x4, x5 => impl_graphOf.s0 k (impl_graphOf.l0 k n) (impl_graphOf.l1 k (impl_graphOf.l0 k n) k) (impl_graphOf.l2 k k) x0 x1 x2 x3 x4 x5
noncomputable def impl_graphOf.g (k : Nat) (r0 : (List Int) → (List Int) → (List (List (Int × Int))) → (List Bool) → Int → Int → Option (((List Int) × (List (List (Int × Int))) × (List Bool)))) (l0_0 : List Int) : Option (((List Int) × (List (List (Int × Int))) × (List Bool))) := (impl_Tasks_states.f k l0_0).bind fun t1 => r0 l0_0 l0_0 [] [] t1 0
noncomputable def impl_graphOf.f (k : Nat) (l0_0 : List Int) : Option (((List Int) × (List (List (Int × Int))) × (List Bool))) := impl_graphOf.g k (impl_graphOf.l0 k k) l0_0
noncomputable def S55 (k : Nat) : Does := ⟨[(true, [.dat (.list (.int .i64))])], [(false, [.dat (.ptr (.struct (.pair (.struct (.list (.int .i64))) (.pair (.list (.map (.int .i64) (.int .i64))) (.list .bool)))))])], fun x => impl_graphOf.f k x⟩
noncomputable def E55 (k : Nat) : En := ⟨tb, orcOf [(81, S81 k), (102, S102 k), (86, S86 k), (103, S103 k), (60, S60 k), (72, S72 k)], lvOf [(0, [(1, []), (3, [.cell 1 83 (.map (.int .i64) (.int .i64)), .cell 2 4 .bool]), (16, []), (17, [])]), (2, [(1, []), (3, []), (4, []), (5, []), (6, []), (16, []), (17, [])]), (4, [(3, []), (9, [])]), (6, [(3, []), (9, []), (66, []), (67, []), (68, [])])], k, 0, lvOf [], []⟩
noncomputable def n55_0 (x1_0 : List Int) (x3_0 : List Int) (x3_1 : List (List (Int × Int))) (x3_2 : List Bool) (x16 : Int) (x17 : Int) : St := ⟨89, lookA [(1, .box 0 0), (3, .box 1 0), (16, .dat (.int .i64) x16), (17, .dat (.int .i64) x17)], Go.V.look [(0, .cells [.dat (.list (.int .i64)) x1_0]), (1, .cells [.dat (.list (.int .i64)) x3_0, .own 2, .own 3]), (2, .flat 83 (.map (.int .i64) (.int .i64)) x3_1), (3, .flat 4 .bool x3_2)]⟩
def p55_0 : List Bool := [true, true, false, true, false]
noncomputable def n55_1 (x1_0 : List Int) (x3_0 : List Int) (x3_1 : List (List (Int × Int))) (x3_2 : List Bool) (x4 : Int) (x5 : List (Int × Int)) (x6 : Int) (x16 : Int) (x17 : Int) : St := ⟨89, lookA [(1, .box 0 0), (3, .box 1 0), (4, .dat (.int .i64) x4), (5, .om 2), (6, .dat (.int .i64) x6), (16, .dat (.int .i64) x16), (17, .dat (.int .i64) x17)], Go.V.look [(0, .cells [.dat (.list (.int .i64)) x1_0]), (1, .cells [.dat (.list (.int .i64)) x3_0, .own 3, .own 4]), (2, .mp (.int .i64) (.int .i64) x5), (3, .flat 83 (.map (.int .i64) (.int .i64)) x3_1), (4, .flat 4 .bool x3_2)]⟩
def p55_1 : List Bool := [true, true, false, true, false, false, true, true, false, false, true, true, false, true, false]
noncomputable def n55_2 (x3_0 : List Int) (x3_1 : List (List (Int × Int))) (x3_2 : List Bool) (x9 : Bool) : St := ⟨89, lookA [(3, .box 0 0), (9, .dat .bool x9)], Go.V.look [(0, .cells [.dat (.list (.int .i64)) x3_0, .own 1, .own 2]), (1, .flat 83 (.map (.int .i64) (.int .i64)) x3_1), (2, .flat 4 .bool x3_2)]⟩
def p55_2 : List Bool := [true, true, true, false, true, false]
noncomputable def n55_3 (x3_0 : List Int) (x3_1 : List (List (Int × Int))) (x3_2 : List Bool) (x9 : Bool) (x67 : Int) (x68 : Int) : St := ⟨89, lookA [(3, .box 0 0), (9, .dat .bool x9), (66, .own 1), (67, .dat (.int .i64) x67), (68, .dat (.int .i64) x68)], Go.V.look [(0, .cells [.dat (.list (.int .i64)) x3_0, .own 2, .own 1]), (1, .flat 4 .bool x3_2), (2, .flat 83 (.map (.int .i64) (.int .i64)) x3_1)]⟩
def p55_3 : List Bool := [true, true, true, false, true, false, false, true, false, true, true, false]
theorem r55_3 (k : Nat) (R2 : St → Option (((List Int) × (List (List (Int × Int))) × (List Bool)))) (rec : St → Option (((List Int) × (List (List (Int × Int))) × (List Bool)))) (v : (List Int) × (List (List (Int × Int))) × (List Bool) × Bool × Int × Int) : roundF (E55 k) (S55 k) Try.f55 p55_3 [R2] rec (n55_3 v.1 v.2.1 v.2.2.1 v.2.2.2.1 v.2.2.2.2.1 v.2.2.2.2.2) = impl_graphOf.s3 k (fun a0 a1 a2 a3 => R2 (n55_2 a0 a1 a2 a3)) (fun a0 a1 a2 a3 a4 a5 => rec (n55_3 a0 a1 a2 a3 a4 a5)) v.1 v.2.1 v.2.2.1 v.2.2.2.1 v.2.2.2.2.1 v.2.2.2.2.2 := by
  kernel_rfl
theorem q55_3 (k : Nat) (R2 : St → Option (((List Int) × (List (List (Int × Int))) × (List Bool)))) (n : Nat) : ∀ v : (List Int) × (List (List (Int × Int))) × (List Bool) × Bool × Int × Int, loopF (E55 k) (S55 k) Try.f55 p55_3 [R2] n (n55_3 v.1 v.2.1 v.2.2.1 v.2.2.2.1 v.2.2.2.2.1 v.2.2.2.2.2) = impl_graphOf.l3 k (fun a0 a1 a2 a3 => R2 (n55_2 a0 a1 a2 a3)) n v.1 v.2.1 v.2.2.1 v.2.2.2.1 v.2.2.2.2.1 v.2.2.2.2.2 :=
  loopF_eq (E55 k) (S55 k) Try.f55 p55_3 [R2] (fun v : (List Int) × (List (List (Int × Int))) × (List Bool) × Bool × Int × Int => n55_3 v.1 v.2.1 v.2.2.1 v.2.2.2.1 v.2.2.2.2.1 v.2.2.2.2.2) (fun rec v => impl_graphOf.s3 k (fun a0 a1 a2 a3 => R2 (n55_2 a0 a1 a2 a3)) (fun a0 a1 a2 a3 a4 a5 => rec (a0, a1, a2, a3, a4, a5)) v.1 v.2.1 v.2.2.1 v.2.2.2.1 v.2.2.2.2.1 v.2.2.2.2.2) (fun n v => impl_graphOf.l3 k (fun a0 a1 a2 a3 => R2 (n55_2 a0 a1 a2 a3)) n v.1 v.2.1 v.2.2.1 v.2.2.2.1 v.2.2.2.2.1 v.2.2.2.2.2) (fun _ => rfl) (fun _ _ => rfl) (fun rec v => r55_3 k R2 rec v) n
theorem r55_2 (k : Nat) (rec : St → Option (((List Int) × (List (List (Int × Int))) × (List Bool)))) (G3 : (List Int) → (List (List (Int × Int))) → (List Bool) → Bool → Int → Int → Option (((List Int) × (List (List (Int × Int))) × (List Bool)))) (h3 : ∀ a0 a1 a2 a3 a4 a5, loopF (E55 k) (S55 k) Try.f55 p55_3 [rec] k (n55_3 a0 a1 a2 a3 a4 a5) = G3 a0 a1 a2 a3 a4 a5) (v : (List Int) × (List (List (Int × Int))) × (List Bool) × Bool) : roundF (E55 k) (S55 k) Try.f55 p55_2 [] rec (n55_2 v.1 v.2.1 v.2.2.1 v.2.2.2) = impl_graphOf.s2 k (fun a0 a1 a2 a3 => rec (n55_2 a0 a1 a2 a3)) G3 v.1 v.2.1 v.2.2.1 v.2.2.2 := by
  obtain rfl : (fun a0 a1 a2 a3 a4 a5 => loopF (E55 k) (S55 k) Try.f55 p55_3 [rec] k (n55_3 a0 a1 a2 a3 a4 a5)) = G3 := funext fun a0 => funext fun a1 => funext fun a2 => funext fun a3 => funext fun a4 => funext fun a5 => h3 a0 a1 a2 a3 a4 a5
  kernel_rfl
theorem q55_2 (k : Nat) (n : Nat) : ∀ v : (List Int) × (List (List (Int × Int))) × (List Bool) × Bool, loopF (E55 k) (S55 k) Try.f55 p55_2 [] n (n55_2 v.1 v.2.1 v.2.2.1 v.2.2.2) = impl_graphOf.l2 k n v.1 v.2.1 v.2.2.1 v.2.2.2 :=
  loopF_eq (E55 k) (S55 k) Try.f55 p55_2 [] (fun v : (List Int) × (List (List (Int × Int))) × (List Bool) × Bool => n55_2 v.1 v.2.1 v.2.2.1 v.2.2.2) (fun rec v => impl_graphOf.s2 k (fun a0 a1 a2 a3 => rec (a0, a1, a2, a3)) (impl_graphOf.l3 k (fun a0 a1 a2 a3 => rec (a0, a1, a2, a3)) k) v.1 v.2.1 v.2.2.1 v.2.2.2) (fun n v => impl_graphOf.l2 k n v.1 v.2.1 v.2.2.1 v.2.2.2) (fun _ => rfl) (fun _ _ => rfl) (fun rec v => r55_2 k rec _ (fun a0 a1 a2 a3 a4 a5 => q55_3 k rec k (a0, a1, a2, a3, a4, a5)) v) n
theorem r55_1 (k : Nat) (R0 : St → Option (((List Int) × (List (List (Int × Int))) × (List Bool)))) (rec : St → Option (((List Int) × (List (List (Int × Int))) × (List Bool)))) (v : (List Int) × (List Int) × (List (List (Int × Int))) × (List Bool) × Int × (List (Int × Int)) × Int × Int × Int) : roundF (E55 k) (S55 k) Try.f55 p55_1 [R0] rec (n55_1 v.1 v.2.1 v.2.2.1 v.2.2.2.1 v.2.2.2.2.1 v.2.2.2.2.2.1 v.2.2.2.2.2.2.1 v.2.2.2.2.2.2.2.1 v.2.2.2.2.2.2.2.2) = impl_graphOf.s1 k (fun a0 a1 a2 a3 a4 a5 => R0 (n55_0 a0 a1 a2 a3 a4 a5)) (fun a0 a1 a2 a3 a4 a5 a6 a7 a8 => rec (n55_1 a0 a1 a2 a3 a4 a5 a6 a7 a8)) v.1 v.2.1 v.2.2.1 v.2.2.2.1 v.2.2.2.2.1 v.2.2.2.2.2.1 v.2.2.2.2.2.2.1 v.2.2.2.2.2.2.2.1 v.2.2.2.2.2.2.2.2 := by
  kernel_rfl
theorem q55_1 (k : Nat) (R0 : St → Option (((List Int) × (List (List (Int × Int))) × (List Bool)))) (n : Nat) : ∀ v : (List Int) × (List Int) × (List (List (Int × Int))) × (List Bool) × Int × (List (Int × Int)) × Int × Int × Int, loopF (E55 k) (S55 k) Try.f55 p55_1 [R0] n (n55_1 v.1 v.2.1 v.2.2.1 v.2.2.2.1 v.2.2.2.2.1 v.2.2.2.2.2.1 v.2.2.2.2.2.2.1 v.2.2.2.2.2.2.2.1 v.2.2.2.2.2.2.2.2) = impl_graphOf.l1 k (fun a0 a1 a2 a3 a4 a5 => R0 (n55_0 a0 a1 a2 a3 a4 a5)) n v.1 v.2.1 v.2.2.1 v.2.2.2.1 v.2.2.2.2.1 v.2.2.2.2.2.1 v.2.2.2.2.2.2.1 v.2.2.2.2.2.2.2.1 v.2.2.2.2.2.2.2.2 :=
  loopF_eq (E55 k) (S55 k) Try.f55 p55_1 [R0] (fun v : (List Int) × (List Int) × (List (List (Int × Int))) × (List Bool) × Int × (List (Int × Int)) × Int × Int × Int => n55_1 v.1 v.2.1 v.2.2.1 v.2.2.2.1 v.2.2.2.2.1 v.2.2.2.2.2.1 v.2.2.2.2.2.2.1 v.2.2.2.2.2.2.2.1 v.2.2.2.2.2.2.2.2) (fun rec v => impl_graphOf.s1 k (fun a0 a1 a2 a3 a4 a5 => R0 (n55_0 a0 a1 a2 a3 a4 a5)) (fun a0 a1 a2 a3 a4 a5 a6 a7 a8 => rec (a0, a1, a2, a3, a4, a5, a6, a7, a8)) v.1 v.2.1 v.2.2.1 v.2.2.2.1 v.2.2.2.2.1 v.2.2.2.2.2.1 v.2.2.2.2.2.2.1 v.2.2.2.2.2.2.2.1 v.2.2.2.2.2.2.2.2) (fun n v => impl_graphOf.l1 k (fun a0 a1 a2 a3 a4 a5 => R0 (n55_0 a0 a1 a2 a3 a4 a5)) n v.1 v.2.1 v.2.2.1 v.2.2.2.1 v.2.2.2.2.1 v.2.2.2.2.2.1 v.2.2.2.2.2.2.1 v.2.2.2.2.2.2.2.1 v.2.2.2.2.2.2.2.2) (fun _ => rfl) (fun _ _ => rfl) (fun rec v => r55_1 k R0 rec v) n
theorem r55_0 (k : Nat) (rec : St → Option (((List Int) × (List (List (Int × Int))) × (List Bool)))) (G1 : (List Int) → (List Int) → (List (List (Int × Int))) → (List Bool) → Int → (List (Int × Int)) → Int → Int → Int → Option (((List Int) × (List (List (Int × Int))) × (List Bool)))) (h1 : ∀ a0 a1 a2 a3 a4 a5 a6 a7 a8, loopF (E55 k) (S55 k) Try.f55 p55_1 [rec] k (n55_1 a0 a1 a2 a3 a4 a5 a6 a7 a8) = G1 a0 a1 a2 a3 a4 a5 a6 a7 a8) (G2 : (List Int) → (List (List (Int × Int))) → (List Bool) → Bool → Option (((List Int) × (List (List (Int × Int))) × (List Bool)))) (h2 : ∀ a0 a1 a2 a3, loopF (E55 k) (S55 k) Try.f55 p55_2 [] k (n55_2 a0 a1 a2 a3) = G2 a0 a1 a2 a3) (v : (List Int) × (List Int) × (List (List (Int × Int))) × (List Bool) × Int × Int) : roundF (E55 k) (S55 k) Try.f55 p55_0 [] rec (n55_0 v.1 v.2.1 v.2.2.1 v.2.2.2.1 v.2.2.2.2.1 v.2.2.2.2.2) = impl_graphOf.s0 k (fun a0 a1 a2 a3 a4 a5 => rec (n55_0 a0 a1 a2 a3 a4 a5)) G1 G2 v.1 v.2.1 v.2.2.1 v.2.2.2.1 v.2.2.2.2.1 v.2.2.2.2.2 := by
  obtain rfl : (fun a0 a1 a2 a3 a4 a5 a6 a7 a8 => loopF (E55 k) (S55 k) Try.f55 p55_1 [rec] k (n55_1 a0 a1 a2 a3 a4 a5 a6 a7 a8)) = G1 := funext fun a0 => funext fun a1 => funext fun a2 => funext fun a3 => funext fun a4 => funext fun a5 => funext fun a6 => funext fun a7 => funext fun a8 => h1 a0 a1 a2 a3 a4 a5 a6 a7 a8
  obtain rfl : (fun a0 a1 a2 a3 => loopF (E55 k) (S55 k) Try.f55 p55_2 [] k (n55_2 a0 a1 a2 a3)) = G2 := funext fun a0 => funext fun a1 => funext fun a2 => funext fun a3 => h2 a0 a1 a2 a3
  kernel_rfl
theorem q55_0 (k : Nat) (n : Nat) : ∀ v : (List Int) × (List Int) × (List (List (Int × Int))) × (List Bool) × Int × Int, loopF (E55 k) (S55 k) Try.f55 p55_0 [] n (n55_0 v.1 v.2.1 v.2.2.1 v.2.2.2.1 v.2.2.2.2.1 v.2.2.2.2.2) = impl_graphOf.l0 k n v.1 v.2.1 v.2.2.1 v.2.2.2.1 v.2.2.2.2.1 v.2.2.2.2.2 :=
  loopF_eq (E55 k) (S55 k) Try.f55 p55_0 [] (fun v : (List Int) × (List Int) × (List (List (Int × Int))) × (List Bool) × Int × Int => n55_0 v.1 v.2.1 v.2.2.1 v.2.2.2.1 v.2.2.2.2.1 v.2.2.2.2.2) (fun rec v => impl_graphOf.s0 k (fun a0 a1 a2 a3 a4 a5 => rec (a0, a1, a2, a3, a4, a5)) (impl_graphOf.l1 k (fun a0 a1 a2 a3 a4 a5 => rec (a0, a1, a2, a3, a4, a5)) k) (impl_graphOf.l2 k k) v.1 v.2.1 v.2.2.1 v.2.2.2.1 v.2.2.2.2.1 v.2.2.2.2.2) (fun n v => impl_graphOf.l0 k n v.1 v.2.1 v.2.2.1 v.2.2.2.1 v.2.2.2.2.1 v.2.2.2.2.2) (fun _ => rfl) (fun _ _ => rfl) (fun rec v => r55_0 k rec _ (fun a0 a1 a2 a3 a4 a5 a6 a7 a8 => q55_1 k rec k (a0, a1, a2, a3, a4, a5, a6, a7, a8)) _ (fun a0 a1 a2 a3 => q55_2 k k (a0, a1, a2, a3)) v) n
theorem e55 (k : Nat) (x : dens (flatC (S55 k).ps)) : funK (E55 k) (S55 k) Try.f55 x = (S55 k).fn x := by
  have h : funK (E55 k) (S55 k) Try.f55 x = impl_graphOf.g k (fun a0 a1 a2 a3 a4 a5 => loopF (E55 k) (S55 k) Try.f55 p55_0 [] k (n55_0 a0 a1 a2 a3 a4 a5)) x := by kernel_rfl
  rw [h]
  rw [show (fun a0 a1 a2 a3 a4 a5 => loopF (E55 k) (S55 k) Try.f55 p55_0 [] k (n55_0 a0 a1 a2 a3 a4 a5)) = impl_graphOf.l0 k k from funext fun a0 => funext fun a1 => funext fun a2 => funext fun a3 => funext fun a4 => funext fun a5 => q55_0 k k (a0, a1, a2, a3, a4, a5)]
  rfl
theorem M55 (k : Nat) : Meets Try.prog 55 (S55 k) := meets_of Try.func55 (by kernel_rfl) tbOk (orc_cons (M81 k) (orc_cons (M102 k) (orc_cons (M86 k) (orc_cons (M103 k) (orc_cons (M60 k) (orc_cons (M72 k) orc_nil)))))) mixOk (fun x y h => (e55 k x).trans h) rfl

/-! impl_CountLasting: function 18 -/
noncomputable def impl_CountLasting.s0 (k : Nat) (r0 : Int → (List Bool) → Int → Int → Option (Int × Int)) (x5 : Int) (x17 : List Bool) (x18 : Int) (x19 : Int) : Option (Int × Int) := if x19 < x18 then (if 0 ≤ x19 then (if x19 < (x17.length : Int) then (if (rdOf false x17 x19) = true then (r0 (wrap64 (x5 + 1)) x17 x18 (wrap64 (x19 + 1))) else (r0 x5 x17 x18 (wrap64 (x19 + 1)))) else (none)) else (none)) else (some (x5, 0))
noncomputable def impl_CountLasting.l0 (k : Nat) : Nat → Int → (List Bool) → Int → Int → Option (Int × Int)
  | 0, _, _, _, _ => none
  | n + 1, x0, x1, x2, x3 => impl_CountLasting.s0 k (impl_CountLasting.l0 k n) x0 x1 x2 x3
noncomputable def impl_CountLasting.g (k : Nat) (r0 : Int → (List Bool) → Int → Int → Option (Int × Int)) (l0_0 : List Int) : Option (Int × Int) := (impl_statesCode.f k l0_0 true).bind fun t1 => if t1 = 0 then ((impl_graphOf.f k l0_0).bind fun t2 => r0 0 t2.2.2 (t2.2.2.length : Int) 0) else (some (0, t1))
noncomputable def impl_CountLasting.f (k : Nat) (l0_0 : List Int) : Option (Int × Int) := impl_CountLasting.g k (impl_CountLasting.l0 k k) l0_0
noncomputable def S18 (k : Nat) : Does := ⟨[(true, [.dat (.list (.int .i64))])], [(false, [.dat (.int .i64)]), (false, [.dat (.int .i64)])], fun x => impl_CountLasting.f k x⟩
noncomputable def E18 (k : Nat) : En := ⟨tb, orcOf [(54, S54 k), (55, S55 k)], lvOf [(0, [(5, []), (17, []), (18, []), (19, [])])], k, 0, lvOf [], []⟩
noncomputable def n18_0 (x5 : Int) (x17 : List Bool) (x18 : Int) (x19 : Int) : St := ⟨28, lookA [(5, .dat (.int .i64) x5), (17, .dat (.list .bool) x17), (18, .dat (.int .i64) x18), (19, .dat (.int .i64) x19)], Go.V.look []⟩
def p18_0 : List Bool := [true, true, true, false, true, false]
theorem r18_0 (k : Nat) (rec : St → Option (Int × Int)) (v : Int × (List Bool) × Int × Int) : roundF (E18 k) (S18 k) Try.f18 p18_0 [] rec (n18_0 v.1 v.2.1 v.2.2.1 v.2.2.2) = impl_CountLasting.s0 k (fun a0 a1 a2 a3 => rec (n18_0 a0 a1 a2 a3)) v.1 v.2.1 v.2.2.1 v.2.2.2 := by
  kernel_rfl
theorem q18_0 (k : Nat) (n : Nat) : ∀ v : Int × (List Bool) × Int × Int, loopF (E18 k) (S18 k) Try.f18 p18_0 [] n (n18_0 v.1 v.2.1 v.2.2.1 v.2.2.2) = impl_CountLasting.l0 k n v.1 v.2.1 v.2.2.1 v.2.2.2 :=
  loopF_eq (E18 k) (S18 k) Try.f18 p18_0 [] (fun v : Int × (List Bool) × Int × Int => n18_0 v.1 v.2.1 v.2.2.1 v.2.2.2) (fun rec v => impl_CountLasting.s0 k (fun a0 a1 a2 a3 => rec (a0, a1, a2, a3)) v.1 v.2.1 v.2.2.1 v.2.2.2) (fun n v => impl_CountLasting.l0 k n v.1 v.2.1 v.2.2.1 v.2.2.2) (fun _ => rfl) (fun _ _ => rfl) (fun rec v => r18_0 k rec v) n
theorem e18 (k : Nat) (x : dens (flatC (S18 k).ps)) : funK (E18 k) (S18 k) Try.f18 x = (S18 k).fn x := by
  have h : funK (E18 k) (S18 k) Try.f18 x = impl_CountLasting.g k (fun a0 a1 a2 a3 => loopF (E18 k) (S18 k) Try.f18 p18_0 [] k (n18_0 a0 a1 a2 a3)) x := by kernel_rfl
  rw [h]
  rw [show (fun a0 a1 a2 a3 => loopF (E18 k) (S18 k) Try.f18 p18_0 [] k (n18_0 a0 a1 a2 a3)) = impl_CountLasting.l0 k k from funext fun a0 => funext fun a1 => funext fun a2 => funext fun a3 => q18_0 k k (a0, a1, a2, a3)]
  rfl
theorem M18 (k : Nat) : Meets Try.prog 18 (S18 k) := meets_of Try.func18 (by kernel_rfl) tbOk (orc_cons (M54 k) (orc_cons (M55 k) orc_nil)) mixOk (fun x y h => (e18 k x).trans h) rfl

/-! laws_eqInt64S: function 25 -/
noncomputable def laws_eqInt64S.s0 (k : Nat) (r0 : (List Int) → (List Int) → Int → Option (Bool)) (x0 : List Int) (x1 : List Int) (x5 : Int) : Option (Bool) := if x5 < (x0.length : Int) then (if 0 ≤ x5 then (if x5 < (x0.length : Int) then (if 0 ≤ x5 then (if x5 < (x1.length : Int) then (if (rd x0 x5) = (rd x1 x5) then (r0 x0 x1 (wrap64 (x5 + 1))) else (some false)) else (none)) else (none)) else (none)) else (none)) else (some true)
noncomputable def laws_eqInt64S.l0 (k : Nat) : Nat → (List Int) → (List Int) → Int → Option (Bool)
  | 0, _, _, _ => none
  | n + 1, x0, x1, x2 => laws_eqInt64S.s0 k (laws_eqInt64S.l0 k n) x0 x1 x2
noncomputable def laws_eqInt64S.g (k : Nat) (r0 : (List Int) → (List Int) → Int → Option (Bool)) (l0 : List Int) (l1 : List Int) : Option (Bool) := if (l0.length : Int) = (l1.length : Int) then (r0 l0 l1 0) else (some false)
noncomputable def laws_eqInt64S.f (k : Nat) (l0 : List Int) (l1 : List Int) : Option (Bool) := laws_eqInt64S.g k (laws_eqInt64S.l0 k k) l0 l1
noncomputable def S25 (k : Nat) : Does := ⟨[(false, [.dat (.list (.int .i64))]), (false, [.dat (.list (.int .i64))])], [(false, [.dat .bool])], fun x => laws_eqInt64S.f k x.1 x.2⟩
noncomputable def E25 (k : Nat) : En := ⟨tb, orcOf [], lvOf [(0, [(0, []), (1, []), (5, [])])], k, 0, lvOf [], []⟩
noncomputable def n25_0 (x0 : List Int) (x1 : List Int) (x5 : Int) : St := ⟨26, lookA [(0, .dat (.list (.int .i64)) x0), (1, .dat (.list (.int .i64)) x1), (5, .dat (.int .i64) x5)], Go.V.look []⟩
def p25_0 : List Bool := [true, true, false, true, false]
theorem r25_0 (k : Nat) (rec : St → Option (Bool)) (v : (List Int) × (List Int) × Int) : roundF (E25 k) (S25 k) Try.f25 p25_0 [] rec (n25_0 v.1 v.2.1 v.2.2) = laws_eqInt64S.s0 k (fun a0 a1 a2 => rec (n25_0 a0 a1 a2)) v.1 v.2.1 v.2.2 := by
  kernel_rfl
theorem q25_0 (k : Nat) (n : Nat) : ∀ v : (List Int) × (List Int) × Int, loopF (E25 k) (S25 k) Try.f25 p25_0 [] n (n25_0 v.1 v.2.1 v.2.2) = laws_eqInt64S.l0 k n v.1 v.2.1 v.2.2 :=
  loopF_eq (E25 k) (S25 k) Try.f25 p25_0 [] (fun v : (List Int) × (List Int) × Int => n25_0 v.1 v.2.1 v.2.2) (fun rec v => laws_eqInt64S.s0 k (fun a0 a1 a2 => rec (a0, a1, a2)) v.1 v.2.1 v.2.2) (fun n v => laws_eqInt64S.l0 k n v.1 v.2.1 v.2.2) (fun _ => rfl) (fun _ _ => rfl) (fun rec v => r25_0 k rec v) n
theorem e25 (k : Nat) (x : dens (flatC (S25 k).ps)) : funK (E25 k) (S25 k) Try.f25 x = (S25 k).fn x := by
  have h : funK (E25 k) (S25 k) Try.f25 x = laws_eqInt64S.g k (fun a0 a1 a2 => loopF (E25 k) (S25 k) Try.f25 p25_0 [] k (n25_0 a0 a1 a2)) x.1 x.2 := by kernel_rfl
  rw [h]
  rw [show (fun a0 a1 a2 => loopF (E25 k) (S25 k) Try.f25 p25_0 [] k (n25_0 a0 a1 a2)) = laws_eqInt64S.l0 k k from funext fun a0 => funext fun a1 => funext fun a2 => q25_0 k k (a0, a1, a2)]
  rfl
theorem M25 (k : Nat) : Meets Try.prog 25 (S25 k) := meets_of Try.func25 (by kernel_rfl) tbOk orc_nil mixOk (fun x y h => (e25 k x).trans h) rfl

/-! laws_eqTasks: function 19 -/
noncomputable def laws_eqTasks.f (k : Nat) (l0_0 : List Int) (l1_0 : List Int) : Option (Bool) := (laws_eqInt64S.f k l0_0 l1_0).bind fun t1 => if t1 = true then (some true) else (some false)
noncomputable def S19 (k : Nat) : Does := ⟨[(true, [.dat (.list (.int .i64))]), (true, [.dat (.list (.int .i64))])], [(false, [.dat .bool])], fun x => laws_eqTasks.f k x.1 x.2⟩
noncomputable def E19 (k : Nat) : En := ⟨tb, orcOf [(25, S25 k)], lvOf [], k, 0, lvOf [], []⟩
theorem e19 (k : Nat) (x : dens (flatC (S19 k).ps)) : funK (E19 k) (S19 k) Try.f19 x = (S19 k).fn x := by
  kernel_rfl
theorem M19 (k : Nat) : Meets Try.prog 19 (S19 k) := meets_of Try.func19 (by kernel_rfl) tbOk (orc_cons (M25 k) orc_nil) mixOk (fun x y h => (e19 k x).trans h) rfl

/-! laws_FnExactCountLasting: function 3 -/
noncomputable def laws_FnExactCountLasting.f (k : Nat) (l0_0 : List Int) : Option (Bool) := (laws_szTasks.f l0_0 1048576).bind fun t1 => if t1 < 0 then (some true) else ((laws_toTasks.f k l0_0).bind fun t2 => (spec_CountLasting.f k t2).bind fun t3 => (laws_toTasks.f k l0_0).bind fun t4 => (impl_CountLasting.f k t4).bind fun t5 => if t5.1 = t3.1 then (if t5.2 = t3.2 then ((laws_toTasks.f k l0_0).bind fun t6 => (laws_eqTasks.f k t4 t6).bind fun t7 => if t7 = true then (some true) else (some false)) else (some false)) else (some false))
noncomputable def S3 (k : Nat) : Does := ⟨[(true, [.dat (.list (.int .i64))])], [(false, [.dat .bool])], fun x => laws_FnExactCountLasting.f k x⟩
noncomputable def E3 (k : Nat) : En := ⟨tb, orcOf [(15, S15 k), (17, S17 k), (16, S16 k), (18, S18 k), (19, S19 k)], lvOf [], k, 0, lvOf [], []⟩
theorem e3 (k : Nat) (x : dens (flatC (S3 k).ps)) : funK (E3 k) (S3 k) Try.f3 x = (S3 k).fn x := by
  kernel_rfl
theorem M3 (k : Nat) : Meets Try.prog 3 (S3 k) := meets_of Try.func3 (by kernel_rfl) tbOk (orc_cons (M15 k) (orc_cons (M17 k) (orc_cons (M16 k) (orc_cons (M18 k) (orc_cons (M19 k) orc_nil))))) mixOk (fun x y h => (e3 k x).trans h) rfl

/-! spec_l02Can: function 56 -/
noncomputable def spec_l02Can.f (k : Nat) (l0_0 : List Int) : Option (Bool) := (spec_l02Lasting.f k l0_0).bind fun t1 => (spec_l02Count.f k l0_0).bind fun t2 => if 0 ≤ (wrap64 (t2 - 1)) then (if (wrap64 (t2 - 1)) < (t1.length : Int) then (some (rdOf false t1 (wrap64 (t2 - 1)))) else (none)) else (none)
noncomputable def S56 (k : Nat) : Does := ⟨[(true, [.dat (.list (.int .i64))])], [(false, [.dat .bool])], fun x => spec_l02Can.f k x⟩
noncomputable def E56 (k : Nat) : En := ⟨tb, orcOf [(53, S53 k), (76, S76 k)], lvOf [], k, 0, lvOf [], []⟩
theorem e56 (k : Nat) (x : dens (flatC (S56 k).ps)) : funK (E56 k) (S56 k) Try.f56 x = (S56 k).fn x := by
  kernel_rfl
theorem M56 (k : Nat) : Meets Try.prog 56 (S56 k) := meets_of Try.func56 (by kernel_rfl) tbOk (orc_cons (M53 k) (orc_cons (M76 k) orc_nil)) mixOk (fun x y h => (e56 k x).trans h) rfl

/-! spec_CanServe: function 20 -/
noncomputable def spec_CanServe.f (k : Nat) (l0_0 : List Int) : Option (Bool × Int) := (spec_l02Few.f k l0_0).bind fun t1 => if t1 = 0 then ((spec_l02Can.f k l0_0).bind fun t2 => some (t2, 0)) else (some (false, t1))
noncomputable def S20 (k : Nat) : Does := ⟨[(true, [.dat (.list (.int .i64))])], [(false, [.dat .bool]), (false, [.dat (.int .i64)])], fun x => spec_CanServe.f k x⟩
noncomputable def E20 (k : Nat) : En := ⟨tb, orcOf [(52, S52 k), (56, S56 k)], lvOf [], k, 0, lvOf [], []⟩
theorem e20 (k : Nat) (x : dens (flatC (S20 k).ps)) : funK (E20 k) (S20 k) Try.f20 x = (S20 k).fn x := by
  kernel_rfl
theorem M20 (k : Nat) : Meets Try.prog 20 (S20 k) := meets_of Try.func20 (by kernel_rfl) tbOk (orc_cons (M52 k) (orc_cons (M56 k) orc_nil)) mixOk (fun x y h => (e20 k x).trans h) rfl

/-! impl_Tasks_isState: function 59 -/
noncomputable def impl_Tasks_isState.s0 (k : Nat) (r0 : (List Int) → (List Int) → Int → Int → Option (Bool)) (x2_0 : List Int) (x12 : List Int) (x13 : Int) (x14 : Int) : Option (Bool) := if x14 < x13 then (if 0 ≤ x14 then (if x14 < (x12.length : Int) then (if 0 ≤ x14 then (if x14 < (x2_0.length : Int) then ((impl_within.f (rd x12 x14) 1 (rd x2_0 x14)).bind fun t3 => if t3 = true then (r0 x2_0 x12 x13 (wrap64 (x14 + 1))) else (some false)) else (none)) else (none)) else (none)) else (none)) else (some true)
noncomputable def impl_Tasks_isState.l0 (k : Nat) : Nat → (List Int) → (List Int) → Int → Int → Option (Bool)
  | 0, _, _, _, _ => none
  | n + 1, x0, x1, x2, x3 => impl_Tasks_isState.s0 k (impl_Tasks_isState.l0 k n) x0 x1 x2 x3
noncomputable def impl_Tasks_isState.g (k : Nat) (r0 : (List Int) → (List Int) → Int → Int → Option (Bool)) (l0_0 : List Int) (l1 : List Int) : Option (Bool) := (impl_length_int64.f l1).bind fun t1 => (impl_Tasks_many.f l0_0).bind fun t2 => if t1 = t2 then (r0 l0_0 l1 (l1.length : Int) 0) else (some false)
noncomputable def impl_Tasks_isState.f (k : Nat) (l0_0 : List Int) (l1 : List Int) : Option (Bool) := impl_Tasks_isState.g k (impl_Tasks_isState.l0 k k) l0_0 l1
noncomputable def S59 (k : Nat) : Does := ⟨[(true, [.dat (.list (.int .i64))]), (false, [.dat (.list (.int .i64))])], [(false, [.dat .bool])], fun x => impl_Tasks_isState.f k x.1 x.2⟩
noncomputable def E59 (k : Nat) : En := ⟨tb, orcOf [(66, S66 k), (102, S102 k), (104, S104 k)], lvOf [(0, [(2, []), (12, []), (13, []), (14, [])])], k, 0, lvOf [], []⟩
noncomputable def n59_0 (x2_0 : List Int) (x12 : List Int) (x13 : Int) (x14 : Int) : St := ⟨28, lookA [(2, .box 0 0), (12, .dat (.list (.int .i64)) x12), (13, .dat (.int .i64) x13), (14, .dat (.int .i64) x14)], Go.V.look [(0, .cells [.dat (.list (.int .i64)) x2_0])]⟩
def p59_0 : List Bool := [true, true, false, true, false]
theorem r59_0 (k : Nat) (rec : St → Option (Bool)) (v : (List Int) × (List Int) × Int × Int) : roundF (E59 k) (S59 k) Try.f59 p59_0 [] rec (n59_0 v.1 v.2.1 v.2.2.1 v.2.2.2) = impl_Tasks_isState.s0 k (fun a0 a1 a2 a3 => rec (n59_0 a0 a1 a2 a3)) v.1 v.2.1 v.2.2.1 v.2.2.2 := by
  kernel_rfl
theorem q59_0 (k : Nat) (n : Nat) : ∀ v : (List Int) × (List Int) × Int × Int, loopF (E59 k) (S59 k) Try.f59 p59_0 [] n (n59_0 v.1 v.2.1 v.2.2.1 v.2.2.2) = impl_Tasks_isState.l0 k n v.1 v.2.1 v.2.2.1 v.2.2.2 :=
  loopF_eq (E59 k) (S59 k) Try.f59 p59_0 [] (fun v : (List Int) × (List Int) × Int × Int => n59_0 v.1 v.2.1 v.2.2.1 v.2.2.2) (fun rec v => impl_Tasks_isState.s0 k (fun a0 a1 a2 a3 => rec (a0, a1, a2, a3)) v.1 v.2.1 v.2.2.1 v.2.2.2) (fun n v => impl_Tasks_isState.l0 k n v.1 v.2.1 v.2.2.1 v.2.2.2) (fun _ => rfl) (fun _ _ => rfl) (fun rec v => r59_0 k rec v) n
theorem e59 (k : Nat) (x : dens (flatC (S59 k).ps)) : funK (E59 k) (S59 k) Try.f59 x = (S59 k).fn x := by
  have h : funK (E59 k) (S59 k) Try.f59 x = impl_Tasks_isState.g k (fun a0 a1 a2 a3 => loopF (E59 k) (S59 k) Try.f59 p59_0 [] k (n59_0 a0 a1 a2 a3)) x.1 x.2 := by kernel_rfl
  rw [h]
  rw [show (fun a0 a1 a2 a3 => loopF (E59 k) (S59 k) Try.f59 p59_0 [] k (n59_0 a0 a1 a2 a3)) = impl_Tasks_isState.l0 k k from funext fun a0 => funext fun a1 => funext fun a2 => funext fun a3 => q59_0 k k (a0, a1, a2, a3)]
  rfl
theorem M59 (k : Nat) : Meets Try.prog 59 (S59 k) := meets_of Try.func59 (by kernel_rfl) tbOk (orc_cons (M66 k) (orc_cons (M102 k) (orc_cons (M104 k) orc_nil))) mixOk (fun x y h => (e59 k x).trans h) rfl

/-! impl_IsLasting: function 24 -/
noncomputable def impl_IsLasting.f (k : Nat) (l0_0 : List Int) (l1 : List Int) : Option (Bool × Int) := (impl_Tasks_isState.f k l0_0 l1).bind fun t1 => (impl_statesCode.f k l0_0 t1).bind fun t2 => if t2 = 0 then ((impl_graphOf.f k l0_0).bind fun t3 => (impl_Tasks_number.f k l0_0 l1).bind fun t4 => if 0 ≤ t4 then (if t4 < (t3.2.2.length : Int) then (some ((rdOf false t3.2.2 t4), 0)) else (none)) else (none)) else (some (false, t2))
noncomputable def S24 (k : Nat) : Does := ⟨[(true, [.dat (.list (.int .i64))]), (false, [.dat (.list (.int .i64))])], [(false, [.dat .bool]), (false, [.dat (.int .i64)])], fun x => impl_IsLasting.f k x.1 x.2⟩
noncomputable def E24 (k : Nat) : En := ⟨tb, orcOf [(59, S59 k), (54, S54 k), (55, S55 k), (60, S60 k)], lvOf [], k, 0, lvOf [], []⟩
theorem e24 (k : Nat) (x : dens (flatC (S24 k).ps)) : funK (E24 k) (S24 k) Try.f24 x = (S24 k).fn x := by
  kernel_rfl
theorem M24 (k : Nat) : Meets Try.prog 24 (S24 k) := meets_of Try.func24 (by kernel_rfl) tbOk (orc_cons (M59 k) (orc_cons (M54 k) (orc_cons (M55 k) (orc_cons (M60 k) orc_nil)))) mixOk (fun x y h => (e24 k x).trans h) rfl

/-! impl_CanServe: function 21 -/
noncomputable def impl_CanServe.f (k : Nat) (l0_0 : List Int) : Option (Bool × Int) := (impl_IsLasting.f k l0_0 l0_0).bind fun t1 => some (t1.1, t1.2)
noncomputable def S21 (k : Nat) : Does := ⟨[(true, [.dat (.list (.int .i64))])], [(false, [.dat .bool]), (false, [.dat (.int .i64)])], fun x => impl_CanServe.f k x⟩
noncomputable def E21 (k : Nat) : En := ⟨tb, orcOf [(24, S24 k)], lvOf [], k, 0, lvOf [], []⟩
theorem e21 (k : Nat) (x : dens (flatC (S21 k).ps)) : funK (E21 k) (S21 k) Try.f21 x = (S21 k).fn x := by
  kernel_rfl
theorem M21 (k : Nat) : Meets Try.prog 21 (S21 k) := meets_of Try.func21 (by kernel_rfl) tbOk (orc_cons (M24 k) orc_nil) mixOk (fun x y h => (e21 k x).trans h) rfl

/-! laws_FnExactCanServe: function 4 -/
noncomputable def laws_FnExactCanServe.f (k : Nat) (l0_0 : List Int) : Option (Bool) := (laws_szTasks.f l0_0 1048576).bind fun t1 => if t1 < 0 then (some true) else ((laws_toTasks.f k l0_0).bind fun t2 => (spec_CanServe.f k t2).bind fun t3 => (laws_toTasks.f k l0_0).bind fun t4 => (impl_CanServe.f k t4).bind fun t5 => if t5.1 = t3.1 then (if t5.2 = t3.2 then ((laws_toTasks.f k l0_0).bind fun t6 => (laws_eqTasks.f k t4 t6).bind fun t7 => if t7 = true then (some true) else (some false)) else (some false)) else (some false))
noncomputable def S4 (k : Nat) : Does := ⟨[(true, [.dat (.list (.int .i64))])], [(false, [.dat .bool])], fun x => laws_FnExactCanServe.f k x⟩
noncomputable def E4 (k : Nat) : En := ⟨tb, orcOf [(15, S15 k), (17, S17 k), (20, S20 k), (21, S21 k), (19, S19 k)], lvOf [], k, 0, lvOf [], []⟩
theorem e4 (k : Nat) (x : dens (flatC (S4 k).ps)) : funK (E4 k) (S4 k) Try.f4 x = (S4 k).fn x := by
  kernel_rfl
theorem M4 (k : Nat) : Meets Try.prog 4 (S4 k) := meets_of Try.func4 (by kernel_rfl) tbOk (orc_cons (M15 k) (orc_cons (M17 k) (orc_cons (M20 k) (orc_cons (M21 k) (orc_cons (M19 k) orc_nil))))) mixOk (fun x y h => (e4 k x).trans h) rfl

/-! spec_l02State: function 105 -/
noncomputable def spec_l02State.s0 (k : Nat) (r0 : (List Int) → (List Int) → Int → Option (Bool)) (x1 : List Int) (x2_0 : List Int) (x5 : Int) : Option (Bool) := if x5 < (x1.length : Int) then (if x5 < (x2_0.length : Int) then (if 0 ≤ x5 then (if x5 < (x1.length : Int) then (if 0 ≤ x5 then (if x5 < (x2_0.length : Int) then ((spec_l01In.f (rd x1 x5) 1 (rd x2_0 x5)).bind fun t1 => if t1 = true then (r0 x1 x2_0 (wrap64 (x5 + 1))) else (some false)) else (none)) else (none)) else (none)) else (none)) else (some (decide ((x1.length : Int) = (x2_0.length : Int))))) else (some (decide ((x1.length : Int) = (x2_0.length : Int))))
noncomputable def spec_l02State.l0 (k : Nat) : Nat → (List Int) → (List Int) → Int → Option (Bool)
  | 0, _, _, _ => none
  | n + 1, x0, x1, x2 => spec_l02State.s0 k (spec_l02State.l0 k n) x0 x1 x2
noncomputable def spec_l02State.g (k : Nat) (r0 : (List Int) → (List Int) → Int → Option (Bool)) (l0_0 : List Int) (l1 : List Int) : Option (Bool) := r0 l1 l0_0 0
noncomputable def spec_l02State.f (k : Nat) (l0_0 : List Int) (l1 : List Int) : Option (Bool) := spec_l02State.g k (spec_l02State.l0 k k) l0_0 l1
noncomputable def S105 (k : Nat) : Does := ⟨[(true, [.dat (.list (.int .i64))]), (false, [.dat (.list (.int .i64))])], [(false, [.dat .bool])], fun x => spec_l02State.f k x.1 x.2⟩
noncomputable def E105 (k : Nat) : En := ⟨tb, orcOf [(89, S89 k)], lvOf [(0, [(1, []), (2, []), (5, [])])], k, 0, lvOf [], []⟩
noncomputable def n105_0 (x1 : List Int) (x2_0 : List Int) (x5 : Int) : St := ⟨36, lookA [(1, .dat (.list (.int .i64)) x1), (2, .box 0 0), (5, .dat (.int .i64) x5)], Go.V.look [(0, .cells [.dat (.list (.int .i64)) x2_0])]⟩
def p105_0 : List Bool := [true, false, true, false]
theorem r105_0 (k : Nat) (rec : St → Option (Bool)) (v : (List Int) × (List Int) × Int) : roundF (E105 k) (S105 k) Try.f105 p105_0 [] rec (n105_0 v.1 v.2.1 v.2.2) = spec_l02State.s0 k (fun a0 a1 a2 => rec (n105_0 a0 a1 a2)) v.1 v.2.1 v.2.2 := by
  kernel_rfl
theorem q105_0 (k : Nat) (n : Nat) : ∀ v : (List Int) × (List Int) × Int, loopF (E105 k) (S105 k) Try.f105 p105_0 [] n (n105_0 v.1 v.2.1 v.2.2) = spec_l02State.l0 k n v.1 v.2.1 v.2.2 :=
  loopF_eq (E105 k) (S105 k) Try.f105 p105_0 [] (fun v : (List Int) × (List Int) × Int => n105_0 v.1 v.2.1 v.2.2) (fun rec v => spec_l02State.s0 k (fun a0 a1 a2 => rec (a0, a1, a2)) v.1 v.2.1 v.2.2) (fun n v => spec_l02State.l0 k n v.1 v.2.1 v.2.2) (fun _ => rfl) (fun _ _ => rfl) (fun rec v => r105_0 k rec v) n
theorem e105 (k : Nat) (x : dens (flatC (S105 k).ps)) : funK (E105 k) (S105 k) Try.f105 x = (S105 k).fn x := by
  have h : funK (E105 k) (S105 k) Try.f105 x = spec_l02State.g k (fun a0 a1 a2 => loopF (E105 k) (S105 k) Try.f105 p105_0 [] k (n105_0 a0 a1 a2)) x.1 x.2 := by kernel_rfl
  rw [h]
  rw [show (fun a0 a1 a2 => loopF (E105 k) (S105 k) Try.f105 p105_0 [] k (n105_0 a0 a1 a2)) = spec_l02State.l0 k k from funext fun a0 => funext fun a1 => funext fun a2 => q105_0 k k (a0, a1, a2)]
  rfl
theorem M105 (k : Nat) : Meets Try.prog 105 (S105 k) := meets_of Try.func105 (by kernel_rfl) tbOk (orc_cons (M89 k) orc_nil) mixOk (fun x y h => (e105 k x).trans h) rfl

/-! spec_l02Code: function 61 -/
noncomputable def spec_l02Code.f (k : Nat) (l0_0 : List Int) (l1 : List Int) : Option (Int) := (spec_l01Is.f k l0_0).bind fun t1 => if (!decide (t1 = true)) = true then (some 1) else ((spec_l02State.f k l0_0 l1).bind fun t2 => if (!decide (t2 = true)) = true then (some 2) else (some 0))
noncomputable def S61 (k : Nat) : Does := ⟨[(true, [.dat (.list (.int .i64))]), (false, [.dat (.list (.int .i64))])], [(false, [.dat (.int .i64)])], fun x => spec_l02Code.f k x.1 x.2⟩
noncomputable def E61 (k : Nat) : En := ⟨tb, orcOf [(88, S88 k), (105, S105 k)], lvOf [], k, 0, lvOf [], []⟩
theorem e61 (k : Nat) (x : dens (flatC (S61 k).ps)) : funK (E61 k) (S61 k) Try.f61 x = (S61 k).fn x := by
  kernel_rfl
theorem M61 (k : Nat) : Meets Try.prog 61 (S61 k) := meets_of Try.func61 (by kernel_rfl) tbOk (orc_cons (M88 k) (orc_cons (M105 k) orc_nil)) mixOk (fun x y h => (e61 k x).trans h) rfl

/-! spec_l02Given: function 57 -/
noncomputable def spec_l02Given.f (k : Nat) (l0_0 : List Int) (l1 : List Int) : Option (Int) := (spec_l02Code.f k l0_0 l1).bind fun t1 => if t1 = 0 then ((spec_l02Few.f k l0_0).bind fun t2 => some t2) else (some t1)
noncomputable def S57 (k : Nat) : Does := ⟨[(true, [.dat (.list (.int .i64))]), (false, [.dat (.list (.int .i64))])], [(false, [.dat (.int .i64)])], fun x => spec_l02Given.f k x.1 x.2⟩
noncomputable def E57 (k : Nat) : En := ⟨tb, orcOf [(61, S61 k), (52, S52 k)], lvOf [], k, 0, lvOf [], []⟩
theorem e57 (k : Nat) (x : dens (flatC (S57 k).ps)) : funK (E57 k) (S57 k) Try.f57 x = (S57 k).fn x := by
  kernel_rfl
theorem M57 (k : Nat) : Meets Try.prog 57 (S57 k) := meets_of Try.func57 (by kernel_rfl) tbOk (orc_cons (M61 k) (orc_cons (M52 k) orc_nil)) mixOk (fun x y h => (e57 k x).trans h) rfl

/-! spec_IsLasting: function 22 -/
noncomputable def spec_IsLasting.f (k : Nat) (l0_0 : List Int) (l1 : List Int) : Option (Bool × Int) := (spec_l02Given.f k l0_0 l1).bind fun t1 => if t1 = 0 then ((spec_l02Lasting.f k l0_0).bind fun t2 => (spec_l02Number.f k l0_0 l1).bind fun t3 => if 0 ≤ t3 then (if t3 < (t2.length : Int) then (some ((rdOf false t2 t3), 0)) else (none)) else (none)) else (some (false, t1))
noncomputable def S22 (k : Nat) : Does := ⟨[(true, [.dat (.list (.int .i64))]), (false, [.dat (.list (.int .i64))])], [(false, [.dat .bool]), (false, [.dat (.int .i64)])], fun x => spec_IsLasting.f k x.1 x.2⟩
noncomputable def E22 (k : Nat) : En := ⟨tb, orcOf [(57, S57 k), (53, S53 k), (58, S58 k)], lvOf [], k, 0, lvOf [], []⟩
theorem e22 (k : Nat) (x : dens (flatC (S22 k).ps)) : funK (E22 k) (S22 k) Try.f22 x = (S22 k).fn x := by
  kernel_rfl
theorem M22 (k : Nat) : Meets Try.prog 22 (S22 k) := meets_of Try.func22 (by kernel_rfl) tbOk (orc_cons (M57 k) (orc_cons (M53 k) (orc_cons (M58 k) orc_nil))) mixOk (fun x y h => (e22 k x).trans h) rfl

/-! laws_FnExactIsLasting: function 5 -/
noncomputable def laws_FnExactIsLasting.f (k : Nat) (l0_0 : List Int) (l1 : List Int) : Option (Bool) := if 1048576 < (l1.length : Int) then (some true) else ((laws_szTasks.f l0_0 1048576).bind fun t1 => if t1 < 0 then (some true) else ((laws_toTasks.f k l0_0).bind fun t2 => (laws_toInt64S.f k l1).bind fun t3 => (spec_IsLasting.f k t2 t3).bind fun t4 => (laws_toTasks.f k l0_0).bind fun t5 => (laws_toInt64S.f k l1).bind fun t6 => (impl_IsLasting.f k t5 t6).bind fun t7 => if t7.1 = t4.1 then (if t7.2 = t4.2 then ((laws_toTasks.f k l0_0).bind fun t8 => (laws_eqTasks.f k t5 t8).bind fun t9 => if t9 = true then ((laws_toInt64S.f k l1).bind fun t10 => (laws_eqInt64S.f k t6 t10).bind fun t11 => if t11 = true then (some true) else (some false)) else (some false)) else (some false)) else (some false)))
noncomputable def S5 (k : Nat) : Does := ⟨[(true, [.dat (.list (.int .i64))]), (false, [.dat (.list (.int .i64))])], [(false, [.dat .bool])], fun x => laws_FnExactIsLasting.f k x.1 x.2⟩
noncomputable def E5 (k : Nat) : En := ⟨tb, orcOf [(15, S15 k), (17, S17 k), (23, S23 k), (22, S22 k), (24, S24 k), (19, S19 k), (25, S25 k)], lvOf [], k, 0, lvOf [], []⟩
theorem e5 (k : Nat) (x : dens (flatC (S5 k).ps)) : funK (E5 k) (S5 k) Try.f5 x = (S5 k).fn x := by
  kernel_rfl
theorem M5 (k : Nat) : Meets Try.prog 5 (S5 k) := meets_of Try.func5 (by kernel_rfl) tbOk (orc_cons (M15 k) (orc_cons (M17 k) (orc_cons (M23 k) (orc_cons (M22 k) (orc_cons (M24 k) (orc_cons (M19 k) (orc_cons (M25 k) orc_nil))))))) mixOk (fun x y h => (e5 k x).trans h) rfl

/-! spec_l01Own: function 67 -/
noncomputable def spec_l01Own.f (l0 : List Int) : Option ((List Int)) := if 0 + l0.length ≤ 1099511627776 then (some ([] ++ l0)) else (none)
noncomputable def S67 (k : Nat) : Does := ⟨[(false, [.dat (.list (.int .i64))])], [(false, [.own 2 (.int .i64)])], fun x => spec_l01Own.f x⟩
noncomputable def E67 (k : Nat) : En := ⟨tb, orcOf [], lvOf [], k, 0, lvOf [], []⟩
theorem e67 (k : Nat) (x : dens (flatC (S67 k).ps)) : funK (E67 k) (S67 k) Try.f67 x = (S67 k).fn x := by
  kernel_rfl
theorem M67 (k : Nat) : Meets Try.prog 67 (S67 k) := meets_of Try.func67 (by kernel_rfl) tbOk orc_nil mixOk (fun x y h => (e67 k x).trans h) rfl

/-! spec_l02Keeping: function 68 -/
noncomputable def spec_l02Keeping.s0 (k : Nat) (r0 : (List Bool) → (List Int) → (List Int) → (List Int) → Int → Option ((List Int))) (x1 : List Bool) (x2 : List Int) (x3_0 : List Int) (x7 : List Int) (x8 : Int) : Option ((List Int)) := (spec_l01K.f x3_0).bind fun t1 => if x8 < t1 then ((spec_l02Step.f k x3_0 x2 x8).bind fun t2 => if t2.2 = true then ((spec_l02Number.f k x3_0 t2.1).bind fun t3 => if 0 ≤ t3 then (if t3 < (x1.length : Int) then (if (rdOf false x1 t3) = true then (if x7.length + 1 ≤ 1099511627776 then (r0 x1 x2 x3_0 (x7 ++ [x8]) (wrap64 (x8 + 1))) else (none)) else (r0 x1 x2 x3_0 x7 (wrap64 (x8 + 1)))) else (none)) else (none)) else (r0 x1 x2 x3_0 x7 (wrap64 (x8 + 1)))) else (some x7)
noncomputable def spec_l02Keeping.l0 (k : Nat) : Nat → (List Bool) → (List Int) → (List Int) → (List Int) → Int → Option ((List Int))
  | 0, _, _, _, _, _ => none
  | n + 1, x0, x1, x2, x3, x4 => spec_l02Keeping.s0 k (spec_l02Keeping.l0 k n) x0 x1 x2 x3 x4
noncomputable def spec_l02Keeping.g (k : Nat) (r0 : (List Bool) → (List Int) → (List Int) → (List Int) → Int → Option ((List Int))) (l0_0 : List Int) (l1 : List Bool) (l2 : List Int) : Option ((List Int)) := r0 l1 l2 l0_0 [] (-1)
noncomputable def spec_l02Keeping.f (k : Nat) (l0_0 : List Int) (l1 : List Bool) (l2 : List Int) : Option ((List Int)) := spec_l02Keeping.g k (spec_l02Keeping.l0 k k) l0_0 l1 l2
noncomputable def S68 (k : Nat) : Does := ⟨[(true, [.dat (.list (.int .i64))]), (false, [.dat (.list .bool)]), (false, [.dat (.list (.int .i64))])], [(false, [.own 2 (.int .i64)])], fun x => spec_l02Keeping.f k x.1 x.2.1 x.2.2⟩
noncomputable def E68 (k : Nat) : En := ⟨tb, orcOf [(90, S90 k), (63, S63 k), (58, S58 k)], lvOf [(0, [(1, []), (2, []), (3, []), (7, []), (8, [])])], k, 0, lvOf [], []⟩
noncomputable def n68_0 (x1 : List Bool) (x2 : List Int) (x3_0 : List Int) (x7 : List Int) (x8 : Int) : St := ⟨39, lookA [(1, .dat (.list .bool) x1), (2, .dat (.list (.int .i64)) x2), (3, .box 0 0), (7, .own 1), (8, .dat (.int .i64) x8)], Go.V.look [(0, .cells [.dat (.list (.int .i64)) x3_0]), (1, .flat 2 (.int .i64) x7)]⟩
def p68_0 : List Bool := [true, true, false, true, false]
theorem r68_0 (k : Nat) (rec : St → Option ((List Int))) (v : (List Bool) × (List Int) × (List Int) × (List Int) × Int) : roundF (E68 k) (S68 k) Try.f68 p68_0 [] rec (n68_0 v.1 v.2.1 v.2.2.1 v.2.2.2.1 v.2.2.2.2) = spec_l02Keeping.s0 k (fun a0 a1 a2 a3 a4 => rec (n68_0 a0 a1 a2 a3 a4)) v.1 v.2.1 v.2.2.1 v.2.2.2.1 v.2.2.2.2 := by
  kernel_rfl
theorem q68_0 (k : Nat) (n : Nat) : ∀ v : (List Bool) × (List Int) × (List Int) × (List Int) × Int, loopF (E68 k) (S68 k) Try.f68 p68_0 [] n (n68_0 v.1 v.2.1 v.2.2.1 v.2.2.2.1 v.2.2.2.2) = spec_l02Keeping.l0 k n v.1 v.2.1 v.2.2.1 v.2.2.2.1 v.2.2.2.2 :=
  loopF_eq (E68 k) (S68 k) Try.f68 p68_0 [] (fun v : (List Bool) × (List Int) × (List Int) × (List Int) × Int => n68_0 v.1 v.2.1 v.2.2.1 v.2.2.2.1 v.2.2.2.2) (fun rec v => spec_l02Keeping.s0 k (fun a0 a1 a2 a3 a4 => rec (a0, a1, a2, a3, a4)) v.1 v.2.1 v.2.2.1 v.2.2.2.1 v.2.2.2.2) (fun n v => spec_l02Keeping.l0 k n v.1 v.2.1 v.2.2.1 v.2.2.2.1 v.2.2.2.2) (fun _ => rfl) (fun _ _ => rfl) (fun rec v => r68_0 k rec v) n
theorem e68 (k : Nat) (x : dens (flatC (S68 k).ps)) : funK (E68 k) (S68 k) Try.f68 x = (S68 k).fn x := by
  have h : funK (E68 k) (S68 k) Try.f68 x = spec_l02Keeping.g k (fun a0 a1 a2 a3 a4 => loopF (E68 k) (S68 k) Try.f68 p68_0 [] k (n68_0 a0 a1 a2 a3 a4)) x.1 x.2.1 x.2.2 := by kernel_rfl
  rw [h]
  rw [show (fun a0 a1 a2 a3 a4 => loopF (E68 k) (S68 k) Try.f68 p68_0 [] k (n68_0 a0 a1 a2 a3 a4)) = spec_l02Keeping.l0 k k from funext fun a0 => funext fun a1 => funext fun a2 => funext fun a3 => funext fun a4 => q68_0 k k (a0, a1, a2, a3, a4)]
  rfl
theorem M68 (k : Nat) : Meets Try.prog 68 (S68 k) := meets_of Try.func68 (by kernel_rfl) tbOk (orc_cons (M90 k) (orc_cons (M63 k) (orc_cons (M58 k) orc_nil))) mixOk (fun x y h => (e68 k x).trans h) rfl

/-! spec_LeastPlay: function 28 -/
noncomputable def spec_LeastPlay.s1 (k : Nat) (r1 : (List Int) → (List Bool) → (List Int) → (List Int) → (List Int) → Option ((List Int) × (List Int) × Int)) (x1_0 : List Int) (x6 : List Bool) (x7 : List Int) (x8 : List Int) (x9 : List Int) : Option ((List Int) × (List Int) × Int) := (spec_l02Number.f k x1_0 x8).bind fun t4 => if 0 ≤ t4 then (if t4 < (x7.length : Int) then (if 0 ≤ (rd x7 t4) then (if 0 ≤ (rd x7 t4) then (if (rd x7 t4) ≤ (x9.length : Int) then ((spec_l01Own.f (x9.take (rd x7 t4).toNat)).bind fun t5 => if 0 ≤ (rd x7 t4) then (if (rd x7 t4) ≤ (x9.length : Int) then (if (x9.length : Int) ≤ (x9.length : Int) then ((spec_l01Own.f ((x9.take (x9.length : Int).toNat).drop (rd x7 t4).toNat)).bind fun t6 => some (t5, t6, 0)) else (none)) else (none)) else (none)) else (none)) else (none)) else (if 0 ≤ t4 then (if t4 < (x7.length : Int) then ((spec_l02Keeping.f k x1_0 x6 x8).bind fun t7 => if 0 < (t7.length : Int) then (if x9.length + 1 ≤ 1099511627776 then ((spec_l02Step.f k x1_0 x8 (rd t7 0)).bind fun t8 => r1 x1_0 x6 (x7.set t4.toNat (x9.length : Int)) t8.1 (x9 ++ [(rd t7 0)])) else (none)) else (none)) else (none)) else (none))) else (none)) else (none)
noncomputable def spec_LeastPlay.l1 (k : Nat) : Nat → (List Int) → (List Bool) → (List Int) → (List Int) → (List Int) → Option ((List Int) × (List Int) × Int)
  | 0, _, _, _, _, _ => none
  | n + 1, x0, x1, x2, x3, x4 => spec_LeastPlay.s1 k (spec_LeastPlay.l1 k n) x0 x1 x2 x3 x4
noncomputable def spec_LeastPlay.s0 (k : Nat) (r0 : (List Int) → (List Bool) → (List Int) → (List Int) → (List Int) → Int → Int → Option ((List Int) × (List Int) × Int)) (r1 : (List Int) → (List Bool) → (List Int) → (List Int) → (List Int) → Option ((List Int) × (List Int) × Int)) (x1_0 : List Int) (x6 : List Bool) (x7 : List Int) (x8 : List Int) (x9 : List Int) (x36 : Int) (x37 : Int) : Option ((List Int) × (List Int) × Int) := if x37 < x36 then (if 0 ≤ x37 then (if x37 < (x7.length : Int) then (r0 x1_0 x6 (x7.set x37.toNat (-1)) x8 x9 x36 (wrap64 (x37 + 1))) else (none)) else (none)) else (r1 x1_0 x6 x7 x8 x9)
noncomputable def spec_LeastPlay.l0 (k : Nat) : Nat → (List Int) → (List Bool) → (List Int) → (List Int) → (List Int) → Int → Int → Option ((List Int) × (List Int) × Int)
  | 0, _, _, _, _, _, _, _ => none
  | n + 1, x0, x1, x2, x3, x4, x5, x6 => spec_LeastPlay.s0 k (spec_LeastPlay.l0 k n) (spec_LeastPlay.l1 k k) x0 x1 x2 x3 x4 x5 x6
noncomputable def spec_LeastPlay.g (k : Nat) (r0 : (List Int) → (List Bool) → (List Int) → (List Int) → (List Int) → Int → Int → Option ((List Int) × (List Int) × Int)) (l0_0 : List Int) : Option ((List Int) × (List Int) × Int) := (spec_l02Few.f k l0_0).bind fun t1 => if t1 = 0 then ((spec_l02Lasting.f k l0_0).bind fun t2 => if 0 ≤ (wrap64 ((t2.length : Int) - 1)) then (if (wrap64 ((t2.length : Int) - 1)) < (t2.length : Int) then (if (rdOf false t2 (wrap64 ((t2.length : Int) - 1))) = true then (if 0 ≤ (t2.length : Int) then (if (t2.length : Int) ≤ (t2.length : Int) then (if (t2.length : Int).toNat ≤ 1099511627776 then ((spec_l01Own.f l0_0).bind fun t3 => r0 l0_0 t2 (List.replicate (t2.length : Int).toNat (0 : Int)) t3 [] ((List.replicate (t2.length : Int).toNat (0 : Int)).length : Int) 0) else (none)) else (none)) else (none)) else (some ([], [], 4))) else (none)) else (none)) else (some ([], [], t1))
noncomputable def spec_LeastPlay.f (k : Nat) (l0_0 : List Int) : Option ((List Int) × (List Int) × Int) := spec_LeastPlay.g k (spec_LeastPlay.l0 k k) l0_0
noncomputable def S28 (k : Nat) : Does := ⟨[(true, [.dat (.list (.int .i64))])], [(false, [.own 2 (.int .i64)]), (false, [.own 2 (.int .i64)]), (false, [.dat (.int .i64)])], fun x => spec_LeastPlay.f k x⟩
noncomputable def E28 (k : Nat) : En := ⟨tb, orcOf [(52, S52 k), (53, S53 k), (67, S67 k), (58, S58 k), (68, S68 k), (63, S63 k)], lvOf [(0, [(1, []), (6, []), (7, []), (8, []), (9, []), (36, []), (37, [])]), (2, [(1, []), (6, []), (7, []), (8, []), (9, [])])], k, 0, lvOf [(16, [(9, [.data (.int .i64)])])], []⟩
noncomputable def n28_0 (x1_0 : List Int) (x6 : List Bool) (x7 : List Int) (x8 : List Int) (x9 : List Int) (x36 : Int) (x37 : Int) : St := ⟨83, lookA [(1, .box 0 0), (6, .own 1), (7, .own 2), (8, .own 3), (9, .own 4), (36, .dat (.int .i64) x36), (37, .dat (.int .i64) x37)], Go.V.look [(0, .cells [.dat (.list (.int .i64)) x1_0]), (1, .flat 4 .bool x6), (2, .flat 2 (.int .i64) x7), (3, .flat 2 (.int .i64) x8), (4, .flat 2 (.int .i64) x9)]⟩
def p28_0 : List Bool := [true, true, true, true, true, false, true, false]
noncomputable def n28_1 (x1_0 : List Int) (x6 : List Bool) (x7 : List Int) (x8 : List Int) (x9 : List Int) : St := ⟨83, lookA [(1, .box 0 0), (6, .own 1), (7, .own 2), (8, .own 3), (9, .own 4)], Go.V.look [(0, .cells [.dat (.list (.int .i64)) x1_0]), (1, .flat 4 .bool x6), (2, .flat 2 (.int .i64) x7), (3, .flat 2 (.int .i64) x8), (4, .flat 2 (.int .i64) x9)]⟩
def p28_1 : List Bool := [true, true, true, true, true, true, false]
theorem r28_1 (k : Nat) (rec : St → Option ((List Int) × (List Int) × Int)) (v : (List Int) × (List Bool) × (List Int) × (List Int) × (List Int)) : roundF (E28 k) (S28 k) Try.f28 p28_1 [] rec (n28_1 v.1 v.2.1 v.2.2.1 v.2.2.2.1 v.2.2.2.2) = spec_LeastPlay.s1 k (fun a0 a1 a2 a3 a4 => rec (n28_1 a0 a1 a2 a3 a4)) v.1 v.2.1 v.2.2.1 v.2.2.2.1 v.2.2.2.2 := by
  kernel_rfl
theorem q28_1 (k : Nat) (n : Nat) : ∀ v : (List Int) × (List Bool) × (List Int) × (List Int) × (List Int), loopF (E28 k) (S28 k) Try.f28 p28_1 [] n (n28_1 v.1 v.2.1 v.2.2.1 v.2.2.2.1 v.2.2.2.2) = spec_LeastPlay.l1 k n v.1 v.2.1 v.2.2.1 v.2.2.2.1 v.2.2.2.2 :=
  loopF_eq (E28 k) (S28 k) Try.f28 p28_1 [] (fun v : (List Int) × (List Bool) × (List Int) × (List Int) × (List Int) => n28_1 v.1 v.2.1 v.2.2.1 v.2.2.2.1 v.2.2.2.2) (fun rec v => spec_LeastPlay.s1 k (fun a0 a1 a2 a3 a4 => rec (a0, a1, a2, a3, a4)) v.1 v.2.1 v.2.2.1 v.2.2.2.1 v.2.2.2.2) (fun n v => spec_LeastPlay.l1 k n v.1 v.2.1 v.2.2.1 v.2.2.2.1 v.2.2.2.2) (fun _ => rfl) (fun _ _ => rfl) (fun rec v => r28_1 k rec v) n
theorem r28_0 (k : Nat) (rec : St → Option ((List Int) × (List Int) × Int)) (G1 : (List Int) → (List Bool) → (List Int) → (List Int) → (List Int) → Option ((List Int) × (List Int) × Int)) (h1 : ∀ a0 a1 a2 a3 a4, loopF (E28 k) (S28 k) Try.f28 p28_1 [] k (n28_1 a0 a1 a2 a3 a4) = G1 a0 a1 a2 a3 a4) (v : (List Int) × (List Bool) × (List Int) × (List Int) × (List Int) × Int × Int) : roundF (E28 k) (S28 k) Try.f28 p28_0 [] rec (n28_0 v.1 v.2.1 v.2.2.1 v.2.2.2.1 v.2.2.2.2.1 v.2.2.2.2.2.1 v.2.2.2.2.2.2) = spec_LeastPlay.s0 k (fun a0 a1 a2 a3 a4 a5 a6 => rec (n28_0 a0 a1 a2 a3 a4 a5 a6)) G1 v.1 v.2.1 v.2.2.1 v.2.2.2.1 v.2.2.2.2.1 v.2.2.2.2.2.1 v.2.2.2.2.2.2 := by
  obtain rfl : (fun a0 a1 a2 a3 a4 => loopF (E28 k) (S28 k) Try.f28 p28_1 [] k (n28_1 a0 a1 a2 a3 a4)) = G1 := funext fun a0 => funext fun a1 => funext fun a2 => funext fun a3 => funext fun a4 => h1 a0 a1 a2 a3 a4
  kernel_rfl
theorem q28_0 (k : Nat) (n : Nat) : ∀ v : (List Int) × (List Bool) × (List Int) × (List Int) × (List Int) × Int × Int, loopF (E28 k) (S28 k) Try.f28 p28_0 [] n (n28_0 v.1 v.2.1 v.2.2.1 v.2.2.2.1 v.2.2.2.2.1 v.2.2.2.2.2.1 v.2.2.2.2.2.2) = spec_LeastPlay.l0 k n v.1 v.2.1 v.2.2.1 v.2.2.2.1 v.2.2.2.2.1 v.2.2.2.2.2.1 v.2.2.2.2.2.2 :=
  loopF_eq (E28 k) (S28 k) Try.f28 p28_0 [] (fun v : (List Int) × (List Bool) × (List Int) × (List Int) × (List Int) × Int × Int => n28_0 v.1 v.2.1 v.2.2.1 v.2.2.2.1 v.2.2.2.2.1 v.2.2.2.2.2.1 v.2.2.2.2.2.2) (fun rec v => spec_LeastPlay.s0 k (fun a0 a1 a2 a3 a4 a5 a6 => rec (a0, a1, a2, a3, a4, a5, a6)) (spec_LeastPlay.l1 k k) v.1 v.2.1 v.2.2.1 v.2.2.2.1 v.2.2.2.2.1 v.2.2.2.2.2.1 v.2.2.2.2.2.2) (fun n v => spec_LeastPlay.l0 k n v.1 v.2.1 v.2.2.1 v.2.2.2.1 v.2.2.2.2.1 v.2.2.2.2.2.1 v.2.2.2.2.2.2) (fun _ => rfl) (fun _ _ => rfl) (fun rec v => r28_0 k rec _ (fun a0 a1 a2 a3 a4 => q28_1 k k (a0, a1, a2, a3, a4)) v) n
theorem e28 (k : Nat) (x : dens (flatC (S28 k).ps)) : funK (E28 k) (S28 k) Try.f28 x = (S28 k).fn x := by
  have h : funK (E28 k) (S28 k) Try.f28 x = spec_LeastPlay.g k (fun a0 a1 a2 a3 a4 a5 a6 => loopF (E28 k) (S28 k) Try.f28 p28_0 [] k (n28_0 a0 a1 a2 a3 a4 a5 a6)) x := by kernel_rfl
  rw [h]
  rw [show (fun a0 a1 a2 a3 a4 a5 a6 => loopF (E28 k) (S28 k) Try.f28 p28_0 [] k (n28_0 a0 a1 a2 a3 a4 a5 a6)) = spec_LeastPlay.l0 k k from funext fun a0 => funext fun a1 => funext fun a2 => funext fun a3 => funext fun a4 => funext fun a5 => funext fun a6 => q28_0 k k (a0, a1, a2, a3, a4, a5, a6)]
  rfl
theorem M28 (k : Nat) : Meets Try.prog 28 (S28 k) := meets_of Try.func28 (by kernel_rfl) tbOk (orc_cons (M52 k) (orc_cons (M53 k) (orc_cons (M67 k) (orc_cons (M58 k) (orc_cons (M68 k) (orc_cons (M63 k) orc_nil)))))) mixOk (fun x y h => (e28 k x).trans h) rfl

/-! impl_graph_full: function 70 -/
noncomputable def impl_graph_full.f (k : Nat) (a0 : (List Int) × (List (List (Int × Int))) × (List Bool)) : Option (Int) := (impl_Tasks_states.f k a0.1).bind fun t1 => some (wrap64 (t1 - 1))
noncomputable def S70 (k : Nat) : Does := ⟨[(false, [.dat (.ptr (.struct (.pair (.struct (.list (.int .i64))) (.pair (.list (.map (.int .i64) (.int .i64))) (.list .bool)))))])], [(false, [.dat (.int .i64)])], fun x => impl_graph_full.f k x⟩
noncomputable def E70 (k : Nat) : En := ⟨tb, orcOf [(81, S81 k)], lvOf [], k, 0, lvOf [], []⟩
theorem e70 (k : Nat) (x : dens (flatC (S70 k).ps)) : funK (E70 k) (S70 k) Try.f70 x = (S70 k).fn x := by
  kernel_rfl
theorem M70 (k : Nat) : Meets Try.prog 70 (S70 k) := meets_of Try.func70 (by kernel_rfl) tbOk (orc_cons (M81 k) orc_nil) mixOk (fun x y h => (e70 k x).trans h) rfl

/-! impl_servable: function 69 -/
noncomputable def impl_servable.f (k : Nat) (l0_0 : List Int) (a1 : Bool) : Option ((Option ((List Int) × (List (List (Int × Int))) × (List Bool))) × Int) := (impl_statesCode.f k l0_0 a1).bind fun t1 => if t1 = 0 then ((impl_graphOf.f k l0_0).bind fun t2 => (impl_graph_full.f k t2).bind fun t3 => if 0 ≤ t3 then (if t3 < (t2.2.2.length : Int) then (if (rdOf false t2.2.2 t3) = true then (some ((some t2), 0)) else (some (none, 4))) else (none)) else (none)) else (some (none, t1))
noncomputable def S69 (k : Nat) : Does := ⟨[(true, [.dat (.list (.int .i64))]), (false, [.dat .bool])], [(false, [.dat (.optr (.struct (.pair (.struct (.list (.int .i64))) (.pair (.list (.map (.int .i64) (.int .i64))) (.list .bool)))))]), (false, [.dat (.int .i64)])], fun x => impl_servable.f k x.1 x.2⟩
noncomputable def E69 (k : Nat) : En := ⟨tb, orcOf [(54, S54 k), (55, S55 k), (70, S70 k)], lvOf [], k, 0, lvOf [], []⟩
theorem e69 (k : Nat) (x : dens (flatC (S69 k).ps)) : funK (E69 k) (S69 k) Try.f69 x = (S69 k).fn x := by
  kernel_rfl
theorem M69 (k : Nat) : Meets Try.prog 69 (S69 k) := meets_of Try.func69 (by kernel_rfl) tbOk (orc_cons (M54 k) (orc_cons (M55 k) (orc_cons (M70 k) orc_nil))) mixOk (fun x y h => (e69 k x).trans h) rfl

/-! impl_LeastPlay: function 29 -/
noncomputable def impl_LeastPlay.s0 (k : Nat) (r0 : (Option ((List Int) × (List (List (Int × Int))) × (List Bool))) → (List (Int × Int)) → (List Int) → Int → Option ((List Int) × (List Int) × Int)) (x5 : Option ((List Int) × (List (List (Int × Int))) × (List Bool))) (x7 : List (Int × Int)) (x8 : List Int) (x9 : Int) : Option ((List Int) × (List Int) × Int) := if (mgI x7 x9).isSome = true then (if 0 ≤ ((mgI x7 x9).getD 0) then (if ((mgI x7 x9).getD 0) ≤ (x8.length : Int) then ((slices_Clone_int64_int64.f (x8.take ((mgI x7 x9).getD 0).toNat)).bind fun t4 => if 0 ≤ ((mgI x7 x9).getD 0) then (if ((mgI x7 x9).getD 0) ≤ (x8.length : Int) then (if (x8.length : Int) ≤ (x8.length : Int) then ((slices_Clone_int64_int64.f ((x8.take (x8.length : Int).toNat).drop ((mgI x7 x9).getD 0).toNat)).bind fun t5 => some (t4, t5, 0)) else (none)) else (none)) else (none)) else (none)) else (none)) else ((x5).bind fun u6 => (impl_graph_keeping.f k u6 x9).bind fun t7 => if 0 < (t7.length : Int) then (if x8.length + 1 ≤ 1099511627776 then ((x5).bind fun u8 => if 0 ≤ x9 then (if x9 < (u8.2.1.length : Int) then (r0 x5 (mpI x7 x9 (x8.length : Int)) (x8 ++ [(rd t7 0)]) ((mgI (rdOf ([] : List (Int × Int)) u8.2.1 x9) (rd t7 0)).getD 0)) else (none)) else (none)) else (none)) else (none))
noncomputable def impl_LeastPlay.l0 (k : Nat) : Nat → (Option ((List Int) × (List (List (Int × Int))) × (List Bool))) → (List (Int × Int)) → (List Int) → Int → Option ((List Int) × (List Int) × Int)
  | 0, _, _, _, _ => none
  | n + 1, x0, x1, x2, x3 => impl_LeastPlay.s0 k (impl_LeastPlay.l0 k n) x0 x1 x2 x3
noncomputable def impl_LeastPlay.g (k : Nat) (r0 : (Option ((List Int) × (List (List (Int × Int))) × (List Bool))) → (List (Int × Int)) → (List Int) → Int → Option ((List Int) × (List Int) × Int)) (l0_0 : List Int) : Option ((List Int) × (List Int) × Int) := (impl_servable.f k l0_0 true).bind fun t1 => if t1.2 = 0 then ((t1.1).bind fun u2 => (impl_graph_full.f k u2).bind fun t3 => r0 t1.1 [] [] t3) else (some ([], [], t1.2))
noncomputable def impl_LeastPlay.f (k : Nat) (l0_0 : List Int) : Option ((List Int) × (List Int) × Int) := impl_LeastPlay.g k (impl_LeastPlay.l0 k k) l0_0
noncomputable def S29 (k : Nat) : Does := ⟨[(true, [.dat (.list (.int .i64))])], [(false, [.own 2 (.int .i64)]), (false, [.own 2 (.int .i64)]), (false, [.dat (.int .i64)])], fun x => impl_LeastPlay.f k x⟩
noncomputable def E29 (k : Nat) : En := ⟨tb, orcOf [(69, S69 k), (70, S70 k), (71, S71 k), (72, S72 k)], lvOf [(0, [(5, []), (7, []), (8, [.nil 2 (.int .i64)]), (9, [])])], k, 0, lvOf [(9, [(8, [.data (.int .i64)])])], []⟩
noncomputable def n29_0 (x5 : Option ((List Int) × (List (List (Int × Int))) × (List Bool))) (x7 : List (Int × Int)) (x8 : List Int) (x9 : Int) : St := ⟨61, lookA [(5, .dat (.optr (.struct (.pair (.struct (.list (.int .i64))) (.pair (.list (.map (.int .i64) (.int .i64))) (.list .bool))))) x5), (7, .om 0), (8, .own 1), (9, .dat (.int .i64) x9)], Go.V.look [(0, .mp (.int .i64) (.int .i64) x7), (1, .flat 2 (.int .i64) x8)]⟩
def p29_0 : List Bool := [true, true, true, true, true, true, false]
theorem r29_0 (k : Nat) (rec : St → Option ((List Int) × (List Int) × Int)) (v : (Option ((List Int) × (List (List (Int × Int))) × (List Bool))) × (List (Int × Int)) × (List Int) × Int) : roundF (E29 k) (S29 k) Try.f29 p29_0 [] rec (n29_0 v.1 v.2.1 v.2.2.1 v.2.2.2) = impl_LeastPlay.s0 k (fun a0 a1 a2 a3 => rec (n29_0 a0 a1 a2 a3)) v.1 v.2.1 v.2.2.1 v.2.2.2 := by
  kernel_rfl
theorem q29_0 (k : Nat) (n : Nat) : ∀ v : (Option ((List Int) × (List (List (Int × Int))) × (List Bool))) × (List (Int × Int)) × (List Int) × Int, loopF (E29 k) (S29 k) Try.f29 p29_0 [] n (n29_0 v.1 v.2.1 v.2.2.1 v.2.2.2) = impl_LeastPlay.l0 k n v.1 v.2.1 v.2.2.1 v.2.2.2 :=
  loopF_eq (E29 k) (S29 k) Try.f29 p29_0 [] (fun v : (Option ((List Int) × (List (List (Int × Int))) × (List Bool))) × (List (Int × Int)) × (List Int) × Int => n29_0 v.1 v.2.1 v.2.2.1 v.2.2.2) (fun rec v => impl_LeastPlay.s0 k (fun a0 a1 a2 a3 => rec (a0, a1, a2, a3)) v.1 v.2.1 v.2.2.1 v.2.2.2) (fun n v => impl_LeastPlay.l0 k n v.1 v.2.1 v.2.2.1 v.2.2.2) (fun _ => rfl) (fun _ _ => rfl) (fun rec v => r29_0 k rec v) n
theorem e29 (k : Nat) (x : dens (flatC (S29 k).ps)) : funK (E29 k) (S29 k) Try.f29 x = (S29 k).fn x := by
  have h : funK (E29 k) (S29 k) Try.f29 x = impl_LeastPlay.g k (fun a0 a1 a2 a3 => loopF (E29 k) (S29 k) Try.f29 p29_0 [] k (n29_0 a0 a1 a2 a3)) x := by kernel_rfl
  rw [h]
  rw [show (fun a0 a1 a2 a3 => loopF (E29 k) (S29 k) Try.f29 p29_0 [] k (n29_0 a0 a1 a2 a3)) = impl_LeastPlay.l0 k k from funext fun a0 => funext fun a1 => funext fun a2 => funext fun a3 => q29_0 k k (a0, a1, a2, a3)]
  rfl
theorem M29 (k : Nat) : Meets Try.prog 29 (S29 k) := meets_of Try.func29 (by kernel_rfl) tbOk (orc_cons (M69 k) (orc_cons (M70 k) (orc_cons (M71 k) (orc_cons (M72 k) orc_nil)))) mixOk (fun x y h => (e29 k x).trans h) rfl

/-! laws_markInt64S: function 31 -/
noncomputable def laws_markInt64S.s0 (k : Nat) (r0 : (List Int) → Int → Int → Option (Int × (List Int))) (x0 : List Int) (x1 : Int) (x5 : Int) : Option (Int × (List Int)) := if x5 < (x0.length : Int) then (if 0 ≤ x5 then (if x5 < (x0.length : Int) then (r0 (x0.set x5.toNat x1) (wrap64 (x1 + 1)) (wrap64 (x5 + 1))) else (none)) else (none)) else (some (x1, x0))
noncomputable def laws_markInt64S.l0 (k : Nat) : Nat → (List Int) → Int → Int → Option (Int × (List Int))
  | 0, _, _, _ => none
  | n + 1, x0, x1, x2 => laws_markInt64S.s0 k (laws_markInt64S.l0 k n) x0 x1 x2
noncomputable def laws_markInt64S.g (k : Nat) (r0 : (List Int) → Int → Int → Option (Int × (List Int))) (l0 : List Int) (a1 : Int) : Option (Int × (List Int)) := r0 l0 a1 0
noncomputable def laws_markInt64S.f (k : Nat) (l0 : List Int) (a1 : Int) : Option (Int × (List Int)) := laws_markInt64S.g k (laws_markInt64S.l0 k k) l0 a1
noncomputable def S31 (k : Nat) : Does := ⟨[(false, [.own 2 (.int .i64)]), (false, [.dat (.int .i64)])], [(false, [.dat (.int .i64)])], fun x => laws_markInt64S.f k x.1 x.2⟩
noncomputable def E31 (k : Nat) : En := ⟨tb, orcOf [], lvOf [(0, [(0, []), (1, []), (5, [])])], k, 1, lvOf [], []⟩
noncomputable def n31_0 (x0 : List Int) (x1 : Int) (x5 : Int) : St := ⟨19, lookA [(0, .own 0), (1, .dat (.int .i64) x1), (5, .dat (.int .i64) x5)], Go.V.look [(0, .flat 2 (.int .i64) x0)]⟩
def p31_0 : List Bool := [true, false, true, false]
theorem r31_0 (k : Nat) (rec : St → Option (Int × (List Int))) (v : (List Int) × Int × Int) : roundF (E31 k) (S31 k) Try.f31 p31_0 [] rec (n31_0 v.1 v.2.1 v.2.2) = laws_markInt64S.s0 k (fun a0 a1 a2 => rec (n31_0 a0 a1 a2)) v.1 v.2.1 v.2.2 := by
  kernel_rfl
theorem q31_0 (k : Nat) (n : Nat) : ∀ v : (List Int) × Int × Int, loopF (E31 k) (S31 k) Try.f31 p31_0 [] n (n31_0 v.1 v.2.1 v.2.2) = laws_markInt64S.l0 k n v.1 v.2.1 v.2.2 :=
  loopF_eq (E31 k) (S31 k) Try.f31 p31_0 [] (fun v : (List Int) × Int × Int => n31_0 v.1 v.2.1 v.2.2) (fun rec v => laws_markInt64S.s0 k (fun a0 a1 a2 => rec (a0, a1, a2)) v.1 v.2.1 v.2.2) (fun n v => laws_markInt64S.l0 k n v.1 v.2.1 v.2.2) (fun _ => rfl) (fun _ _ => rfl) (fun rec v => r31_0 k rec v) n
theorem e31 (k : Nat) (x : dens (flatC (S31 k).ps)) : funK (E31 k) (S31 k) Try.f31 x = (S31 k).fn x := by
  have h : funK (E31 k) (S31 k) Try.f31 x = laws_markInt64S.g k (fun a0 a1 a2 => loopF (E31 k) (S31 k) Try.f31 p31_0 [] k (n31_0 a0 a1 a2)) x.1 x.2 := by kernel_rfl
  rw [h]
  rw [show (fun a0 a1 a2 => loopF (E31 k) (S31 k) Try.f31 p31_0 [] k (n31_0 a0 a1 a2)) = laws_markInt64S.l0 k k from funext fun a0 => funext fun a1 => funext fun a2 => q31_0 k k (a0, a1, a2)]
  rfl
theorem M31 (k : Nat) : Meets Try.prog 31 (S31 k) := meets_of Try.func31 (by kernel_rfl) tbOk orc_nil mixOk (fun x y h => (e31 k x).trans h) rfl

/-! laws_markTasks: function 30 -/
noncomputable def laws_markTasks.f (k : Nat) (l0_0 : List Int) (a1 : Int) : Option (Int × (List Int)) := (laws_markInt64S.f k l0_0 a1).bind fun t1 => some (t1.1, t1.2)
noncomputable def S30 (k : Nat) : Does := ⟨[(true, [.own 2 (.int .i64)]), (false, [.dat (.int .i64)])], [(false, [.dat (.int .i64)])], fun x => laws_markTasks.f k x.1 x.2⟩
noncomputable def E30 (k : Nat) : En := ⟨tb, orcOf [(31, S31 k)], lvOf [], k, 1, lvOf [], []⟩
theorem e30 (k : Nat) (x : dens (flatC (S30 k).ps)) : funK (E30 k) (S30 k) Try.f30 x = (S30 k).fn x := by
  kernel_rfl
theorem M30 (k : Nat) : Meets Try.prog 30 (S30 k) := meets_of Try.func30 (by kernel_rfl) tbOk (orc_cons (M31 k) orc_nil) mixOk (fun x y h => (e30 k x).trans h) rfl

/-! laws_heldInt64S: function 32 -/
noncomputable def laws_heldInt64S.s0 (k : Nat) (r0 : (List Int) → Int → Int → Option (Int)) (x0 : List Int) (x1 : Int) (x5 : Int) : Option (Int) := if x5 < (x0.length : Int) then (if 0 ≤ x5 then (if x5 < (x0.length : Int) then (if (rd x0 x5) = x1 then (r0 x0 (wrap64 (x1 + 1)) (wrap64 (x5 + 1))) else (some (-1))) else (none)) else (none)) else (some x1)
noncomputable def laws_heldInt64S.l0 (k : Nat) : Nat → (List Int) → Int → Int → Option (Int)
  | 0, _, _, _ => none
  | n + 1, x0, x1, x2 => laws_heldInt64S.s0 k (laws_heldInt64S.l0 k n) x0 x1 x2
noncomputable def laws_heldInt64S.g (k : Nat) (r0 : (List Int) → Int → Int → Option (Int)) (l0 : List Int) (a1 : Int) : Option (Int) := r0 l0 a1 0
noncomputable def laws_heldInt64S.f (k : Nat) (l0 : List Int) (a1 : Int) : Option (Int) := laws_heldInt64S.g k (laws_heldInt64S.l0 k k) l0 a1
noncomputable def S32 (k : Nat) : Does := ⟨[(false, [.dat (.list (.int .i64))]), (false, [.dat (.int .i64)])], [(false, [.dat (.int .i64)])], fun x => laws_heldInt64S.f k x.1 x.2⟩
noncomputable def E32 (k : Nat) : En := ⟨tb, orcOf [], lvOf [(0, [(0, []), (1, []), (5, [])])], k, 0, lvOf [], []⟩
noncomputable def n32_0 (x0 : List Int) (x1 : Int) (x5 : Int) : St := ⟨21, lookA [(0, .dat (.list (.int .i64)) x0), (1, .dat (.int .i64) x1), (5, .dat (.int .i64) x5)], Go.V.look []⟩
def p32_0 : List Bool := [true, false, true, false]
theorem r32_0 (k : Nat) (rec : St → Option (Int)) (v : (List Int) × Int × Int) : roundF (E32 k) (S32 k) Try.f32 p32_0 [] rec (n32_0 v.1 v.2.1 v.2.2) = laws_heldInt64S.s0 k (fun a0 a1 a2 => rec (n32_0 a0 a1 a2)) v.1 v.2.1 v.2.2 := by
  kernel_rfl
theorem q32_0 (k : Nat) (n : Nat) : ∀ v : (List Int) × Int × Int, loopF (E32 k) (S32 k) Try.f32 p32_0 [] n (n32_0 v.1 v.2.1 v.2.2) = laws_heldInt64S.l0 k n v.1 v.2.1 v.2.2 :=
  loopF_eq (E32 k) (S32 k) Try.f32 p32_0 [] (fun v : (List Int) × Int × Int => n32_0 v.1 v.2.1 v.2.2) (fun rec v => laws_heldInt64S.s0 k (fun a0 a1 a2 => rec (a0, a1, a2)) v.1 v.2.1 v.2.2) (fun n v => laws_heldInt64S.l0 k n v.1 v.2.1 v.2.2) (fun _ => rfl) (fun _ _ => rfl) (fun rec v => r32_0 k rec v) n
theorem e32 (k : Nat) (x : dens (flatC (S32 k).ps)) : funK (E32 k) (S32 k) Try.f32 x = (S32 k).fn x := by
  have h : funK (E32 k) (S32 k) Try.f32 x = laws_heldInt64S.g k (fun a0 a1 a2 => loopF (E32 k) (S32 k) Try.f32 p32_0 [] k (n32_0 a0 a1 a2)) x.1 x.2 := by kernel_rfl
  rw [h]
  rw [show (fun a0 a1 a2 => loopF (E32 k) (S32 k) Try.f32 p32_0 [] k (n32_0 a0 a1 a2)) = laws_heldInt64S.l0 k k from funext fun a0 => funext fun a1 => funext fun a2 => q32_0 k k (a0, a1, a2)]
  rfl
theorem M32 (k : Nat) : Meets Try.prog 32 (S32 k) := meets_of Try.func32 (by kernel_rfl) tbOk orc_nil mixOk (fun x y h => (e32 k x).trans h) rfl

/-! laws_FnExactLeastPlay: function 7 -/
noncomputable def laws_FnExactLeastPlay.f (k : Nat) (l0_0 : List Int) : Option (Bool) := (laws_szTasks.f l0_0 1048576).bind fun t1 => if t1 < 0 then (some true) else ((laws_toTasks.f k l0_0).bind fun t2 => (spec_LeastPlay.f k t2).bind fun t3 => (laws_toTasks.f k l0_0).bind fun t4 => (impl_LeastPlay.f k t4).bind fun t5 => (laws_eqInt64S.f k t5.1 t3.1).bind fun t6 => if t6 = true then ((laws_eqInt64S.f k t5.2.1 t3.2.1).bind fun t7 => if t7 = true then (if t5.2.2 = t3.2.2 then ((laws_toTasks.f k l0_0).bind fun t8 => (laws_eqTasks.f k t4 t8).bind fun t9 => if t9 = true then ((laws_markTasks.f k t4 1).bind fun t10 => if t10.1 < 0 then (some false) else ((laws_eqInt64S.f k t5.1 t3.1).bind fun t11 => if t11 = true then ((laws_eqInt64S.f k t5.2.1 t3.2.1).bind fun t12 => if t12 = true then (if t5.2.2 = t3.2.2 then ((laws_markInt64S.f k t5.1 1).bind fun t13 => (laws_markInt64S.f k t5.2.1 t13.1).bind fun t14 => (laws_heldInt64S.f k t13.2 1).bind fun t15 => if t15 < 0 then (some false) else ((laws_heldInt64S.f k t14.2 t15).bind fun t16 => if t16 < 0 then (some false) else (if t16 = t14.1 then ((laws_toTasks.f k l0_0).bind fun t17 => (impl_LeastPlay.f k t17).bind fun t18 => (laws_eqInt64S.f k t18.1 t3.1).bind fun t19 => if t19 = true then ((laws_eqInt64S.f k t18.2.1 t3.2.1).bind fun t20 => if t20 = true then (if t18.2.2 = t3.2.2 then ((laws_heldInt64S.f k t13.2 1).bind fun t21 => if t21 < 0 then (some false) else ((laws_heldInt64S.f k t14.2 t21).bind fun t22 => if t22 < 0 then (some false) else (if t22 = t14.1 then (some true) else (some false)))) else (some false)) else (some false)) else (some false)) else (some false)))) else (some false)) else (some false)) else (some false))) else (some false)) else (some false)) else (some false)) else (some false))
noncomputable def S7 (k : Nat) : Does := ⟨[(true, [.dat (.list (.int .i64))])], [(false, [.dat .bool])], fun x => laws_FnExactLeastPlay.f k x⟩
noncomputable def E7 (k : Nat) : En := ⟨tb, orcOf [(15, S15 k), (17, S17 k), (28, S28 k), (29, S29 k), (25, S25 k), (19, S19 k), (30, S30 k), (31, S31 k), (32, S32 k)], lvOf [], k, 0, lvOf [], []⟩
theorem e7 (k : Nat) (x : dens (flatC (S7 k).ps)) : funK (E7 k) (S7 k) Try.f7 x = (S7 k).fn x := by
  kernel_rfl
theorem M7 (k : Nat) : Meets Try.prog 7 (S7 k) := meets_of Try.func7 (by kernel_rfl) tbOk (orc_cons (M15 k) (orc_cons (M17 k) (orc_cons (M28 k) (orc_cons (M29 k) (orc_cons (M25 k) (orc_cons (M19 k) (orc_cons (M30 k) (orc_cons (M31 k) (orc_cons (M32 k) orc_nil))))))))) mixOk (fun x y h => (e7 k x).trans h) rfl

/-! spec_KeepingChoices: function 33 -/
noncomputable def spec_KeepingChoices.f (k : Nat) (l0_0 : List Int) (l1 : List Int) : Option ((List Int) × Int) := (spec_l02Given.f k l0_0 l1).bind fun t1 => if t1 = 0 then ((spec_l02Lasting.f k l0_0).bind fun t2 => (spec_l02Number.f k l0_0 l1).bind fun t3 => if 0 ≤ t3 then (if t3 < (t2.length : Int) then (if (rdOf false t2 t3) = true then ((spec_l02Keeping.f k l0_0 t2 l1).bind fun t4 => some (t4, 0)) else (some ([], 5))) else (none)) else (none)) else (some ([], t1))
noncomputable def S33 (k : Nat) : Does := ⟨[(true, [.dat (.list (.int .i64))]), (false, [.dat (.list (.int .i64))])], [(false, [.own 2 (.int .i64)]), (false, [.dat (.int .i64)])], fun x => spec_KeepingChoices.f k x.1 x.2⟩
noncomputable def E33 (k : Nat) : En := ⟨tb, orcOf [(57, S57 k), (53, S53 k), (58, S58 k), (68, S68 k)], lvOf [], k, 0, lvOf [], []⟩
theorem e33 (k : Nat) (x : dens (flatC (S33 k).ps)) : funK (E33 k) (S33 k) Try.f33 x = (S33 k).fn x := by
  kernel_rfl
theorem M33 (k : Nat) : Meets Try.prog 33 (S33 k) := meets_of Try.func33 (by kernel_rfl) tbOk (orc_cons (M57 k) (orc_cons (M53 k) (orc_cons (M58 k) (orc_cons (M68 k) orc_nil)))) mixOk (fun x y h => (e33 k x).trans h) rfl

/-! impl_KeepingChoices: function 34 -/
noncomputable def impl_KeepingChoices.f (k : Nat) (l0_0 : List Int) (l1 : List Int) : Option ((List Int) × Int) := (impl_Tasks_isState.f k l0_0 l1).bind fun t1 => (impl_statesCode.f k l0_0 t1).bind fun t2 => if t2 = 0 then ((impl_graphOf.f k l0_0).bind fun t3 => (impl_Tasks_number.f k l0_0 l1).bind fun t4 => if 0 ≤ t4 then (if t4 < (t3.2.2.length : Int) then (if (rdOf false t3.2.2 t4) = true then ((impl_Tasks_number.f k l0_0 l1).bind fun t5 => (impl_graph_keeping.f k t3 t5).bind fun t6 => some (t6, 0)) else (some ([], 5))) else (none)) else (none)) else (some ([], t2))
noncomputable def S34 (k : Nat) : Does := ⟨[(true, [.dat (.list (.int .i64))]), (false, [.dat (.list (.int .i64))])], [(false, [.own 2 (.int .i64)]), (false, [.dat (.int .i64)])], fun x => impl_KeepingChoices.f k x.1 x.2⟩
noncomputable def E34 (k : Nat) : En := ⟨tb, orcOf [(59, S59 k), (54, S54 k), (55, S55 k), (60, S60 k), (72, S72 k)], lvOf [], k, 0, lvOf [], []⟩
theorem e34 (k : Nat) (x : dens (flatC (S34 k).ps)) : funK (E34 k) (S34 k) Try.f34 x = (S34 k).fn x := by
  kernel_rfl
theorem M34 (k : Nat) : Meets Try.prog 34 (S34 k) := meets_of Try.func34 (by kernel_rfl) tbOk (orc_cons (M59 k) (orc_cons (M54 k) (orc_cons (M55 k) (orc_cons (M60 k) (orc_cons (M72 k) orc_nil))))) mixOk (fun x y h => (e34 k x).trans h) rfl

/-! laws_FnExactKeepingChoices: function 8 -/
noncomputable def laws_FnExactKeepingChoices.f (k : Nat) (l0_0 : List Int) (l1 : List Int) : Option (Bool) := if 1048576 < (l1.length : Int) then (some true) else ((laws_szTasks.f l0_0 1048576).bind fun t1 => if t1 < 0 then (some true) else ((laws_toTasks.f k l0_0).bind fun t2 => (laws_toInt64S.f k l1).bind fun t3 => (spec_KeepingChoices.f k t2 t3).bind fun t4 => (laws_toTasks.f k l0_0).bind fun t5 => (laws_toInt64S.f k l1).bind fun t6 => (impl_KeepingChoices.f k t5 t6).bind fun t7 => (laws_eqInt64S.f k t7.1 t4.1).bind fun t8 => if t8 = true then (if t7.2 = t4.2 then ((laws_toTasks.f k l0_0).bind fun t9 => (laws_eqTasks.f k t5 t9).bind fun t10 => if t10 = true then ((laws_toInt64S.f k l1).bind fun t11 => (laws_eqInt64S.f k t6 t11).bind fun t12 => if t12 = true then ((laws_markTasks.f k t5 1).bind fun t13 => (laws_markInt64S.f k t6 t13.1).bind fun t14 => if t14.1 < 0 then (some false) else ((laws_eqInt64S.f k t7.1 t4.1).bind fun t15 => if t15 = true then (if t7.2 = t4.2 then ((laws_markInt64S.f k t7.1 1).bind fun t16 => (laws_heldInt64S.f k t16.2 1).bind fun t17 => if t17 < 0 then (some false) else (if t17 = t16.1 then ((laws_toTasks.f k l0_0).bind fun t18 => (laws_toInt64S.f k l1).bind fun t19 => (impl_KeepingChoices.f k t18 t19).bind fun t20 => (laws_eqInt64S.f k t20.1 t4.1).bind fun t21 => if t21 = true then (if t20.2 = t4.2 then ((laws_heldInt64S.f k t16.2 1).bind fun t22 => if t22 < 0 then (some false) else (if t22 = t16.1 then (some true) else (some false))) else (some false)) else (some false)) else (some false))) else (some false)) else (some false))) else (some false)) else (some false)) else (some false)) else (some false)))
noncomputable def S8 (k : Nat) : Does := ⟨[(true, [.dat (.list (.int .i64))]), (false, [.dat (.list (.int .i64))])], [(false, [.dat .bool])], fun x => laws_FnExactKeepingChoices.f k x.1 x.2⟩
noncomputable def E8 (k : Nat) : En := ⟨tb, orcOf [(15, S15 k), (17, S17 k), (23, S23 k), (33, S33 k), (34, S34 k), (25, S25 k), (19, S19 k), (30, S30 k), (31, S31 k), (32, S32 k)], lvOf [], k, 0, lvOf [], []⟩
theorem e8 (k : Nat) (x : dens (flatC (S8 k).ps)) : funK (E8 k) (S8 k) Try.f8 x = (S8 k).fn x := by
  kernel_rfl
theorem M8 (k : Nat) : Meets Try.prog 8 (S8 k) := meets_of Try.func8 (by kernel_rfl) tbOk (orc_cons (M15 k) (orc_cons (M17 k) (orc_cons (M23 k) (orc_cons (M33 k) (orc_cons (M34 k) (orc_cons (M25 k) (orc_cons (M19 k) (orc_cons (M30 k) (orc_cons (M31 k) (orc_cons (M32 k) orc_nil)))))))))) mixOk (fun x y h => (e8 k x).trans h) rfl

/-! spec_l02Back: function 83 -/
noncomputable def spec_l02Back.s2 (k : Nat) (r1 : (List Bool) → Int → (List Int) → (List Bool) → (List Int) → Int → (List Int) → Int → Option (Int)) (r2 : (List Bool) → Int → (List Int) → (List Bool) → (List Int) → Int → (List Int) → Int → (List Int) → Int → Option (Int)) (x1 : List Bool) (x2 : Int) (x3_0 : List Int) (x7 : List Bool) (x8 : List Int) (x9 : Int) (x10 : List Int) (x11 : Int) (x12 : List Int) (x13 : Int) : Option (Int) := (spec_l01K.f x3_0).bind fun t2 => if x13 < t2 then ((spec_l02Step.f k x3_0 x12 x13).bind fun t3 => if t3.2 = true then ((spec_l02Number.f k x3_0 t3.1).bind fun t4 => if t4 = x2 then (some x9) else (if 0 ≤ t4 then (if t4 < (x1.length : Int) then (if (rdOf false x1 t4) = true then (if 0 ≤ t4 then (if t4 < (x7.length : Int) then (if (rdOf false x7 t4) = true then (r2 x1 x2 x3_0 x7 x8 x9 x10 x11 x12 (wrap64 (x13 + 1))) else (if 0 ≤ t4 then (if t4 < (x7.length : Int) then (if x10.length + 1 ≤ 1099511627776 then (r2 x1 x2 x3_0 (x7.set t4.toNat true) x8 x9 (x10 ++ [t4]) x11 x12 (wrap64 (x13 + 1))) else (none)) else (none)) else (none))) else (none)) else (none)) else (r2 x1 x2 x3_0 x7 x8 x9 x10 x11 x12 (wrap64 (x13 + 1)))) else (none)) else (none))) else (r2 x1 x2 x3_0 x7 x8 x9 x10 x11 x12 (wrap64 (x13 + 1)))) else (r1 x1 x2 x3_0 x7 x8 x9 x10 (wrap64 (x11 + 1)))
noncomputable def spec_l02Back.l2 (k : Nat) (r0 : (List Bool) → Int → (List Int) → (List Bool) → (List Int) → Int → Option (Int)) (r1 : (List Bool) → Int → (List Int) → (List Bool) → (List Int) → Int → (List Int) → Int → Option (Int)) : Nat → (List Bool) → Int → (List Int) → (List Bool) → (List Int) → Int → (List Int) → Int → (List Int) → Int → Option (Int)
  | 0, _, _, _, _, _, _, _, _, _, _ => none
  | n + 1, x0, x1, x2, x3, x4, x5, x6, x7, x8, x9 => spec_l02Back.s2 k r1 (spec_l02Back.l2 k r0 r1 n) x0 x1 x2 x3 x4 x5 x6 x7 x8 x9
noncomputable def spec_l02Back.s1 (k : Nat) (r0 : (List Bool) → Int → (List Int) → (List Bool) → (List Int) → Int → Option (Int)) (r1 : (List Bool) → Int → (List Int) → (List Bool) → (List Int) → Int → (List Int) → Int → Option (Int)) (r2 : (List Bool) → Int → (List Int) → (List Bool) → (List Int) → Int → (List Int) → Int → (List Int) → Int → Option (Int)) (x1 : List Bool) (x2 : Int) (x3_0 : List Int) (x7 : List Bool) (x8 : List Int) (x9 : Int) (x10 : List Int) (x11 : Int) : Option (Int) := if x11 < (x8.length : Int) then (if 0 ≤ x11 then (if x11 < (x8.length : Int) then ((spec_l02Of.f k x3_0 (rd x8 x11)).bind fun t1 => r2 x1 x2 x3_0 x7 x8 x9 x10 x11 t1 (-1)) else (none)) else (none)) else (r0 x1 x2 x3_0 x7 x10 (wrap64 (x9 + 1)))
noncomputable def spec_l02Back.l1 (k : Nat) (r0 : (List Bool) → Int → (List Int) → (List Bool) → (List Int) → Int → Option (Int)) : Nat → (List Bool) → Int → (List Int) → (List Bool) → (List Int) → Int → (List Int) → Int → Option (Int)
  | 0, _, _, _, _, _, _, _, _ => none
  | n + 1, x0, x1, x2, x3, x4, x5, x6, x7 => spec_l02Back.s1 k r0 (spec_l02Back.l1 k r0 n) (spec_l02Back.l2 k r0 (spec_l02Back.l1 k r0 n) k) x0 x1 x2 x3 x4 x5 x6 x7
noncomputable def spec_l02Back.s0 (k : Nat) (r0 : (List Bool) → Int → (List Int) → (List Bool) → (List Int) → Int → Option (Int)) (r1 : (List Bool) → Int → (List Int) → (List Bool) → (List Int) → Int → (List Int) → Int → Option (Int)) (x1 : List Bool) (x2 : Int) (x3_0 : List Int) (x7 : List Bool) (x8 : List Int) (x9 : Int) : Option (Int) := if 0 < (x8.length : Int) then (r1 x1 x2 x3_0 x7 x8 x9 [] 0) else (some 0)
noncomputable def spec_l02Back.l0 (k : Nat) : Nat → (List Bool) → Int → (List Int) → (List Bool) → (List Int) → Int → Option (Int)
  | 0, _, _, _, _, _, _ => none
  | n + 1, x0, x1, x2, x3, x4, x5 => spec_l02Back.s0 k (spec_l02Back.l0 k n) (spec_l02Back.l1 k (spec_l02Back.l0 k n) k) x0 x1 x2 x3 x4 x5
noncomputable def spec_l02Back.g (k : Nat) (r0 : (List Bool) → Int → (List Int) → (List Bool) → (List Int) → Int → Option (Int)) (l0_0 : List Int) (l1 : List Bool) (a2 : Int) : Option (Int) := if 0 ≤ (l1.length : Int) then (if (l1.length : Int) ≤ (l1.length : Int) then (if (l1.length : Int).toNat ≤ 1099511627776 then (r0 l1 a2 l0_0 (List.replicate (l1.length : Int).toNat (false : Bool)) [a2] 1) else (none)) else (none)) else (none)
noncomputable def spec_l02Back.f (k : Nat) (l0_0 : List Int) (l1 : List Bool) (a2 : Int) : Option (Int) := spec_l02Back.g k (spec_l02Back.l0 k k) l0_0 l1 a2
noncomputable def S83 (k : Nat) : Does := ⟨[(true, [.dat (.list (.int .i64))]), (false, [.dat (.list .bool)]), (false, [.dat (.int .i64)])], [(false, [.dat (.int .i64)])], fun x => spec_l02Back.f k x.1 x.2.1 x.2.2⟩
noncomputable def E83 (k : Nat) : En := ⟨tb, orcOf [(82, S82 k), (90, S90 k), (63, S63 k), (58, S58 k)], lvOf [(0, [(1, []), (2, []), (3, []), (7, []), (8, []), (9, [])]), (2, [(1, []), (2, []), (3, []), (7, []), (8, []), (9, []), (10, []), (11, [])]), (4, [(1, []), (2, []), (3, []), (7, []), (8, []), (9, []), (10, []), (11, []), (12, []), (13, [])])], k, 0, lvOf [], []⟩
noncomputable def n83_0 (x1 : List Bool) (x2 : Int) (x3_0 : List Int) (x7 : List Bool) (x8 : List Int) (x9 : Int) : St := ⟨81, lookA [(1, .dat (.list .bool) x1), (2, .dat (.int .i64) x2), (3, .box 0 0), (7, .own 1), (8, .own 2), (9, .dat (.int .i64) x9)], Go.V.look [(0, .cells [.dat (.list (.int .i64)) x3_0]), (1, .flat 4 .bool x7), (2, .flat 2 (.int .i64) x8)]⟩
def p83_0 : List Bool := [true, true, false, true, false]
noncomputable def n83_1 (x1 : List Bool) (x2 : Int) (x3_0 : List Int) (x7 : List Bool) (x8 : List Int) (x9 : Int) (x10 : List Int) (x11 : Int) : St := ⟨81, lookA [(1, .dat (.list .bool) x1), (2, .dat (.int .i64) x2), (3, .box 0 0), (7, .own 1), (8, .own 2), (9, .dat (.int .i64) x9), (10, .own 3), (11, .dat (.int .i64) x11)], Go.V.look [(0, .cells [.dat (.list (.int .i64)) x3_0]), (1, .flat 4 .bool x7), (2, .flat 2 (.int .i64) x8), (3, .flat 2 (.int .i64) x10)]⟩
def p83_1 : List Bool := [true, true, false, true, false, false, true, false, false, true, false, true, false]
noncomputable def n83_2 (x1 : List Bool) (x2 : Int) (x3_0 : List Int) (x7 : List Bool) (x8 : List Int) (x9 : Int) (x10 : List Int) (x11 : Int) (x12 : List Int) (x13 : Int) : St := ⟨81, lookA [(1, .dat (.list .bool) x1), (2, .dat (.int .i64) x2), (3, .box 0 0), (7, .own 1), (8, .own 2), (9, .dat (.int .i64) x9), (10, .own 3), (11, .dat (.int .i64) x11), (12, .own 4), (13, .dat (.int .i64) x13)], Go.V.look [(0, .cells [.dat (.list (.int .i64)) x3_0]), (1, .flat 4 .bool x7), (2, .flat 2 (.int .i64) x8), (3, .flat 2 (.int .i64) x10), (4, .flat 2 (.int .i64) x12)]⟩
def p83_2 : List Bool := [true, true, false, true, false, false, true, false, false, true, false, true, false, false, true, false, false, true, true, false]
theorem r83_2 (k : Nat) (R0 : St → Option (Int)) (R1 : St → Option (Int)) (rec : St → Option (Int)) (v : (List Bool) × Int × (List Int) × (List Bool) × (List Int) × Int × (List Int) × Int × (List Int) × Int) : roundF (E83 k) (S83 k) Try.f83 p83_2 [R0, R1] rec (n83_2 v.1 v.2.1 v.2.2.1 v.2.2.2.1 v.2.2.2.2.1 v.2.2.2.2.2.1 v.2.2.2.2.2.2.1 v.2.2.2.2.2.2.2.1 v.2.2.2.2.2.2.2.2.1 v.2.2.2.2.2.2.2.2.2) = spec_l02Back.s2 k (fun a0 a1 a2 a3 a4 a5 a6 a7 => R1 (n83_1 a0 a1 a2 a3 a4 a5 a6 a7)) (fun a0 a1 a2 a3 a4 a5 a6 a7 a8 a9 => rec (n83_2 a0 a1 a2 a3 a4 a5 a6 a7 a8 a9)) v.1 v.2.1 v.2.2.1 v.2.2.2.1 v.2.2.2.2.1 v.2.2.2.2.2.1 v.2.2.2.2.2.2.1 v.2.2.2.2.2.2.2.1 v.2.2.2.2.2.2.2.2.1 v.2.2.2.2.2.2.2.2.2 := by
  kernel_rfl
theorem q83_2 (k : Nat) (R0 : St → Option (Int)) (R1 : St → Option (Int)) (n : Nat) : ∀ v : (List Bool) × Int × (List Int) × (List Bool) × (List Int) × Int × (List Int) × Int × (List Int) × Int, loopF (E83 k) (S83 k) Try.f83 p83_2 [R0, R1] n (n83_2 v.1 v.2.1 v.2.2.1 v.2.2.2.1 v.2.2.2.2.1 v.2.2.2.2.2.1 v.2.2.2.2.2.2.1 v.2.2.2.2.2.2.2.1 v.2.2.2.2.2.2.2.2.1 v.2.2.2.2.2.2.2.2.2) = spec_l02Back.l2 k (fun a0 a1 a2 a3 a4 a5 => R0 (n83_0 a0 a1 a2 a3 a4 a5)) (fun a0 a1 a2 a3 a4 a5 a6 a7 => R1 (n83_1 a0 a1 a2 a3 a4 a5 a6 a7)) n v.1 v.2.1 v.2.2.1 v.2.2.2.1 v.2.2.2.2.1 v.2.2.2.2.2.1 v.2.2.2.2.2.2.1 v.2.2.2.2.2.2.2.1 v.2.2.2.2.2.2.2.2.1 v.2.2.2.2.2.2.2.2.2 :=
  loopF_eq (E83 k) (S83 k) Try.f83 p83_2 [R0, R1] (fun v : (List Bool) × Int × (List Int) × (List Bool) × (List Int) × Int × (List Int) × Int × (List Int) × Int => n83_2 v.1 v.2.1 v.2.2.1 v.2.2.2.1 v.2.2.2.2.1 v.2.2.2.2.2.1 v.2.2.2.2.2.2.1 v.2.2.2.2.2.2.2.1 v.2.2.2.2.2.2.2.2.1 v.2.2.2.2.2.2.2.2.2) (fun rec v => spec_l02Back.s2 k (fun a0 a1 a2 a3 a4 a5 a6 a7 => R1 (n83_1 a0 a1 a2 a3 a4 a5 a6 a7)) (fun a0 a1 a2 a3 a4 a5 a6 a7 a8 a9 => rec (a0, a1, a2, a3, a4, a5, a6, a7, a8, a9)) v.1 v.2.1 v.2.2.1 v.2.2.2.1 v.2.2.2.2.1 v.2.2.2.2.2.1 v.2.2.2.2.2.2.1 v.2.2.2.2.2.2.2.1 v.2.2.2.2.2.2.2.2.1 v.2.2.2.2.2.2.2.2.2) (fun n v => spec_l02Back.l2 k (fun a0 a1 a2 a3 a4 a5 => R0 (n83_0 a0 a1 a2 a3 a4 a5)) (fun a0 a1 a2 a3 a4 a5 a6 a7 => R1 (n83_1 a0 a1 a2 a3 a4 a5 a6 a7)) n v.1 v.2.1 v.2.2.1 v.2.2.2.1 v.2.2.2.2.1 v.2.2.2.2.2.1 v.2.2.2.2.2.2.1 v.2.2.2.2.2.2.2.1 v.2.2.2.2.2.2.2.2.1 v.2.2.2.2.2.2.2.2.2) (fun _ => rfl) (fun _ _ => rfl) (fun rec v => r83_2 k R0 R1 rec v) n
theorem r83_1 (k : Nat) (R0 : St → Option (Int)) (rec : St → Option (Int)) (G2 : (List Bool) → Int → (List Int) → (List Bool) → (List Int) → Int → (List Int) → Int → (List Int) → Int → Option (Int)) (h2 : ∀ a0 a1 a2 a3 a4 a5 a6 a7 a8 a9, loopF (E83 k) (S83 k) Try.f83 p83_2 [R0, rec] k (n83_2 a0 a1 a2 a3 a4 a5 a6 a7 a8 a9) = G2 a0 a1 a2 a3 a4 a5 a6 a7 a8 a9) (v : (List Bool) × Int × (List Int) × (List Bool) × (List Int) × Int × (List Int) × Int) : roundF (E83 k) (S83 k) Try.f83 p83_1 [R0] rec (n83_1 v.1 v.2.1 v.2.2.1 v.2.2.2.1 v.2.2.2.2.1 v.2.2.2.2.2.1 v.2.2.2.2.2.2.1 v.2.2.2.2.2.2.2) = spec_l02Back.s1 k (fun a0 a1 a2 a3 a4 a5 => R0 (n83_0 a0 a1 a2 a3 a4 a5)) (fun a0 a1 a2 a3 a4 a5 a6 a7 => rec (n83_1 a0 a1 a2 a3 a4 a5 a6 a7)) G2 v.1 v.2.1 v.2.2.1 v.2.2.2.1 v.2.2.2.2.1 v.2.2.2.2.2.1 v.2.2.2.2.2.2.1 v.2.2.2.2.2.2.2 := by
  obtain rfl : (fun a0 a1 a2 a3 a4 a5 a6 a7 a8 a9 => loopF (E83 k) (S83 k) Try.f83 p83_2 [R0, rec] k (n83_2 a0 a1 a2 a3 a4 a5 a6 a7 a8 a9)) = G2 := funext fun a0 => funext fun a1 => funext fun a2 => funext fun a3 => funext fun a4 => funext fun a5 => funext fun a6 => funext fun a7 => funext fun a8 => funext fun a9 => h2 a0 a1 a2 a3 a4 a5 a6 a7 a8 a9
  kernel_rfl
theorem q83_1 (k : Nat) (R0 : St → Option (Int)) (n : Nat) : ∀ v : (List Bool) × Int × (List Int) × (List Bool) × (List Int) × Int × (List Int) × Int, loopF (E83 k) (S83 k) Try.f83 p83_1 [R0] n (n83_1 v.1 v.2.1 v.2.2.1 v.2.2.2.1 v.2.2.2.2.1 v.2.2.2.2.2.1 v.2.2.2.2.2.2.1 v.2.2.2.2.2.2.2) = spec_l02Back.l1 k (fun a0 a1 a2 a3 a4 a5 => R0 (n83_0 a0 a1 a2 a3 a4 a5)) n v.1 v.2.1 v.2.2.1 v.2.2.2.1 v.2.2.2.2.1 v.2.2.2.2.2.1 v.2.2.2.2.2.2.1 v.2.2.2.2.2.2.2 :=
  loopF_eq (E83 k) (S83 k) Try.f83 p83_1 [R0] (fun v : (List Bool) × Int × (List Int) × (List Bool) × (List Int) × Int × (List Int) × Int => n83_1 v.1 v.2.1 v.2.2.1 v.2.2.2.1 v.2.2.2.2.1 v.2.2.2.2.2.1 v.2.2.2.2.2.2.1 v.2.2.2.2.2.2.2) (fun rec v => spec_l02Back.s1 k (fun a0 a1 a2 a3 a4 a5 => R0 (n83_0 a0 a1 a2 a3 a4 a5)) (fun a0 a1 a2 a3 a4 a5 a6 a7 => rec (a0, a1, a2, a3, a4, a5, a6, a7)) (spec_l02Back.l2 k (fun a0 a1 a2 a3 a4 a5 => R0 (n83_0 a0 a1 a2 a3 a4 a5)) (fun a0 a1 a2 a3 a4 a5 a6 a7 => rec (a0, a1, a2, a3, a4, a5, a6, a7)) k) v.1 v.2.1 v.2.2.1 v.2.2.2.1 v.2.2.2.2.1 v.2.2.2.2.2.1 v.2.2.2.2.2.2.1 v.2.2.2.2.2.2.2) (fun n v => spec_l02Back.l1 k (fun a0 a1 a2 a3 a4 a5 => R0 (n83_0 a0 a1 a2 a3 a4 a5)) n v.1 v.2.1 v.2.2.1 v.2.2.2.1 v.2.2.2.2.1 v.2.2.2.2.2.1 v.2.2.2.2.2.2.1 v.2.2.2.2.2.2.2) (fun _ => rfl) (fun _ _ => rfl) (fun rec v => r83_1 k R0 rec _ (fun a0 a1 a2 a3 a4 a5 a6 a7 a8 a9 => q83_2 k R0 rec k (a0, a1, a2, a3, a4, a5, a6, a7, a8, a9)) v) n
theorem r83_0 (k : Nat) (rec : St → Option (Int)) (G1 : (List Bool) → Int → (List Int) → (List Bool) → (List Int) → Int → (List Int) → Int → Option (Int)) (h1 : ∀ a0 a1 a2 a3 a4 a5 a6 a7, loopF (E83 k) (S83 k) Try.f83 p83_1 [rec] k (n83_1 a0 a1 a2 a3 a4 a5 a6 a7) = G1 a0 a1 a2 a3 a4 a5 a6 a7) (v : (List Bool) × Int × (List Int) × (List Bool) × (List Int) × Int) : roundF (E83 k) (S83 k) Try.f83 p83_0 [] rec (n83_0 v.1 v.2.1 v.2.2.1 v.2.2.2.1 v.2.2.2.2.1 v.2.2.2.2.2) = spec_l02Back.s0 k (fun a0 a1 a2 a3 a4 a5 => rec (n83_0 a0 a1 a2 a3 a4 a5)) G1 v.1 v.2.1 v.2.2.1 v.2.2.2.1 v.2.2.2.2.1 v.2.2.2.2.2 := by
  obtain rfl : (fun a0 a1 a2 a3 a4 a5 a6 a7 => loopF (E83 k) (S83 k) Try.f83 p83_1 [rec] k (n83_1 a0 a1 a2 a3 a4 a5 a6 a7)) = G1 := funext fun a0 => funext fun a1 => funext fun a2 => funext fun a3 => funext fun a4 => funext fun a5 => funext fun a6 => funext fun a7 => h1 a0 a1 a2 a3 a4 a5 a6 a7
  kernel_rfl
theorem q83_0 (k : Nat) (n : Nat) : ∀ v : (List Bool) × Int × (List Int) × (List Bool) × (List Int) × Int, loopF (E83 k) (S83 k) Try.f83 p83_0 [] n (n83_0 v.1 v.2.1 v.2.2.1 v.2.2.2.1 v.2.2.2.2.1 v.2.2.2.2.2) = spec_l02Back.l0 k n v.1 v.2.1 v.2.2.1 v.2.2.2.1 v.2.2.2.2.1 v.2.2.2.2.2 :=
  loopF_eq (E83 k) (S83 k) Try.f83 p83_0 [] (fun v : (List Bool) × Int × (List Int) × (List Bool) × (List Int) × Int => n83_0 v.1 v.2.1 v.2.2.1 v.2.2.2.1 v.2.2.2.2.1 v.2.2.2.2.2) (fun rec v => spec_l02Back.s0 k (fun a0 a1 a2 a3 a4 a5 => rec (a0, a1, a2, a3, a4, a5)) (spec_l02Back.l1 k (fun a0 a1 a2 a3 a4 a5 => rec (a0, a1, a2, a3, a4, a5)) k) v.1 v.2.1 v.2.2.1 v.2.2.2.1 v.2.2.2.2.1 v.2.2.2.2.2) (fun n v => spec_l02Back.l0 k n v.1 v.2.1 v.2.2.1 v.2.2.2.1 v.2.2.2.2.1 v.2.2.2.2.2) (fun _ => rfl) (fun _ _ => rfl) (fun rec v => r83_0 k rec _ (fun a0 a1 a2 a3 a4 a5 a6 a7 => q83_1 k rec k (a0, a1, a2, a3, a4, a5, a6, a7)) v) n
theorem e83 (k : Nat) (x : dens (flatC (S83 k).ps)) : funK (E83 k) (S83 k) Try.f83 x = (S83 k).fn x := by
  have h : funK (E83 k) (S83 k) Try.f83 x = spec_l02Back.g k (fun a0 a1 a2 a3 a4 a5 => loopF (E83 k) (S83 k) Try.f83 p83_0 [] k (n83_0 a0 a1 a2 a3 a4 a5)) x.1 x.2.1 x.2.2 := by kernel_rfl
  rw [h]
  rw [show (fun a0 a1 a2 a3 a4 a5 => loopF (E83 k) (S83 k) Try.f83 p83_0 [] k (n83_0 a0 a1 a2 a3 a4 a5)) = spec_l02Back.l0 k k from funext fun a0 => funext fun a1 => funext fun a2 => funext fun a3 => funext fun a4 => funext fun a5 => q83_0 k k (a0, a1, a2, a3, a4, a5)]
  rfl
theorem M83 (k : Nat) : Meets Try.prog 83 (S83 k) := meets_of Try.func83 (by kernel_rfl) tbOk (orc_cons (M82 k) (orc_cons (M90 k) (orc_cons (M63 k) (orc_cons (M58 k) orc_nil)))) mixOk (fun x y h => (e83 k x).trans h) rfl

/-! spec_FewestSlots: function 40 -/
noncomputable def spec_FewestSlots.s0 (k : Nat) (r0 : (List Int) → (List Bool) → Int → Int → Option (Int × Int)) (x1_0 : List Int) (x5 : List Bool) (x6 : Int) (x7 : Int) : Option (Int × Int) := if x7 < (x5.length : Int) then (if 0 ≤ x7 then (if x7 < (x5.length : Int) then (if (rdOf false x5 x7) = true then ((spec_l02Of.f k x1_0 x7).bind fun t3 => if 0 < (t3.length : Int) then (if 0 < (x1_0.length : Int) then (if (rd t3 0) = (rd x1_0 0) then ((spec_l02Back.f k x1_0 x5 x7).bind fun t4 => if 0 < t4 then (if x6 = 0 then (r0 x1_0 x5 t4 (wrap64 (x7 + 1))) else (if t4 < x6 then (r0 x1_0 x5 t4 (wrap64 (x7 + 1))) else (r0 x1_0 x5 x6 (wrap64 (x7 + 1))))) else (r0 x1_0 x5 x6 (wrap64 (x7 + 1)))) else (r0 x1_0 x5 x6 (wrap64 (x7 + 1)))) else (none)) else (none)) else (r0 x1_0 x5 x6 (wrap64 (x7 + 1)))) else (none)) else (none)) else (some (x6, 0))
noncomputable def spec_FewestSlots.l0 (k : Nat) : Nat → (List Int) → (List Bool) → Int → Int → Option (Int × Int)
  | 0, _, _, _, _ => none
  | n + 1, x0, x1, x2, x3 => spec_FewestSlots.s0 k (spec_FewestSlots.l0 k n) x0 x1 x2 x3
noncomputable def spec_FewestSlots.g (k : Nat) (r0 : (List Int) → (List Bool) → Int → Int → Option (Int × Int)) (l0_0 : List Int) : Option (Int × Int) := (spec_l02Few.f k l0_0).bind fun t1 => if t1 = 0 then ((spec_l02Lasting.f k l0_0).bind fun t2 => if 0 ≤ (wrap64 ((t2.length : Int) - 1)) then (if (wrap64 ((t2.length : Int) - 1)) < (t2.length : Int) then (if (rdOf false t2 (wrap64 ((t2.length : Int) - 1))) = true then (r0 l0_0 t2 0 0) else (some (0, 4))) else (none)) else (none)) else (some (0, t1))
noncomputable def spec_FewestSlots.f (k : Nat) (l0_0 : List Int) : Option (Int × Int) := spec_FewestSlots.g k (spec_FewestSlots.l0 k k) l0_0
noncomputable def S40 (k : Nat) : Does := ⟨[(true, [.dat (.list (.int .i64))])], [(false, [.dat (.int .i64)]), (false, [.dat (.int .i64)])], fun x => spec_FewestSlots.f k x⟩
noncomputable def E40 (k : Nat) : En := ⟨tb, orcOf [(52, S52 k), (53, S53 k), (82, S82 k), (83, S83 k)], lvOf [(0, [(1, []), (5, []), (6, []), (7, [])])], k, 0, lvOf [], []⟩
noncomputable def n40_0 (x1_0 : List Int) (x5 : List Bool) (x6 : Int) (x7 : Int) : St := ⟨63, lookA [(1, .box 0 0), (5, .own 1), (6, .dat (.int .i64) x6), (7, .dat (.int .i64) x7)], Go.V.look [(0, .cells [.dat (.list (.int .i64)) x1_0]), (1, .flat 4 .bool x5)]⟩
def p40_0 : List Bool := [true, true, true, true, false, true, false]
theorem r40_0 (k : Nat) (rec : St → Option (Int × Int)) (v : (List Int) × (List Bool) × Int × Int) : roundF (E40 k) (S40 k) Try.f40 p40_0 [] rec (n40_0 v.1 v.2.1 v.2.2.1 v.2.2.2) = spec_FewestSlots.s0 k (fun a0 a1 a2 a3 => rec (n40_0 a0 a1 a2 a3)) v.1 v.2.1 v.2.2.1 v.2.2.2 := by
  kernel_rfl
theorem q40_0 (k : Nat) (n : Nat) : ∀ v : (List Int) × (List Bool) × Int × Int, loopF (E40 k) (S40 k) Try.f40 p40_0 [] n (n40_0 v.1 v.2.1 v.2.2.1 v.2.2.2) = spec_FewestSlots.l0 k n v.1 v.2.1 v.2.2.1 v.2.2.2 :=
  loopF_eq (E40 k) (S40 k) Try.f40 p40_0 [] (fun v : (List Int) × (List Bool) × Int × Int => n40_0 v.1 v.2.1 v.2.2.1 v.2.2.2) (fun rec v => spec_FewestSlots.s0 k (fun a0 a1 a2 a3 => rec (a0, a1, a2, a3)) v.1 v.2.1 v.2.2.1 v.2.2.2) (fun n v => spec_FewestSlots.l0 k n v.1 v.2.1 v.2.2.1 v.2.2.2) (fun _ => rfl) (fun _ _ => rfl) (fun rec v => r40_0 k rec v) n
theorem e40 (k : Nat) (x : dens (flatC (S40 k).ps)) : funK (E40 k) (S40 k) Try.f40 x = (S40 k).fn x := by
  have h : funK (E40 k) (S40 k) Try.f40 x = spec_FewestSlots.g k (fun a0 a1 a2 a3 => loopF (E40 k) (S40 k) Try.f40 p40_0 [] k (n40_0 a0 a1 a2 a3)) x := by kernel_rfl
  rw [h]
  rw [show (fun a0 a1 a2 a3 => loopF (E40 k) (S40 k) Try.f40 p40_0 [] k (n40_0 a0 a1 a2 a3)) = spec_FewestSlots.l0 k k from funext fun a0 => funext fun a1 => funext fun a2 => funext fun a3 => q40_0 k k (a0, a1, a2, a3)]
  rfl
theorem M40 (k : Nat) : Meets Try.prog 40 (S40 k) := meets_of Try.func40 (by kernel_rfl) tbOk (orc_cons (M52 k) (orc_cons (M53 k) (orc_cons (M82 k) (orc_cons (M83 k) orc_nil)))) mixOk (fun x y h => (e40 k x).trans h) rfl

/-! slices_Max_int64_int64: function 85 -/
noncomputable def slices_Max_int64_int64.s0 (k : Nat) (r0 : (List Int) → Int → Int → Option (Int)) (x0 : List Int) (x3 : Int) (x4 : Int) : Option (Int) := if x4 < (x0.length : Int) then (if 0 ≤ x4 then (if x4 < (x0.length : Int) then (r0 x0 (maxV x3 (rd x0 x4)) (wrap64 (x4 + 1))) else (none)) else (none)) else (some x3)
noncomputable def slices_Max_int64_int64.l0 (k : Nat) : Nat → (List Int) → Int → Int → Option (Int)
  | 0, _, _, _ => none
  | n + 1, x0, x1, x2 => slices_Max_int64_int64.s0 k (slices_Max_int64_int64.l0 k n) x0 x1 x2
noncomputable def slices_Max_int64_int64.g (k : Nat) (r0 : (List Int) → Int → Int → Option (Int)) (l0 : List Int) : Option (Int) := if (l0.length : Int) < 1 then (none) else (if 0 < (l0.length : Int) then (r0 l0 (rd l0 0) 1) else (none))
noncomputable def slices_Max_int64_int64.f (k : Nat) (l0 : List Int) : Option (Int) := slices_Max_int64_int64.g k (slices_Max_int64_int64.l0 k k) l0
noncomputable def S85 (k : Nat) : Does := ⟨[(false, [.dat (.list (.int .i64))])], [(false, [.dat (.int .i64)])], fun x => slices_Max_int64_int64.f k x⟩
noncomputable def E85 (k : Nat) : En := ⟨tb, orcOf [], lvOf [(0, [(0, []), (3, []), (4, [])])], k, 0, lvOf [], []⟩
noncomputable def n85_0 (x0 : List Int) (x3 : Int) (x4 : Int) : St := ⟨25, lookA [(0, .dat (.list (.int .i64)) x0), (3, .dat (.int .i64) x3), (4, .dat (.int .i64) x4)], Go.V.look []⟩
def p85_0 : List Bool := [true, true, true, false, true, false]
theorem r85_0 (k : Nat) (rec : St → Option (Int)) (v : (List Int) × Int × Int) : roundF (E85 k) (S85 k) Try.f85 p85_0 [] rec (n85_0 v.1 v.2.1 v.2.2) = slices_Max_int64_int64.s0 k (fun a0 a1 a2 => rec (n85_0 a0 a1 a2)) v.1 v.2.1 v.2.2 := by
  kernel_rfl
theorem q85_0 (k : Nat) (n : Nat) : ∀ v : (List Int) × Int × Int, loopF (E85 k) (S85 k) Try.f85 p85_0 [] n (n85_0 v.1 v.2.1 v.2.2) = slices_Max_int64_int64.l0 k n v.1 v.2.1 v.2.2 :=
  loopF_eq (E85 k) (S85 k) Try.f85 p85_0 [] (fun v : (List Int) × Int × Int => n85_0 v.1 v.2.1 v.2.2) (fun rec v => slices_Max_int64_int64.s0 k (fun a0 a1 a2 => rec (a0, a1, a2)) v.1 v.2.1 v.2.2) (fun n v => slices_Max_int64_int64.l0 k n v.1 v.2.1 v.2.2) (fun _ => rfl) (fun _ _ => rfl) (fun rec v => r85_0 k rec v) n
theorem e85 (k : Nat) (x : dens (flatC (S85 k).ps)) : funK (E85 k) (S85 k) Try.f85 x = (S85 k).fn x := by
  have h : funK (E85 k) (S85 k) Try.f85 x = slices_Max_int64_int64.g k (fun a0 a1 a2 => loopF (E85 k) (S85 k) Try.f85 p85_0 [] k (n85_0 a0 a1 a2)) x := by kernel_rfl
  rw [h]
  rw [show (fun a0 a1 a2 => loopF (E85 k) (S85 k) Try.f85 p85_0 [] k (n85_0 a0 a1 a2)) = slices_Max_int64_int64.l0 k k from funext fun a0 => funext fun a1 => funext fun a2 => q85_0 k k (a0, a1, a2)]
  rfl
theorem M85 (k : Nat) : Meets Try.prog 85 (S85 k) := meets_of Try.func85 (by kernel_rfl) tbOk orc_nil mixOk (fun x y h => (e85 k x).trans h) rfl

/-! slices_Index_int64_int64: function 84 -/
noncomputable def slices_Index_int64_int64.s0 (k : Nat) (r0 : (List Int) → Int → Int → Int → Option (Int)) (x0 : List Int) (x1 : Int) (x7 : Int) (x8 : Int) : Option (Int) := if x8 < x7 then (if 0 ≤ x8 then (if x8 < (x0.length : Int) then (if x1 = (rd x0 x8) then (some x8) else (r0 x0 x1 x7 (wrap64 (x8 + 1)))) else (none)) else (none)) else (some (-1))
noncomputable def slices_Index_int64_int64.l0 (k : Nat) : Nat → (List Int) → Int → Int → Int → Option (Int)
  | 0, _, _, _, _ => none
  | n + 1, x0, x1, x2, x3 => slices_Index_int64_int64.s0 k (slices_Index_int64_int64.l0 k n) x0 x1 x2 x3
noncomputable def slices_Index_int64_int64.g (k : Nat) (r0 : (List Int) → Int → Int → Int → Option (Int)) (l0 : List Int) (a1 : Int) : Option (Int) := r0 l0 a1 (l0.length : Int) 0
noncomputable def slices_Index_int64_int64.f (k : Nat) (l0 : List Int) (a1 : Int) : Option (Int) := slices_Index_int64_int64.g k (slices_Index_int64_int64.l0 k k) l0 a1
noncomputable def S84 (k : Nat) : Does := ⟨[(false, [.dat (.list (.int .i64))]), (false, [.dat (.int .i64)])], [(false, [.dat (.int .i64)])], fun x => slices_Index_int64_int64.f k x.1 x.2⟩
noncomputable def E84 (k : Nat) : En := ⟨tb, orcOf [], lvOf [(0, [(0, []), (1, []), (7, []), (8, [])])], k, 0, lvOf [], []⟩
noncomputable def n84_0 (x0 : List Int) (x1 : Int) (x7 : Int) (x8 : Int) : St := ⟨19, lookA [(0, .dat (.list (.int .i64)) x0), (1, .dat (.int .i64) x1), (7, .dat (.int .i64) x7), (8, .dat (.int .i64) x8)], Go.V.look []⟩
def p84_0 : List Bool := [true, false, true, false]
theorem r84_0 (k : Nat) (rec : St → Option (Int)) (v : (List Int) × Int × Int × Int) : roundF (E84 k) (S84 k) Try.f84 p84_0 [] rec (n84_0 v.1 v.2.1 v.2.2.1 v.2.2.2) = slices_Index_int64_int64.s0 k (fun a0 a1 a2 a3 => rec (n84_0 a0 a1 a2 a3)) v.1 v.2.1 v.2.2.1 v.2.2.2 := by
  kernel_rfl
theorem q84_0 (k : Nat) (n : Nat) : ∀ v : (List Int) × Int × Int × Int, loopF (E84 k) (S84 k) Try.f84 p84_0 [] n (n84_0 v.1 v.2.1 v.2.2.1 v.2.2.2) = slices_Index_int64_int64.l0 k n v.1 v.2.1 v.2.2.1 v.2.2.2 :=
  loopF_eq (E84 k) (S84 k) Try.f84 p84_0 [] (fun v : (List Int) × Int × Int × Int => n84_0 v.1 v.2.1 v.2.2.1 v.2.2.2) (fun rec v => slices_Index_int64_int64.s0 k (fun a0 a1 a2 a3 => rec (a0, a1, a2, a3)) v.1 v.2.1 v.2.2.1 v.2.2.2) (fun n v => slices_Index_int64_int64.l0 k n v.1 v.2.1 v.2.2.1 v.2.2.2) (fun _ => rfl) (fun _ _ => rfl) (fun rec v => r84_0 k rec v) n
theorem e84 (k : Nat) (x : dens (flatC (S84 k).ps)) : funK (E84 k) (S84 k) Try.f84 x = (S84 k).fn x := by
  have h : funK (E84 k) (S84 k) Try.f84 x = slices_Index_int64_int64.g k (fun a0 a1 a2 a3 => loopF (E84 k) (S84 k) Try.f84 p84_0 [] k (n84_0 a0 a1 a2 a3)) x.1 x.2 := by kernel_rfl
  rw [h]
  rw [show (fun a0 a1 a2 a3 => loopF (E84 k) (S84 k) Try.f84 p84_0 [] k (n84_0 a0 a1 a2 a3)) = slices_Index_int64_int64.l0 k k from funext fun a0 => funext fun a1 => funext fun a2 => funext fun a3 => q84_0 k k (a0, a1, a2, a3)]
  rfl
theorem M84 (k : Nat) : Meets Try.prog 84 (S84 k) := meets_of Try.func84 (by kernel_rfl) tbOk orc_nil mixOk (fun x y h => (e84 k x).trans h) rfl

/-! impl_graph_back: function 87 -/
noncomputable def impl_graph_back.s1 (k : Nat) (r0 : ((List Int) × (List (List (Int × Int))) × (List Bool)) → Int → (List (Int × Int)) → (List Int) → Option (Int)) (r1 : ((List Int) × (List (List (Int × Int))) × (List Bool)) → Int → (List (Int × Int)) → (List Int) → Int → (List Int) → Int → Int → Option (Int)) (x0 : (List Int) × (List (List (Int × Int))) × (List Bool)) (x1 : Int) (x5 : List (Int × Int)) (x6 : List Int) (x7 : Int) (x28 : List Int) (x29 : Int) (x30 : Int) : Option (Int) := if x30 < x29 then (if 0 ≤ x30 then (if x30 < (x28.length : Int) then (if 0 ≤ x7 then (if x7 < (x0.2.1.length : Int) then (if ((mgI (rdOf ([] : List (Int × Int)) x0.2.1 x7) (rd x28 x30)).getD 0) = x1 then (some (wrap64 (((mgI x5 x7).getD 0) + 1))) else (if (mgI x5 ((mgI (rdOf ([] : List (Int × Int)) x0.2.1 x7) (rd x28 x30)).getD 0)).isSome = true then (r1 x0 x1 x5 x6 x7 x28 x29 (wrap64 (x30 + 1))) else (if x6.length + 1 ≤ 1099511627776 then (r1 x0 x1 (mpI x5 ((mgI (rdOf ([] : List (Int × Int)) x0.2.1 x7) (rd x28 x30)).getD 0) (wrap64 (((mgI x5 x7).getD 0) + 1))) (x6 ++ [((mgI (rdOf ([] : List (Int × Int)) x0.2.1 x7) (rd x28 x30)).getD 0)]) x7 x28 x29 (wrap64 (x30 + 1))) else (none)))) else (none)) else (none)) else (none)) else (none)) else (if 1 ≤ (x6.length : Int) then (if (x6.length : Int) ≤ (x6.length : Int) then (r0 x0 x1 x5 (x6.drop (1 : Int).toNat)) else (none)) else (none))
noncomputable def impl_graph_back.l1 (k : Nat) (r0 : ((List Int) × (List (List (Int × Int))) × (List Bool)) → Int → (List (Int × Int)) → (List Int) → Option (Int)) : Nat → ((List Int) × (List (List (Int × Int))) × (List Bool)) → Int → (List (Int × Int)) → (List Int) → Int → (List Int) → Int → Int → Option (Int)
  | 0, _, _, _, _, _, _, _, _ => none
  | n + 1, x0, x1, x2, x3, x4, x5, x6, x7 => impl_graph_back.s1 k r0 (impl_graph_back.l1 k r0 n) x0 x1 x2 x3 x4 x5 x6 x7
noncomputable def impl_graph_back.s0 (k : Nat) (r0 : ((List Int) × (List (List (Int × Int))) × (List Bool)) → Int → (List (Int × Int)) → (List Int) → Option (Int)) (r1 : ((List Int) × (List (List (Int × Int))) × (List Bool)) → Int → (List (Int × Int)) → (List Int) → Int → (List Int) → Int → Int → Option (Int)) (x0 : (List Int) × (List (List (Int × Int))) × (List Bool)) (x1 : Int) (x5 : List (Int × Int)) (x6 : List Int) : Option (Int) := if 0 < (x6.length : Int) then (if 0 < (x6.length : Int) then ((impl_graph_keeping.f k x0 (rd x6 0)).bind fun t1 => r1 x0 x1 x5 x6 (rd x6 0) t1 (t1.length : Int) 0) else (none)) else (some 0)
noncomputable def impl_graph_back.l0 (k : Nat) : Nat → ((List Int) × (List (List (Int × Int))) × (List Bool)) → Int → (List (Int × Int)) → (List Int) → Option (Int)
  | 0, _, _, _, _ => none
  | n + 1, x0, x1, x2, x3 => impl_graph_back.s0 k (impl_graph_back.l0 k n) (impl_graph_back.l1 k (impl_graph_back.l0 k n) k) x0 x1 x2 x3
noncomputable def impl_graph_back.g (k : Nat) (r0 : ((List Int) × (List (List (Int × Int))) × (List Bool)) → Int → (List (Int × Int)) → (List Int) → Option (Int)) (a0 : (List Int) × (List (List (Int × Int))) × (List Bool)) (a1 : Int) : Option (Int) := r0 a0 a1 (mpI [] a1 0) [a1]
noncomputable def impl_graph_back.f (k : Nat) (a0 : (List Int) × (List (List (Int × Int))) × (List Bool)) (a1 : Int) : Option (Int) := impl_graph_back.g k (impl_graph_back.l0 k k) a0 a1
noncomputable def S87 (k : Nat) : Does := ⟨[(false, [.dat (.ptr (.struct (.pair (.struct (.list (.int .i64))) (.pair (.list (.map (.int .i64) (.int .i64))) (.list .bool)))))]), (false, [.dat (.int .i64)])], [(false, [.dat (.int .i64)])], fun x => impl_graph_back.f k x.1 x.2⟩
noncomputable def E87 (k : Nat) : En := ⟨tb, orcOf [(72, S72 k)], lvOf [(0, [(0, []), (1, []), (5, []), (6, [.que])]), (2, [(0, []), (1, []), (5, []), (6, []), (7, []), (28, []), (29, []), (30, [])])], k, 0, lvOf [], []⟩
noncomputable def n87_0 (x0 : (List Int) × (List (List (Int × Int))) × (List Bool)) (x1 : Int) (x5 : List (Int × Int)) (x6 : List Int) : St := ⟨69, lookA [(0, .dp (.struct (.pair (.struct (.list (.int .i64))) (.pair (.list (.map (.int .i64) (.int .i64))) (.list .bool)))) x0), (1, .dat (.int .i64) x1), (5, .om 0), (6, .own 1)], Go.V.look [(0, .mp (.int .i64) (.int .i64) x5), (1, .que 2 (.int .i64) x6)]⟩
def p87_0 : List Bool := [true, true, false, true, false]
noncomputable def n87_1 (x0 : (List Int) × (List (List (Int × Int))) × (List Bool)) (x1 : Int) (x5 : List (Int × Int)) (x6 : List Int) (x7 : Int) (x28 : List Int) (x29 : Int) (x30 : Int) : St := ⟨69, lookA [(0, .dp (.struct (.pair (.struct (.list (.int .i64))) (.pair (.list (.map (.int .i64) (.int .i64))) (.list .bool)))) x0), (1, .dat (.int .i64) x1), (5, .om 0), (6, .own 1), (7, .dat (.int .i64) x7), (28, .own 2), (29, .dat (.int .i64) x29), (30, .dat (.int .i64) x30)], Go.V.look [(0, .mp (.int .i64) (.int .i64) x5), (1, .que 2 (.int .i64) x6), (2, .flat 2 (.int .i64) x28)]⟩
def p87_1 : List Bool := [true, true, false, true, false, false, true, false, false, true, true, false]
theorem r87_1 (k : Nat) (R0 : St → Option (Int)) (rec : St → Option (Int)) (v : ((List Int) × (List (List (Int × Int))) × (List Bool)) × Int × (List (Int × Int)) × (List Int) × Int × (List Int) × Int × Int) : roundF (E87 k) (S87 k) Try.f87 p87_1 [R0] rec (n87_1 v.1 v.2.1 v.2.2.1 v.2.2.2.1 v.2.2.2.2.1 v.2.2.2.2.2.1 v.2.2.2.2.2.2.1 v.2.2.2.2.2.2.2) = impl_graph_back.s1 k (fun a0 a1 a2 a3 => R0 (n87_0 a0 a1 a2 a3)) (fun a0 a1 a2 a3 a4 a5 a6 a7 => rec (n87_1 a0 a1 a2 a3 a4 a5 a6 a7)) v.1 v.2.1 v.2.2.1 v.2.2.2.1 v.2.2.2.2.1 v.2.2.2.2.2.1 v.2.2.2.2.2.2.1 v.2.2.2.2.2.2.2 := by
  kernel_rfl
theorem q87_1 (k : Nat) (R0 : St → Option (Int)) (n : Nat) : ∀ v : ((List Int) × (List (List (Int × Int))) × (List Bool)) × Int × (List (Int × Int)) × (List Int) × Int × (List Int) × Int × Int, loopF (E87 k) (S87 k) Try.f87 p87_1 [R0] n (n87_1 v.1 v.2.1 v.2.2.1 v.2.2.2.1 v.2.2.2.2.1 v.2.2.2.2.2.1 v.2.2.2.2.2.2.1 v.2.2.2.2.2.2.2) = impl_graph_back.l1 k (fun a0 a1 a2 a3 => R0 (n87_0 a0 a1 a2 a3)) n v.1 v.2.1 v.2.2.1 v.2.2.2.1 v.2.2.2.2.1 v.2.2.2.2.2.1 v.2.2.2.2.2.2.1 v.2.2.2.2.2.2.2 :=
  loopF_eq (E87 k) (S87 k) Try.f87 p87_1 [R0] (fun v : ((List Int) × (List (List (Int × Int))) × (List Bool)) × Int × (List (Int × Int)) × (List Int) × Int × (List Int) × Int × Int => n87_1 v.1 v.2.1 v.2.2.1 v.2.2.2.1 v.2.2.2.2.1 v.2.2.2.2.2.1 v.2.2.2.2.2.2.1 v.2.2.2.2.2.2.2) (fun rec v => impl_graph_back.s1 k (fun a0 a1 a2 a3 => R0 (n87_0 a0 a1 a2 a3)) (fun a0 a1 a2 a3 a4 a5 a6 a7 => rec (a0, a1, a2, a3, a4, a5, a6, a7)) v.1 v.2.1 v.2.2.1 v.2.2.2.1 v.2.2.2.2.1 v.2.2.2.2.2.1 v.2.2.2.2.2.2.1 v.2.2.2.2.2.2.2) (fun n v => impl_graph_back.l1 k (fun a0 a1 a2 a3 => R0 (n87_0 a0 a1 a2 a3)) n v.1 v.2.1 v.2.2.1 v.2.2.2.1 v.2.2.2.2.1 v.2.2.2.2.2.1 v.2.2.2.2.2.2.1 v.2.2.2.2.2.2.2) (fun _ => rfl) (fun _ _ => rfl) (fun rec v => r87_1 k R0 rec v) n
theorem r87_0 (k : Nat) (rec : St → Option (Int)) (G1 : ((List Int) × (List (List (Int × Int))) × (List Bool)) → Int → (List (Int × Int)) → (List Int) → Int → (List Int) → Int → Int → Option (Int)) (h1 : ∀ a0 a1 a2 a3 a4 a5 a6 a7, loopF (E87 k) (S87 k) Try.f87 p87_1 [rec] k (n87_1 a0 a1 a2 a3 a4 a5 a6 a7) = G1 a0 a1 a2 a3 a4 a5 a6 a7) (v : ((List Int) × (List (List (Int × Int))) × (List Bool)) × Int × (List (Int × Int)) × (List Int)) : roundF (E87 k) (S87 k) Try.f87 p87_0 [] rec (n87_0 v.1 v.2.1 v.2.2.1 v.2.2.2) = impl_graph_back.s0 k (fun a0 a1 a2 a3 => rec (n87_0 a0 a1 a2 a3)) G1 v.1 v.2.1 v.2.2.1 v.2.2.2 := by
  obtain rfl : (fun a0 a1 a2 a3 a4 a5 a6 a7 => loopF (E87 k) (S87 k) Try.f87 p87_1 [rec] k (n87_1 a0 a1 a2 a3 a4 a5 a6 a7)) = G1 := funext fun a0 => funext fun a1 => funext fun a2 => funext fun a3 => funext fun a4 => funext fun a5 => funext fun a6 => funext fun a7 => h1 a0 a1 a2 a3 a4 a5 a6 a7
  kernel_rfl
theorem q87_0 (k : Nat) (n : Nat) : ∀ v : ((List Int) × (List (List (Int × Int))) × (List Bool)) × Int × (List (Int × Int)) × (List Int), loopF (E87 k) (S87 k) Try.f87 p87_0 [] n (n87_0 v.1 v.2.1 v.2.2.1 v.2.2.2) = impl_graph_back.l0 k n v.1 v.2.1 v.2.2.1 v.2.2.2 :=
  loopF_eq (E87 k) (S87 k) Try.f87 p87_0 [] (fun v : ((List Int) × (List (List (Int × Int))) × (List Bool)) × Int × (List (Int × Int)) × (List Int) => n87_0 v.1 v.2.1 v.2.2.1 v.2.2.2) (fun rec v => impl_graph_back.s0 k (fun a0 a1 a2 a3 => rec (a0, a1, a2, a3)) (impl_graph_back.l1 k (fun a0 a1 a2 a3 => rec (a0, a1, a2, a3)) k) v.1 v.2.1 v.2.2.1 v.2.2.2) (fun n v => impl_graph_back.l0 k n v.1 v.2.1 v.2.2.1 v.2.2.2) (fun _ => rfl) (fun _ _ => rfl) (fun rec v => r87_0 k rec _ (fun a0 a1 a2 a3 a4 a5 a6 a7 => q87_1 k rec k (a0, a1, a2, a3, a4, a5, a6, a7)) v) n
theorem e87 (k : Nat) (x : dens (flatC (S87 k).ps)) : funK (E87 k) (S87 k) Try.f87 x = (S87 k).fn x := by
  have h : funK (E87 k) (S87 k) Try.f87 x = impl_graph_back.g k (fun a0 a1 a2 a3 => loopF (E87 k) (S87 k) Try.f87 p87_0 [] k (n87_0 a0 a1 a2 a3)) x.1 x.2 := by kernel_rfl
  rw [h]
  rw [show (fun a0 a1 a2 a3 => loopF (E87 k) (S87 k) Try.f87 p87_0 [] k (n87_0 a0 a1 a2 a3)) = impl_graph_back.l0 k k from funext fun a0 => funext fun a1 => funext fun a2 => funext fun a3 => q87_0 k k (a0, a1, a2, a3)]
  rfl
theorem M87 (k : Nat) : Meets Try.prog 87 (S87 k) := meets_of Try.func87 (by kernel_rfl) tbOk (orc_cons (M72 k) orc_nil) mixOk (fun x y h => (e87 k x).trans h) rfl

/-! impl_FewestSlots: function 41 -/
noncomputable def impl_FewestSlots.s0 (k : Nat) (r0 : (List Int) → (Option ((List Int) × (List (List (Int × Int))) × (List Bool))) → Int → Int → (List Bool) → Int → Int → Option (Int × Int)) (x1_0 : List Int) (x4 : Option ((List Int) × (List (List (Int × Int))) × (List Bool))) (x6 : Int) (x7 : Int) (x28 : List Bool) (x29 : Int) (x30 : Int) : Option (Int × Int) := if x30 < x29 then (if 0 ≤ x30 then (if x30 < (x28.length : Int) then (if (rdOf false x28 x30) = true then ((impl_Tasks_numbered.f k x1_0 x30).bind fun t5 => if 0 ≤ x6 then (if x6 < (t5.length : Int) then (if 0 ≤ x6 then (if x6 < (x1_0.length : Int) then (if (rd t5 x6) = (rd x1_0 x6) then ((x4).bind fun u6 => (impl_graph_back.f k u6 x30).bind fun t7 => if 0 < t7 then (if x7 = 0 then (r0 x1_0 x4 x6 t7 x28 x29 (wrap64 (x30 + 1))) else (if t7 < x7 then (r0 x1_0 x4 x6 t7 x28 x29 (wrap64 (x30 + 1))) else (r0 x1_0 x4 x6 x7 x28 x29 (wrap64 (x30 + 1))))) else (r0 x1_0 x4 x6 x7 x28 x29 (wrap64 (x30 + 1)))) else (r0 x1_0 x4 x6 x7 x28 x29 (wrap64 (x30 + 1)))) else (none)) else (none)) else (none)) else (none)) else (r0 x1_0 x4 x6 x7 x28 x29 (wrap64 (x30 + 1)))) else (none)) else (none)) else (some (x7, 0))
noncomputable def impl_FewestSlots.l0 (k : Nat) : Nat → (List Int) → (Option ((List Int) × (List (List (Int × Int))) × (List Bool))) → Int → Int → (List Bool) → Int → Int → Option (Int × Int)
  | 0, _, _, _, _, _, _, _ => none
  | n + 1, x0, x1, x2, x3, x4, x5, x6 => impl_FewestSlots.s0 k (impl_FewestSlots.l0 k n) x0 x1 x2 x3 x4 x5 x6
noncomputable def impl_FewestSlots.g (k : Nat) (r0 : (List Int) → (Option ((List Int) × (List (List (Int × Int))) × (List Bool))) → Int → Int → (List Bool) → Int → Int → Option (Int × Int)) (l0_0 : List Int) : Option (Int × Int) := (impl_servable.f k l0_0 true).bind fun t1 => if t1.2 = 0 then ((slices_Max_int64_int64.f k l0_0).bind fun t2 => (slices_Index_int64_int64.f k l0_0 t2).bind fun t3 => (t1.1).bind fun u4 => r0 l0_0 t1.1 t3 0 u4.2.2 (u4.2.2.length : Int) 0) else (some (0, t1.2))
noncomputable def impl_FewestSlots.f (k : Nat) (l0_0 : List Int) : Option (Int × Int) := impl_FewestSlots.g k (impl_FewestSlots.l0 k k) l0_0
noncomputable def S41 (k : Nat) : Does := ⟨[(true, [.dat (.list (.int .i64))])], [(false, [.dat (.int .i64)]), (false, [.dat (.int .i64)])], fun x => impl_FewestSlots.f k x⟩
noncomputable def E41 (k : Nat) : En := ⟨tb, orcOf [(69, S69 k), (85, S85 k), (84, S84 k), (86, S86 k), (87, S87 k)], lvOf [(0, [(1, []), (4, []), (6, []), (7, []), (28, []), (29, []), (30, [])])], k, 0, lvOf [], []⟩
noncomputable def n41_0 (x1_0 : List Int) (x4 : Option ((List Int) × (List (List (Int × Int))) × (List Bool))) (x6 : Int) (x7 : Int) (x28 : List Bool) (x29 : Int) (x30 : Int) : St := ⟨68, lookA [(1, .box 0 0), (4, .dat (.optr (.struct (.pair (.struct (.list (.int .i64))) (.pair (.list (.map (.int .i64) (.int .i64))) (.list .bool))))) x4), (6, .dat (.int .i64) x6), (7, .dat (.int .i64) x7), (28, .dat (.list .bool) x28), (29, .dat (.int .i64) x29), (30, .dat (.int .i64) x30)], Go.V.look [(0, .cells [.dat (.list (.int .i64)) x1_0])]⟩
def p41_0 : List Bool := [true, true, true, true, true, false, true, false]
theorem r41_0 (k : Nat) (rec : St → Option (Int × Int)) (v : (List Int) × (Option ((List Int) × (List (List (Int × Int))) × (List Bool))) × Int × Int × (List Bool) × Int × Int) : roundF (E41 k) (S41 k) Try.f41 p41_0 [] rec (n41_0 v.1 v.2.1 v.2.2.1 v.2.2.2.1 v.2.2.2.2.1 v.2.2.2.2.2.1 v.2.2.2.2.2.2) = impl_FewestSlots.s0 k (fun a0 a1 a2 a3 a4 a5 a6 => rec (n41_0 a0 a1 a2 a3 a4 a5 a6)) v.1 v.2.1 v.2.2.1 v.2.2.2.1 v.2.2.2.2.1 v.2.2.2.2.2.1 v.2.2.2.2.2.2 := by
  kernel_rfl
theorem q41_0 (k : Nat) (n : Nat) : ∀ v : (List Int) × (Option ((List Int) × (List (List (Int × Int))) × (List Bool))) × Int × Int × (List Bool) × Int × Int, loopF (E41 k) (S41 k) Try.f41 p41_0 [] n (n41_0 v.1 v.2.1 v.2.2.1 v.2.2.2.1 v.2.2.2.2.1 v.2.2.2.2.2.1 v.2.2.2.2.2.2) = impl_FewestSlots.l0 k n v.1 v.2.1 v.2.2.1 v.2.2.2.1 v.2.2.2.2.1 v.2.2.2.2.2.1 v.2.2.2.2.2.2 :=
  loopF_eq (E41 k) (S41 k) Try.f41 p41_0 [] (fun v : (List Int) × (Option ((List Int) × (List (List (Int × Int))) × (List Bool))) × Int × Int × (List Bool) × Int × Int => n41_0 v.1 v.2.1 v.2.2.1 v.2.2.2.1 v.2.2.2.2.1 v.2.2.2.2.2.1 v.2.2.2.2.2.2) (fun rec v => impl_FewestSlots.s0 k (fun a0 a1 a2 a3 a4 a5 a6 => rec (a0, a1, a2, a3, a4, a5, a6)) v.1 v.2.1 v.2.2.1 v.2.2.2.1 v.2.2.2.2.1 v.2.2.2.2.2.1 v.2.2.2.2.2.2) (fun n v => impl_FewestSlots.l0 k n v.1 v.2.1 v.2.2.1 v.2.2.2.1 v.2.2.2.2.1 v.2.2.2.2.2.1 v.2.2.2.2.2.2) (fun _ => rfl) (fun _ _ => rfl) (fun rec v => r41_0 k rec v) n
theorem e41 (k : Nat) (x : dens (flatC (S41 k).ps)) : funK (E41 k) (S41 k) Try.f41 x = (S41 k).fn x := by
  have h : funK (E41 k) (S41 k) Try.f41 x = impl_FewestSlots.g k (fun a0 a1 a2 a3 a4 a5 a6 => loopF (E41 k) (S41 k) Try.f41 p41_0 [] k (n41_0 a0 a1 a2 a3 a4 a5 a6)) x := by kernel_rfl
  rw [h]
  rw [show (fun a0 a1 a2 a3 a4 a5 a6 => loopF (E41 k) (S41 k) Try.f41 p41_0 [] k (n41_0 a0 a1 a2 a3 a4 a5 a6)) = impl_FewestSlots.l0 k k from funext fun a0 => funext fun a1 => funext fun a2 => funext fun a3 => funext fun a4 => funext fun a5 => funext fun a6 => q41_0 k k (a0, a1, a2, a3, a4, a5, a6)]
  rfl
theorem M41 (k : Nat) : Meets Try.prog 41 (S41 k) := meets_of Try.func41 (by kernel_rfl) tbOk (orc_cons (M69 k) (orc_cons (M85 k) (orc_cons (M84 k) (orc_cons (M86 k) (orc_cons (M87 k) orc_nil))))) mixOk (fun x y h => (e41 k x).trans h) rfl

/-! laws_FnExactFewestSlots: function 10 -/
noncomputable def laws_FnExactFewestSlots.f (k : Nat) (l0_0 : List Int) : Option (Bool) := (laws_szTasks.f l0_0 1048576).bind fun t1 => if t1 < 0 then (some true) else ((laws_toTasks.f k l0_0).bind fun t2 => (spec_FewestSlots.f k t2).bind fun t3 => (laws_toTasks.f k l0_0).bind fun t4 => (impl_FewestSlots.f k t4).bind fun t5 => if t5.1 = t3.1 then (if t5.2 = t3.2 then ((laws_toTasks.f k l0_0).bind fun t6 => (laws_eqTasks.f k t4 t6).bind fun t7 => if t7 = true then (some true) else (some false)) else (some false)) else (some false))
noncomputable def S10 (k : Nat) : Does := ⟨[(true, [.dat (.list (.int .i64))])], [(false, [.dat .bool])], fun x => laws_FnExactFewestSlots.f k x⟩
noncomputable def E10 (k : Nat) : En := ⟨tb, orcOf [(15, S15 k), (17, S17 k), (40, S40 k), (41, S41 k), (19, S19 k)], lvOf [], k, 0, lvOf [], []⟩
theorem e10 (k : Nat) (x : dens (flatC (S10 k).ps)) : funK (E10 k) (S10 k) Try.f10 x = (S10 k).fn x := by
  kernel_rfl
theorem M10 (k : Nat) : Meets Try.prog 10 (S10 k) := meets_of Try.func10 (by kernel_rfl) tbOk (orc_cons (M15 k) (orc_cons (M17 k) (orc_cons (M40 k) (orc_cons (M41 k) (orc_cons (M19 k) orc_nil))))) mixOk (fun x y h => (e10 k x).trans h) rfl



end Go.Proofs.Ytjkeadiepbldhaa.Vf
