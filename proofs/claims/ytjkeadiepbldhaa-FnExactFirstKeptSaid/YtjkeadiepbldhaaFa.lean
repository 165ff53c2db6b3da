/- What the functions of program, reference and laws give, as plain functions, and that they meet them (part 1). Conditions: none. Written by a program of my own (vp.py). -/
import Derived.Test.YtjkeadiepbldhaaVc
import Derived.Test.YtjkeadiepbldhaaProg
set_option linter.unusedVariables false
set_option maxRecDepth 100000
namespace Go.Proofs.Ytjkeadiepbldhaa.Vf
open Go Go.V Go.RowKit Go.Proofs
def tbl : List (Nat × TI) := [(1, ⟨.fn, 1, 8, [.nilFunc]⟩), (2, ⟨.int .i64, 1, 8, [.int .i64 0]⟩), (3, ⟨.int .i64, 1, 8, [.int .i64 0]⟩), (4, ⟨.bool, 1, 1, [.bool false]⟩), (5, ⟨.int .u8, 1, 1, [.int .u8 0]⟩), (6, ⟨.int .u8, 1, 1, [.int .u8 0]⟩), (7, ⟨.struct [(0, 2), (1, 3), (2, 4), (3, 6)], 4, 24, [.int .i64 0, .int .i64 0, .bool false, .int .u8 0]⟩), (8, ⟨.struct [(0, 2), (1, 3), (2, 4), (3, 6)], 4, 24, [.int .i64 0, .int .i64 0, .bool false, .int .u8 0]⟩), (9, ⟨.str, 1, 16, [.string ByteArray.empty]⟩), (10, ⟨.str, 1, 16, [.string ByteArray.empty]⟩), (11, ⟨.str, 1, 16, [.string ByteArray.empty]⟩), (12, ⟨.int .u64, 1, 8, [.int .u64 0]⟩), (13, ⟨.struct [(0, 9), (1, 12)], 2, 24, [.string ByteArray.empty, .int .u64 0]⟩), (14, ⟨.struct [(0, 9), (1, 12)], 2, 24, [.string ByteArray.empty, .int .u64 0]⟩), (15, ⟨.ptr 123, 1, 8, [.pointer none]⟩), (16, ⟨.ptr 126, 1, 8, [.pointer none]⟩), (17, ⟨.ptr 136, 1, 8, [.pointer none]⟩), (18, ⟨.struct [(0, 17)], 1, 8, [.pointer none]⟩), (19, ⟨.struct [(0, 17)], 1, 8, [.pointer none]⟩), (21, ⟨.int .i32, 1, 4, [.int .i32 0]⟩), (22, ⟨.slice 2, 1, 24, [.slice none 0 0]⟩), (23, ⟨.struct [(0, 22)], 1, 24, [.slice none 0 0]⟩), (24, ⟨.struct [(0, 22)], 1, 24, [.slice none 0 0]⟩), (25, ⟨.fn, 1, 8, [.nilFunc]⟩), (27, ⟨.fn, 1, 8, [.nilFunc]⟩), (28, ⟨.struct [(0, 22)], 1, 24, [.slice none 0 0]⟩), (29, ⟨.fn, 1, 8, [.nilFunc]⟩), (30, ⟨.fn, 1, 8, [.nilFunc]⟩), (31, ⟨.fn, 1, 8, [.nilFunc]⟩), (33, ⟨.fn, 1, 8, [.nilFunc]⟩), (34, ⟨.fn, 1, 8, [.nilFunc]⟩), (35, ⟨.fn, 1, 8, [.nilFunc]⟩), (36, ⟨.fn, 1, 8, [.nilFunc]⟩), (37, ⟨.fn, 1, 8, [.nilFunc]⟩), (38, ⟨.fn, 1, 8, [.nilFunc]⟩), (39, ⟨.fn, 1, 8, [.nilFunc]⟩), (41, ⟨.fn, 1, 8, [.nilFunc]⟩), (42, ⟨.fn, 1, 8, [.nilFunc]⟩), (43, ⟨.fn, 1, 8, [.nilFunc]⟩), (45, ⟨.fn, 1, 8, [.nilFunc]⟩), (46, ⟨.struct [(0, 22)], 1, 24, [.slice none 0 0]⟩), (47, ⟨.struct [(0, 22)], 1, 24, [.slice none 0 0]⟩), (48, ⟨.fn, 1, 8, [.nilFunc]⟩), (49, ⟨.fn, 1, 8, [.nilFunc]⟩), (50, ⟨.struct [(0, 22)], 1, 24, [.slice none 0 0]⟩), (51, ⟨.fn, 1, 8, [.nilFunc]⟩), (52, ⟨.fn, 1, 8, [.nilFunc]⟩), (53, ⟨.fn, 1, 8, [.nilFunc]⟩), (54, ⟨.fn, 1, 8, [.nilFunc]⟩), (55, ⟨.fn, 1, 8, [.nilFunc]⟩), (56, ⟨.struct [(0, 2), (1, 2)], 2, 16, [.int .i64 0, .int .i64 0]⟩), (57, ⟨.struct [(0, 2), (1, 2)], 2, 16, [.int .i64 0, .int .i64 0]⟩), (58, ⟨.fn, 1, 8, [.nilFunc]⟩), (59, ⟨.struct [(0, 2), (1, 2)], 2, 16, [.int .i64 0, .int .i64 0]⟩), (60, ⟨.fn, 1, 8, [.nilFunc]⟩), (61, ⟨.fn, 1, 8, [.nilFunc]⟩), (62, ⟨.fn, 1, 8, [.nilFunc]⟩), (63, ⟨.fn, 1, 8, [.nilFunc]⟩), (64, ⟨.fn, 1, 8, [.nilFunc]⟩), (65, ⟨.slice 4, 1, 24, [.slice none 0 0]⟩), (66, ⟨.fn, 1, 8, [.nilFunc]⟩), (67, ⟨.fn, 1, 8, [.nilFunc]⟩), (68, ⟨.slice 83, 1, 24, [.slice none 0 0]⟩), (69, ⟨.struct [(0, 28), (1, 68), (2, 65)], 3, 72, [.slice none 0 0, .slice none 0 0, .slice none 0 0]⟩), (70, ⟨.struct [(0, 28), (1, 68), (2, 65)], 3, 72, [.slice none 0 0, .slice none 0 0, .slice none 0 0]⟩), (71, ⟨.ptr 70, 1, 8, [.pointer none]⟩), (72, ⟨.fn, 1, 8, [.nilFunc]⟩), (73, ⟨.fn, 1, 8, [.nilFunc]⟩), (74, ⟨.fn, 1, 8, [.nilFunc]⟩), (75, ⟨.fn, 1, 8, [.nilFunc]⟩), (76, ⟨.fn, 1, 8, [.nilFunc]⟩), (77, ⟨.fn, 1, 8, [.nilFunc]⟩), (79, ⟨.fn, 1, 8, [.nilFunc]⟩), (80, ⟨.fn, 1, 8, [.nilFunc]⟩), (81, ⟨.fn, 1, 8, [.nilFunc]⟩), (83, ⟨.map 2 2, 1, 8, [.map none]⟩), (84, ⟨.fn, 1, 8, [.nilFunc]⟩), (86, ⟨.fn, 1, 8, [.nilFunc]⟩), (87, ⟨.map 2 3, 1, 8, [.map none]⟩), (88, ⟨.fn, 1, 8, [.nilFunc]⟩), (90, ⟨.fn, 1, 8, [.nilFunc]⟩), (91, ⟨.fn, 1, 8, [.nilFunc]⟩), (93, ⟨.fn, 1, 8, [.nilFunc]⟩), (94, ⟨.fn, 1, 8, [.nilFunc]⟩), (95, ⟨.fn, 1, 8, [.nilFunc]⟩), (96, ⟨.fn, 1, 8, [.nilFunc]⟩), (97, ⟨.fn, 1, 8, [.nilFunc]⟩), (98, ⟨.fn, 1, 8, [.nilFunc]⟩), (99, ⟨.fn, 1, 8, [.nilFunc]⟩), (100, ⟨.fn, 1, 8, [.nilFunc]⟩), (101, ⟨.fn, 1, 8, [.nilFunc]⟩), (102, ⟨.fn, 1, 8, [.nilFunc]⟩), (103, ⟨.ptr 108, 1, 8, [.pointer none]⟩), (105, ⟨.fn, 1, 8, [.nilFunc]⟩), (106, ⟨.slice 22, 1, 24, [.slice none 0 0]⟩), (107, ⟨.struct [(0, 59), (2, 28), (3, 106), (4, 65)], 5, 88, [.int .i64 0, .int .i64 0, .slice none 0 0, .slice none 0 0, .slice none 0 0]⟩), (108, ⟨.struct [(0, 59), (2, 28), (3, 106), (4, 65)], 5, 88, [.int .i64 0, .int .i64 0, .slice none 0 0, .slice none 0 0, .slice none 0 0]⟩), (109, ⟨.fn, 1, 8, [.nilFunc]⟩), (110, ⟨.fn, 1, 8, [.nilFunc]⟩), (111, ⟨.fn, 1, 8, [.nilFunc]⟩), (112, ⟨.fn, 1, 8, [.nilFunc]⟩), (113, ⟨.fn, 1, 8, [.nilFunc]⟩), (114, ⟨.fn, 1, 8, [.nilFunc]⟩), (115, ⟨.fn, 1, 8, [.nilFunc]⟩), (116, ⟨.fn, 1, 8, [.nilFunc]⟩), (117, ⟨.fn, 1, 8, [.nilFunc]⟩), (118, ⟨.fn, 1, 8, [.nilFunc]⟩), (119, ⟨.int .u64, 1, 8, [.int .u64 0]⟩), (120, ⟨.fn, 1, 8, [.nilFunc]⟩), (121, ⟨.fn, 1, 8, [.nilFunc]⟩), (122, ⟨.struct [(0, 17), (1, 17), (2, 17), (3, 9)], 4, 40, [.pointer none, .pointer none, .pointer none, .string ByteArray.empty]⟩), (123, ⟨.struct [(0, 17), (1, 17), (2, 17), (3, 9)], 4, 40, [.pointer none, .pointer none, .pointer none, .string ByteArray.empty]⟩), (125, ⟨.struct [(0, 124)], 0, 0, []⟩), (126, ⟨.struct [(0, 124)], 0, 0, []⟩), (127, ⟨.fn, 1, 8, [.nilFunc]⟩), (128, ⟨.int .u32, 1, 4, [.int .u32 0]⟩), (129, ⟨.int .u8, 1, 1, [.int .u8 0]⟩), (130, ⟨.int .u8, 1, 1, [.int .u8 0]⟩), (131, ⟨.fn, 1, 8, [.nilFunc]⟩), (132, ⟨.ptr 5, 1, 8, [.pointer none]⟩), (133, ⟨.int .i32, 1, 4, [.int .i32 0]⟩), (134, ⟨.int .i32, 1, 4, [.int .i32 0]⟩), (135, ⟨.struct [(0, 12), (1, 12), (2, 128), (3, 129), (4, 5), (5, 5), (6, 130), (7, 131), (8, 132), (9, 133), (10, 134)], 11, 48, [.int .u64 0, .int .u64 0, .int .u32 0, .int .u8 0, .int .u8 0, .int .u8 0, .int .u8 0, .nilFunc, .pointer none, .int .i32 0, .int .i32 0]⟩), (136, ⟨.struct [(0, 12), (1, 12), (2, 128), (3, 129), (4, 5), (5, 5), (6, 130), (7, 131), (8, 132), (9, 133), (10, 134)], 11, 48, [.int .u64 0, .int .u64 0, .int .u32 0, .int .u8 0, .int .u8 0, .int .u8 0, .int .u8 0, .nilFunc, .pointer none, .int .i32 0, .int .i32 0]⟩), (137, ⟨.fn, 1, 8, [.nilFunc]⟩)]
def tb : TypeId → Option TI := Go.V.look tbl
theorem tbEq : tbl.map (fun p => entryOf Try.prog p.1) = tbl.map (fun p => some p.2) := by kernel_rfl
theorem tbOk : TbOK Try.prog tb := tb_of tbEq
theorem mixOk : Try.prog.follows .mixedOrders = true := by kernel_rfl

/-! laws_szInt64S: function 51 -/
def laws_szInt64S.f (l0 : List Int) (a1 : Int) : Option (Int) := if (wrap64 (a1 - (l0.length : Int))) < 0 then (some (-1)) else (some (wrap64 (a1 - (l0.length : Int))))
def S51 (k : Nat) : Does := ⟨[(false, [.dat (.list (.int .i64))]), (false, [.dat (.int .i64)])], [(false, [.dat (.int .i64)])], fun x => laws_szInt64S.f x.1 x.2⟩
def E51 (k : Nat) : En := ⟨tb, orcOf [], lvOf [], k, 0, lvOf [], []⟩
theorem e51 (k : Nat) (x : dens (flatC (S51 k).ps)) : funK (E51 k) (S51 k) Try.f51 x = (S51 k).fn x := by
  kernel_rfl
theorem M51 (k : Nat) : Meets Try.prog 51 (S51 k) := meets_of Try.func51 (by kernel_rfl) tbOk orc_nil mixOk (fun x y h => (e51 k x).trans h) rfl

/-! laws_szTasks: function 15 -/
def laws_szTasks.f (l0_0 : List Int) (a1 : Int) : Option (Int) := (laws_szInt64S.f l0_0 a1).bind fun t1 => if t1 < 0 then (some (-1)) else (some t1)
def S15 (k : Nat) : Does := ⟨[(true, [.dat (.list (.int .i64))]), (false, [.dat (.int .i64)])], [(false, [.dat (.int .i64)])], fun x => laws_szTasks.f x.1 x.2⟩
def E15 (k : Nat) : En := ⟨tb, orcOf [(51, S51 k)], lvOf [], k, 0, lvOf [], []⟩
theorem e15 (k : Nat) (x : dens (flatC (S15 k).ps)) : funK (E15 k) (S15 k) Try.f15 x = (S15 k).fn x := by
  kernel_rfl
theorem M15 (k : Nat) : Meets Try.prog 15 (S15 k) := meets_of Try.func15 (by kernel_rfl) tbOk (orc_cons (M51 k) orc_nil) mixOk (fun x y h => (e15 k x).trans h) rfl

/-! laws_toInt64S: function 23 -/
def laws_toInt64S.s0 (k : Nat) (r0 : (List Int) → (List Int) → Int → Option ((List Int))) (x0 : List Int) (x3 : List Int) (x4 : Int) : Option ((List Int)) := if x4 < (x0.length : Int) then (if 0 ≤ x4 then (if x4 < (x0.length : Int) then (if 0 ≤ x4 then (if x4 < (x3.length : Int) then (r0 x0 (x3.set x4.toNat (rd x0 x4)) (wrap64 (x4 + 1))) else (none)) else (none)) else (none)) else (none)) else (some x3)
def laws_toInt64S.l0 (k : Nat) : Nat → (List Int) → (List Int) → Int → Option ((List Int))
  | 0, _, _, _ => none
  | n + 1, x0, x1, x2 => laws_toInt64S.s0 k (laws_toInt64S.l0 k n) x0 x1 x2
def laws_toInt64S.g (k : Nat) (r0 : (List Int) → (List Int) → Int → Option ((List Int))) (l0 : List Int) : Option ((List Int)) := if 0 ≤ (l0.length : Int) then (if (l0.length : Int) ≤ (l0.length : Int) then (if (l0.length : Int).toNat ≤ 1099511627776 then (r0 l0 (List.replicate (l0.length : Int).toNat (0 : Int)) 0) else (none)) else (none)) else (none)
def laws_toInt64S.f (k : Nat) (l0 : List Int) : Option ((List Int)) := laws_toInt64S.g k (laws_toInt64S.l0 k k) l0
def S23 (k : Nat) : Does := ⟨[(false, [.dat (.list (.int .i64))])], [(false, [.own 2 (.int .i64)])], fun x => laws_toInt64S.f k x⟩
def E23 (k : Nat) : En := ⟨tb, orcOf [], lvOf [(0, [(0, []), (3, []), (4, [])])], k, 0, lvOf [], []⟩
def n23_0 (x0 : List Int) (x3 : List Int) (x4 : Int) : St := ⟨22, lookA [(0, .dat (.list (.int .i64)) x0), (3, .own 0), (4, .dat (.int .i64) x4)], Go.V.look [(0, .flat 2 (.int .i64) x3)]⟩
def p23_0 : List Bool := [true, true, false, true, false]
theorem r23_0 (k : Nat) (rec : St → Option ((List Int))) (v : (List Int) × (List Int) × Int) : roundF (E23 k) (S23 k) Try.f23 p23_0 [] rec (n23_0 v.1 v.2.1 v.2.2) = laws_toInt64S.s0 k (fun a0 a1 a2 => rec (n23_0 a0 a1 a2)) v.1 v.2.1 v.2.2 := by
  kernel_rfl
theorem q23_0 (k : Nat) (n : Nat) : ∀ v : (List Int) × (List Int) × Int, loopF (E23 k) (S23 k) Try.f23 p23_0 [] n (n23_0 v.1 v.2.1 v.2.2) = laws_toInt64S.l0 k n v.1 v.2.1 v.2.2 :=
  loopF_eq (E23 k) (S23 k) Try.f23 p23_0 [] (fun v : (List Int) × (List Int) × Int => n23_0 v.1 v.2.1 v.2.2) (fun rec v => laws_toInt64S.s0 k (fun a0 a1 a2 => rec (a0, a1, a2)) v.1 v.2.1 v.2.2) (fun n v => laws_toInt64S.l0 k n v.1 v.2.1 v.2.2) (fun _ => rfl) (fun _ _ => rfl) (fun rec v => r23_0 k rec v) n
theorem e23 (k : Nat) (x : dens (flatC (S23 k).ps)) : funK (E23 k) (S23 k) Try.f23 x = (S23 k).fn x := by
  have h : funK (E23 k) (S23 k) Try.f23 x = laws_toInt64S.g k (fun a0 a1 a2 => loopF (E23 k) (S23 k) Try.f23 p23_0 [] k (n23_0 a0 a1 a2)) x := by kernel_rfl
  rw [h]
  rw [show (fun a0 a1 a2 => loopF (E23 k) (S23 k) Try.f23 p23_0 [] k (n23_0 a0 a1 a2)) = laws_toInt64S.l0 k k from funext fun a0 => funext fun a1 => funext fun a2 => q23_0 k k (a0, a1, a2)]
  rfl
theorem M23 (k : Nat) : Meets Try.prog 23 (S23 k) := meets_of Try.func23 (by kernel_rfl) tbOk orc_nil mixOk (fun x y h => (e23 k x).trans h) rfl

/-! laws_toTasks: function 17 -/
def laws_toTasks.f (k : Nat) (l0_0 : List Int) : Option ((List Int)) := (laws_toInt64S.f k l0_0).bind fun t1 => some t1
def S17 (k : Nat) : Does := ⟨[(true, [.dat (.list (.int .i64))])], [(true, [.own 2 (.int .i64)])], fun x => laws_toTasks.f k x⟩
def E17 (k : Nat) : En := ⟨tb, orcOf [(23, S23 k)], lvOf [], k, 0, lvOf [], []⟩
theorem e17 (k : Nat) (x : dens (flatC (S17 k).ps)) : funK (E17 k) (S17 k) Try.f17 x = (S17 k).fn x := by
  kernel_rfl
theorem M17 (k : Nat) : Meets Try.prog 17 (S17 k) := meets_of Try.func17 (by kernel_rfl) tbOk (orc_cons (M23 k) orc_nil) mixOk (fun x y h => (e17 k x).trans h) rfl

/-! spec_l01In: function 89 -/
def spec_l01In.f (a0 : Int) (a1 : Int) (a2 : Int) : Option (Bool) := if a1 ≤ a0 then (some (decide (a0 ≤ a2))) else (some false)
def S89 (k : Nat) : Does := ⟨[(false, [.dat (.int .i64)]), (false, [.dat (.int .i64)]), (false, [.dat (.int .i64)])], [(false, [.dat .bool])], fun x => spec_l01In.f x.1 x.2.1 x.2.2⟩
def E89 (k : Nat) : En := ⟨tb, orcOf [], lvOf [], k, 0, lvOf [], []⟩
theorem e89 (k : Nat) (x : dens (flatC (S89 k).ps)) : funK (E89 k) (S89 k) Try.f89 x = (S89 k).fn x := by
  kernel_rfl
theorem M89 (k : Nat) : Meets Try.prog 89 (S89 k) := meets_of Try.func89 (by kernel_rfl) tbOk orc_nil mixOk (fun x y h => (e89 k x).trans h) rfl

/-! spec_l01K: function 90 -/
def spec_l01K.f (l0_0 : List Int) : Option (Int) := some (l0_0.length : Int)
def S90 (k : Nat) : Does := ⟨[(true, [.dat (.list (.int .i64))])], [(false, [.dat (.int .i64)])], fun x => spec_l01K.f x⟩
def E90 (k : Nat) : En := ⟨tb, orcOf [], lvOf [], k, 0, lvOf [], []⟩
theorem e90 (k : Nat) (x : dens (flatC (S90 k).ps)) : funK (E90 k) (S90 k) Try.f90 x = (S90 k).fn x := by
  kernel_rfl
theorem M90 (k : Nat) : Meets Try.prog 90 (S90 k) := meets_of Try.func90 (by kernel_rfl) tbOk orc_nil mixOk (fun x y h => (e90 k x).trans h) rfl

/-! spec_l01Is: function 88 -/
def spec_l01Is.s0 (k : Nat) (r0 : (List Int) → Int → Option (Bool)) (x1_0 : List Int) (x3 : Int) : Option (Bool) := if x3 < (x1_0.length : Int) then (if 0 ≤ x3 then (if x3 < (x1_0.length : Int) then ((spec_l01In.f (rd x1_0 x3) 1 40).bind fun t1 => if t1 = true then (r0 x1_0 (wrap64 (x3 + 1))) else (some false)) else (none)) else (none)) else ((spec_l01K.f x1_0).bind fun t2 => (spec_l01In.f t2 1 8).bind fun t3 => some t3)
def spec_l01Is.l0 (k : Nat) : Nat → (List Int) → Int → Option (Bool)
  | 0, _, _ => none
  | n + 1, x0, x1 => spec_l01Is.s0 k (spec_l01Is.l0 k n) x0 x1
def spec_l01Is.g (k : Nat) (r0 : (List Int) → Int → Option (Bool)) (l0_0 : List Int) : Option (Bool) := r0 l0_0 0
def spec_l01Is.f (k : Nat) (l0_0 : List Int) : Option (Bool) := spec_l01Is.g k (spec_l01Is.l0 k k) l0_0
def S88 (k : Nat) : Does := ⟨[(true, [.dat (.list (.int .i64))])], [(false, [.dat .bool])], fun x => spec_l01Is.f k x⟩
def E88 (k : Nat) : En := ⟨tb, orcOf [(89, S89 k), (90, S90 k)], lvOf [(0, [(1, []), (3, [])])], k, 0, lvOf [], []⟩
def n88_0 (x1_0 : List Int) (x3 : Int) : St := ⟨21, lookA [(1, .box 0 0), (3, .dat (.int .i64) x3)], Go.V.look [(0, .cells [.dat (.list (.int .i64)) x1_0])]⟩
def p88_0 : List Bool := [true, false, true, false]
theorem r88_0 (k : Nat) (rec : St → Option (Bool)) (v : (List Int) × Int) : roundF (E88 k) (S88 k) Try.f88 p88_0 [] rec (n88_0 v.1 v.2) = spec_l01Is.s0 k (fun a0 a1 => rec (n88_0 a0 a1)) v.1 v.2 := by
  kernel_rfl
theorem q88_0 (k : Nat) (n : Nat) : ∀ v : (List Int) × Int, loopF (E88 k) (S88 k) Try.f88 p88_0 [] n (n88_0 v.1 v.2) = spec_l01Is.l0 k n v.1 v.2 :=
  loopF_eq (E88 k) (S88 k) Try.f88 p88_0 [] (fun v : (List Int) × Int => n88_0 v.1 v.2) (fun rec v => spec_l01Is.s0 k (fun a0 a1 => rec (a0, a1)) v.1 v.2) (fun n v => spec_l01Is.l0 k n v.1 v.2) (fun _ => rfl) (fun _ _ => rfl) (fun rec v => r88_0 k rec v) n
theorem e88 (k : Nat) (x : dens (flatC (S88 k).ps)) : funK (E88 k) (S88 k) Try.f88 x = (S88 k).fn x := by
  have h : funK (E88 k) (S88 k) Try.f88 x = spec_l01Is.g k (fun a0 a1 => loopF (E88 k) (S88 k) Try.f88 p88_0 [] k (n88_0 a0 a1)) x := by kernel_rfl
  rw [h]
  rw [show (fun a0 a1 => loopF (E88 k) (S88 k) Try.f88 p88_0 [] k (n88_0 a0 a1)) = spec_l01Is.l0 k k from funext fun a0 => funext fun a1 => q88_0 k k (a0, a1)]
  rfl
theorem M88 (k : Nat) : Meets Try.prog 88 (S88 k) := meets_of Try.func88 (by kernel_rfl) tbOk (orc_cons (M89 k) (orc_cons (M90 k) orc_nil)) mixOk (fun x y h => (e88 k x).trans h) rfl

/-! spec_l02Count: function 76 -/
def spec_l02Count.s0 (k : Nat) (r0 : (List Int) → Int → Int → Option (Int)) (x1_0 : List Int) (x3 : Int) (x4 : Int) : Option (Int) := if x4 < (x1_0.length : Int) then (if 0 ≤ x4 then (if x4 < (x1_0.length : Int) then (r0 x1_0 (wrap64 (x3 * (rd x1_0 x4))) (wrap64 (x4 + 1))) else (none)) else (none)) else (some x3)
def spec_l02Count.l0 (k : Nat) : Nat → (List Int) → Int → Int → Option (Int)
  | 0, _, _, _ => none
  | n + 1, x0, x1, x2 => spec_l02Count.s0 k (spec_l02Count.l0 k n) x0 x1 x2
def spec_l02Count.g (k : Nat) (r0 : (List Int) → Int → Int → Option (Int)) (l0_0 : List Int) : Option (Int) := r0 l0_0 1 0
def spec_l02Count.f (k : Nat) (l0_0 : List Int) : Option (Int) := spec_l02Count.g k (spec_l02Count.l0 k k) l0_0
def S76 (k : Nat) : Does := ⟨[(true, [.dat (.list (.int .i64))])], [(false, [.dat (.int .i64)])], fun x => spec_l02Count.f k x⟩
def E76 (k : Nat) : En := ⟨tb, orcOf [], lvOf [(0, [(1, []), (3, []), (4, [])])], k, 0, lvOf [], []⟩
def n76_0 (x1_0 : List Int) (x3 : Int) (x4 : Int) : St := ⟨20, lookA [(1, .box 0 0), (3, .dat (.int .i64) x3), (4, .dat (.int .i64) x4)], Go.V.look [(0, .cells [.dat (.list (.int .i64)) x1_0])]⟩
def p76_0 : List Bool := [true, true, false, true, false]
theorem r76_0 (k : Nat) (rec : St → Option (Int)) (v : (List Int) × Int × Int) : roundF (E76 k) (S76 k) Try.f76 p76_0 [] rec (n76_0 v.1 v.2.1 v.2.2) = spec_l02Count.s0 k (fun a0 a1 a2 => rec (n76_0 a0 a1 a2)) v.1 v.2.1 v.2.2 := by
  kernel_rfl
theorem q76_0 (k : Nat) (n : Nat) : ∀ v : (List Int) × Int × Int, loopF (E76 k) (S76 k) Try.f76 p76_0 [] n (n76_0 v.1 v.2.1 v.2.2) = spec_l02Count.l0 k n v.1 v.2.1 v.2.2 :=
  loopF_eq (E76 k) (S76 k) Try.f76 p76_0 [] (fun v : (List Int) × Int × Int => n76_0 v.1 v.2.1 v.2.2) (fun rec v => spec_l02Count.s0 k (fun a0 a1 a2 => rec (a0, a1, a2)) v.1 v.2.1 v.2.2) (fun n v => spec_l02Count.l0 k n v.1 v.2.1 v.2.2) (fun _ => rfl) (fun _ _ => rfl) (fun rec v => r76_0 k rec v) n
theorem e76 (k : Nat) (x : dens (flatC (S76 k).ps)) : funK (E76 k) (S76 k) Try.f76 x = (S76 k).fn x := by
  have h : funK (E76 k) (S76 k) Try.f76 x = spec_l02Count.g k (fun a0 a1 a2 => loopF (E76 k) (S76 k) Try.f76 p76_0 [] k (n76_0 a0 a1 a2)) x := by kernel_rfl
  rw [h]
  rw [show (fun a0 a1 a2 => loopF (E76 k) (S76 k) Try.f76 p76_0 [] k (n76_0 a0 a1 a2)) = spec_l02Count.l0 k k from funext fun a0 => funext fun a1 => funext fun a2 => q76_0 k k (a0, a1, a2)]
  rfl
theorem M76 (k : Nat) : Meets Try.prog 76 (S76 k) := meets_of Try.func76 (by kernel_rfl) tbOk orc_nil mixOk (fun x y h => (e76 k x).trans h) rfl

/-! spec_l02Few: function 52 -/
def spec_l02Few.f (k : Nat) (l0_0 : List Int) : Option (Int) := (spec_l01Is.f k l0_0).bind fun t1 => if (!decide (t1 = true)) = true then (some 1) else ((spec_l02Count.f k l0_0).bind fun t2 => if (decide (4000 < t2)) = true then (some 3) else (some 0))
def S52 (k : Nat) : Does := ⟨[(true, [.dat (.list (.int .i64))])], [(false, [.dat (.int .i64)])], fun x => spec_l02Few.f k x⟩
def E52 (k : Nat) : En := ⟨tb, orcOf [(88, S88 k), (76, S76 k)], lvOf [], k, 0, lvOf [], []⟩
theorem e52 (k : Nat) (x : dens (flatC (S52 k).ps)) : funK (E52 k) (S52 k) Try.f52 x = (S52 k).fn x := by
  kernel_rfl
theorem M52 (k : Nat) : Meets Try.prog 52 (S52 k) := meets_of Try.func52 (by kernel_rfl) tbOk (orc_cons (M88 k) (orc_cons (M76 k) orc_nil)) mixOk (fun x y h => (e52 k x).trans h) rfl

/-! spec_l02Of: function 82 -/
def spec_l02Of.s0 (k : Nat) (r0 : Int → (List Int) → (List Int) → Int → Option ((List Int))) (x1 : Int) (x2_0 : List Int) (x5 : List Int) (x6 : Int) : Option ((List Int)) := if 0 ≤ x6 then (if 0 ≤ x6 then (if x6 < (x2_0.length : Int) then (if (rd x2_0 x6) = 0 then (none) else (if 0 ≤ x6 then (if x6 < (x5.length : Int) then (if 0 ≤ x6 then (if x6 < (x2_0.length : Int) then (if (rd x2_0 x6) = 0 then (none) else (r0 (wrap64 (Int.tdiv x1 (rd x2_0 x6))) x2_0 (x5.set x6.toNat (wrap64 ((Int.tmod x1 (rd x2_0 x6)) + 1))) (wrap64 (x6 - 1)))) else (none)) else (none)) else (none)) else (none))) else (none)) else (none)) else (some x5)
def spec_l02Of.l0 (k : Nat) : Nat → Int → (List Int) → (List Int) → Int → Option ((List Int))
  | 0, _, _, _, _ => none
  | n + 1, x0, x1, x2, x3 => spec_l02Of.s0 k (spec_l02Of.l0 k n) x0 x1 x2 x3
def spec_l02Of.g (k : Nat) (r0 : Int → (List Int) → (List Int) → Int → Option ((List Int))) (l0_0 : List Int) (a1 : Int) : Option ((List Int)) := if 0 ≤ (l0_0.length : Int) then (if (l0_0.length : Int) ≤ (l0_0.length : Int) then (if (l0_0.length : Int).toNat ≤ 1099511627776 then (r0 a1 l0_0 (List.replicate (l0_0.length : Int).toNat (0 : Int)) (wrap64 (((List.replicate (l0_0.length : Int).toNat (0 : Int)).length : Int) - 1))) else (none)) else (none)) else (none)
def spec_l02Of.f (k : Nat) (l0_0 : List Int) (a1 : Int) : Option ((List Int)) := spec_l02Of.g k (spec_l02Of.l0 k k) l0_0 a1
def S82 (k : Nat) : Does := ⟨[(true, [.dat (.list (.int .i64))]), (false, [.dat (.int .i64)])], [(false, [.own 2 (.int .i64)])], fun x => spec_l02Of.f k x.1 x.2⟩
def E82 (k : Nat) : En := ⟨tb, orcOf [], lvOf [(0, [(1, []), (2, []), (5, []), (6, [])])], k, 0, lvOf [], []⟩
def n82_0 (x1 : Int) (x2_0 : List Int) (x5 : List Int) (x6 : Int) : St := ⟨37, lookA [(1, .dat (.int .i64) x1), (2, .box 0 0), (5, .own 1), (6, .dat (.int .i64) x6)], Go.V.look [(0, .cells [.dat (.list (.int .i64)) x2_0]), (1, .flat 2 (.int .i64) x5)]⟩
def p82_0 : List Bool := [true, true, false, true, false]
theorem r82_0 (k : Nat) (rec : St → Option ((List Int))) (v : Int × (List Int) × (List Int) × Int) : roundF (E82 k) (S82 k) Try.f82 p82_0 [] rec (n82_0 v.1 v.2.1 v.2.2.1 v.2.2.2) = spec_l02Of.s0 k (fun a0 a1 a2 a3 => rec (n82_0 a0 a1 a2 a3)) v.1 v.2.1 v.2.2.1 v.2.2.2 := by
  kernel_rfl
theorem q82_0 (k : Nat) (n : Nat) : ∀ v : Int × (List Int) × (List Int) × Int, loopF (E82 k) (S82 k) Try.f82 p82_0 [] n (n82_0 v.1 v.2.1 v.2.2.1 v.2.2.2) = spec_l02Of.l0 k n v.1 v.2.1 v.2.2.1 v.2.2.2 :=
  loopF_eq (E82 k) (S82 k) Try.f82 p82_0 [] (fun v : Int × (List Int) × (List Int) × Int => n82_0 v.1 v.2.1 v.2.2.1 v.2.2.2) (fun rec v => spec_l02Of.s0 k (fun a0 a1 a2 a3 => rec (a0, a1, a2, a3)) v.1 v.2.1 v.2.2.1 v.2.2.2) (fun n v => spec_l02Of.l0 k n v.1 v.2.1 v.2.2.1 v.2.2.2) (fun _ => rfl) (fun _ _ => rfl) (fun rec v => r82_0 k rec v) n
theorem e82 (k : Nat) (x : dens (flatC (S82 k).ps)) : funK (E82 k) (S82 k) Try.f82 x = (S82 k).fn x := by
  have h : funK (E82 k) (S82 k) Try.f82 x = spec_l02Of.g k (fun a0 a1 a2 a3 => loopF (E82 k) (S82 k) Try.f82 p82_0 [] k (n82_0 a0 a1 a2 a3)) x.1 x.2 := by kernel_rfl
  rw [h]
  rw [show (fun a0 a1 a2 a3 => loopF (E82 k) (S82 k) Try.f82 p82_0 [] k (n82_0 a0 a1 a2 a3)) = spec_l02Of.l0 k k from funext fun a0 => funext fun a1 => funext fun a2 => funext fun a3 => q82_0 k k (a0, a1, a2, a3)]
  rfl
theorem M82 (k : Nat) : Meets Try.prog 82 (S82 k) := meets_of Try.func82 (by kernel_rfl) tbOk orc_nil mixOk (fun x y h => (e82 k x).trans h) rfl

/-! spec_l02Step: function 63 -/
def spec_l02Step.s0 (k : Nat) (r0 : (List Int) → Int → (List Int) → (List Int) → Int → Option ((List Int) × Bool)) (x1 : List Int) (x2 : Int) (x3_0 : List Int) (x8 : List Int) (x9 : Int) : Option ((List Int) × Bool) := if x9 < (x1.length : Int) then (if (decide (x9 = x2)) = true then (if 0 ≤ x9 then (if x9 < (x3_0.length : Int) then (if x8.length + 1 ≤ 1099511627776 then (r0 x1 x2 x3_0 (x8 ++ [(rd x3_0 x9)]) (wrap64 (x9 + 1))) else (none)) else (none)) else (none)) else (if 0 ≤ x9 then (if x9 < (x1.length : Int) then (if (decide ((rd x1 x9) = 1)) = true then (some ([], false)) else (if 0 ≤ x9 then (if x9 < (x1.length : Int) then (if x8.length + 1 ≤ 1099511627776 then (r0 x1 x2 x3_0 (x8 ++ [(wrap64 ((rd x1 x9) - 1))]) (wrap64 (x9 + 1))) else (none)) else (none)) else (none))) else (none)) else (none))) else (some (x8, true))
def spec_l02Step.l0 (k : Nat) : Nat → (List Int) → Int → (List Int) → (List Int) → Int → Option ((List Int) × Bool)
  | 0, _, _, _, _, _ => none
  | n + 1, x0, x1, x2, x3, x4 => spec_l02Step.s0 k (spec_l02Step.l0 k n) x0 x1 x2 x3 x4
def spec_l02Step.g (k : Nat) (r0 : (List Int) → Int → (List Int) → (List Int) → Int → Option ((List Int) × Bool)) (l0_0 : List Int) (l1 : List Int) (a2 : Int) : Option ((List Int) × Bool) := r0 l1 a2 l0_0 [] 0
def spec_l02Step.f (k : Nat) (l0_0 : List Int) (l1 : List Int) (a2 : Int) : Option ((List Int) × Bool) := spec_l02Step.g k (spec_l02Step.l0 k k) l0_0 l1 a2
def S63 (k : Nat) : Does := ⟨[(true, [.dat (.list (.int .i64))]), (false, [.dat (.list (.int .i64))]), (false, [.dat (.int .i64)])], [(false, [.own 2 (.int .i64)]), (false, [.dat .bool])], fun x => spec_l02Step.f k x.1 x.2.1 x.2.2⟩
def E63 (k : Nat) : En := ⟨tb, orcOf [], lvOf [(0, [(1, []), (2, []), (3, []), (8, []), (9, [])])], k, 0, lvOf [], []⟩
def n63_0 (x1 : List Int) (x2 : Int) (x3_0 : List Int) (x8 : List Int) (x9 : Int) : St := ⟨44, lookA [(1, .dat (.list (.int .i64)) x1), (2, .dat (.int .i64) x2), (3, .box 0 0), (8, .own 1), (9, .dat (.int .i64) x9)], Go.V.look [(0, .cells [.dat (.list (.int .i64)) x3_0]), (1, .flat 2 (.int .i64) x8)]⟩
def p63_0 : List Bool := [true, true, false, true, false]
theorem r63_0 (k : Nat) (rec : St → Option ((List Int) × Bool)) (v : (List Int) × Int × (List Int) × (List Int) × Int) : roundF (E63 k) (S63 k) Try.f63 p63_0 [] rec (n63_0 v.1 v.2.1 v.2.2.1 v.2.2.2.1 v.2.2.2.2) = spec_l02Step.s0 k (fun a0 a1 a2 a3 a4 => rec (n63_0 a0 a1 a2 a3 a4)) v.1 v.2.1 v.2.2.1 v.2.2.2.1 v.2.2.2.2 := by
  kernel_rfl
theorem q63_0 (k : Nat) (n : Nat) : ∀ v : (List Int) × Int × (List Int) × (List Int) × Int, loopF (E63 k) (S63 k) Try.f63 p63_0 [] n (n63_0 v.1 v.2.1 v.2.2.1 v.2.2.2.1 v.2.2.2.2) = spec_l02Step.l0 k n v.1 v.2.1 v.2.2.1 v.2.2.2.1 v.2.2.2.2 :=
  loopF_eq (E63 k) (S63 k) Try.f63 p63_0 [] (fun v : (List Int) × Int × (List Int) × (List Int) × Int => n63_0 v.1 v.2.1 v.2.2.1 v.2.2.2.1 v.2.2.2.2) (fun rec v => spec_l02Step.s0 k (fun a0 a1 a2 a3 a4 => rec (a0, a1, a2, a3, a4)) v.1 v.2.1 v.2.2.1 v.2.2.2.1 v.2.2.2.2) (fun n v => spec_l02Step.l0 k n v.1 v.2.1 v.2.2.1 v.2.2.2.1 v.2.2.2.2) (fun _ => rfl) (fun _ _ => rfl) (fun rec v => r63_0 k rec v) n
theorem e63 (k : Nat) (x : dens (flatC (S63 k).ps)) : funK (E63 k) (S63 k) Try.f63 x = (S63 k).fn x := by
  have h : funK (E63 k) (S63 k) Try.f63 x = spec_l02Step.g k (fun a0 a1 a2 a3 a4 => loopF (E63 k) (S63 k) Try.f63 p63_0 [] k (n63_0 a0 a1 a2 a3 a4)) x.1 x.2.1 x.2.2 := by kernel_rfl
  rw [h]
  rw [show (fun a0 a1 a2 a3 a4 => loopF (E63 k) (S63 k) Try.f63 p63_0 [] k (n63_0 a0 a1 a2 a3 a4)) = spec_l02Step.l0 k k from funext fun a0 => funext fun a1 => funext fun a2 => funext fun a3 => funext fun a4 => q63_0 k k (a0, a1, a2, a3, a4)]
  rfl
theorem M63 (k : Nat) : Meets Try.prog 63 (S63 k) := meets_of Try.func63 (by kernel_rfl) tbOk orc_nil mixOk (fun x y h => (e63 k x).trans h) rfl

/-! spec_l02Number: function 58 -/
def spec_l02Number.s0 (k : Nat) (r0 : (List Int) → (List Int) → Int → Int → Option (Int)) (x1 : List Int) (x2_0 : List Int) (x5 : Int) (x6 : Int) : Option (Int) := if x6 < (x1.length : Int) then (if 0 ≤ x6 then (if x6 < (x2_0.length : Int) then (if 0 ≤ x6 then (if x6 < (x1.length : Int) then (r0 x1 x2_0 (wrap64 ((wrap64 ((wrap64 (x5 * (rd x2_0 x6))) + (rd x1 x6))) - 1)) (wrap64 (x6 + 1))) else (none)) else (none)) else (none)) else (none)) else (some x5)
def spec_l02Number.l0 (k : Nat) : Nat → (List Int) → (List Int) → Int → Int → Option (Int)
  | 0, _, _, _, _ => none
  | n + 1, x0, x1, x2, x3 => spec_l02Number.s0 k (spec_l02Number.l0 k n) x0 x1 x2 x3
def spec_l02Number.g (k : Nat) (r0 : (List Int) → (List Int) → Int → Int → Option (Int)) (l0_0 : List Int) (l1 : List Int) : Option (Int) := r0 l1 l0_0 0 0
def spec_l02Number.f (k : Nat) (l0_0 : List Int) (l1 : List Int) : Option (Int) := spec_l02Number.g k (spec_l02Number.l0 k k) l0_0 l1
def S58 (k : Nat) : Does := ⟨[(true, [.dat (.list (.int .i64))]), (false, [.dat (.list (.int .i64))])], [(false, [.dat (.int .i64)])], fun x => spec_l02Number.f k x.1 x.2⟩
def E58 (k : Nat) : En := ⟨tb, orcOf [], lvOf [(0, [(1, []), (2, []), (5, []), (6, [])])], k, 0, lvOf [], []⟩
def n58_0 (x1 : List Int) (x2_0 : List Int) (x5 : Int) (x6 : Int) : St := ⟨27, lookA [(1, .dat (.list (.int .i64)) x1), (2, .box 0 0), (5, .dat (.int .i64) x5), (6, .dat (.int .i64) x6)], Go.V.look [(0, .cells [.dat (.list (.int .i64)) x2_0])]⟩
def p58_0 : List Bool := [true, true, false, true, false]
theorem r58_0 (k : Nat) (rec : St → Option (Int)) (v : (List Int) × (List Int) × Int × Int) : roundF (E58 k) (S58 k) Try.f58 p58_0 [] rec (n58_0 v.1 v.2.1 v.2.2.1 v.2.2.2) = spec_l02Number.s0 k (fun a0 a1 a2 a3 => rec (n58_0 a0 a1 a2 a3)) v.1 v.2.1 v.2.2.1 v.2.2.2 := by
  kernel_rfl
theorem q58_0 (k : Nat) (n : Nat) : ∀ v : (List Int) × (List Int) × Int × Int, loopF (E58 k) (S58 k) Try.f58 p58_0 [] n (n58_0 v.1 v.2.1 v.2.2.1 v.2.2.2) = spec_l02Number.l0 k n v.1 v.2.1 v.2.2.1 v.2.2.2 :=
  loopF_eq (E58 k) (S58 k) Try.f58 p58_0 [] (fun v : (List Int) × (List Int) × Int × Int => n58_0 v.1 v.2.1 v.2.2.1 v.2.2.2) (fun rec v => spec_l02Number.s0 k (fun a0 a1 a2 a3 => rec (a0, a1, a2, a3)) v.1 v.2.1 v.2.2.1 v.2.2.2) (fun n v => spec_l02Number.l0 k n v.1 v.2.1 v.2.2.1 v.2.2.2) (fun _ => rfl) (fun _ _ => rfl) (fun rec v => r58_0 k rec v) n
theorem e58 (k : Nat) (x : dens (flatC (S58 k).ps)) : funK (E58 k) (S58 k) Try.f58 x = (S58 k).fn x := by
  have h : funK (E58 k) (S58 k) Try.f58 x = spec_l02Number.g k (fun a0 a1 a2 a3 => loopF (E58 k) (S58 k) Try.f58 p58_0 [] k (n58_0 a0 a1 a2 a3)) x.1 x.2 := by kernel_rfl
  rw [h]
  rw [show (fun a0 a1 a2 a3 => loopF (E58 k) (S58 k) Try.f58 p58_0 [] k (n58_0 a0 a1 a2 a3)) = spec_l02Number.l0 k k from funext fun a0 => funext fun a1 => funext fun a2 => funext fun a3 => q58_0 k k (a0, a1, a2, a3)]
  rfl
theorem M58 (k : Nat) : Meets Try.prog 58 (S58 k) := meets_of Try.func58 (by kernel_rfl) tbOk orc_nil mixOk (fun x y h => (e58 k x).trans h) rfl

/-! spec_l02Lasting: function 53 -/
def spec_l02Lasting.s3 (k : Nat) (r2 : (List Int) → Int → (List Bool) → Bool → Int → Option ((List Bool))) (r3 : (List Int) → Int → (List Bool) → Bool → Int → (List Int) → Bool → Int → Option ((List Bool))) (x1_0 : List Int) (x3 : Int) (x4 : List Bool) (x6 : Bool) (x7 : Int) (x8 : List Int) (x9 : Bool) (x10 : Int) : Option ((List Bool)) := (spec_l01K.f x1_0).bind fun t3 => if x10 < t3 then (if x9 = true then (if x9 = true then (r2 x1_0 x3 x4 x6 (wrap64 (x7 + 1))) else (if 0 ≤ x7 then (if x7 < (x4.length : Int) then (r2 x1_0 x3 (x4.set x7.toNat false) true (wrap64 (x7 + 1))) else (none)) else (none))) else ((spec_l02Step.f k x1_0 x8 x10).bind fun t4 => if t4.2 = true then ((spec_l02Number.f k x1_0 t4.1).bind fun t5 => if 0 ≤ t5 then (if t5 < (x4.length : Int) then (r3 x1_0 x3 x4 x6 x7 x8 (rdOf false x4 t5) (wrap64 (x10 + 1))) else (none)) else (none)) else (r3 x1_0 x3 x4 x6 x7 x8 x9 (wrap64 (x10 + 1))))) else (if x9 = true then (r2 x1_0 x3 x4 x6 (wrap64 (x7 + 1))) else (if 0 ≤ x7 then (if x7 < (x4.length : Int) then (r2 x1_0 x3 (x4.set x7.toNat false) true (wrap64 (x7 + 1))) else (none)) else (none)))
def spec_l02Lasting.l3 (k : Nat) (r1 : (List Int) → Int → (List Bool) → Bool → Option ((List Bool))) (r2 : (List Int) → Int → (List Bool) → Bool → Int → Option ((List Bool))) : Nat → (List Int) → Int → (List Bool) → Bool → Int → (List Int) → Bool → Int → Option ((List Bool))
  | 0, _, _, _, _, _, _, _, _ => none
  | n + 1, x0, x1, x2, x3, x4, x5, x6, x7 => spec_l02Lasting.s3 k r2 (spec_l02Lasting.l3 k r1 r2 n) x0 x1 x2 x3 x4 x5 x6 x7
def spec_l02Lasting.s2 (k : Nat) (r1 : (List Int) → Int → (List Bool) → Bool → Option ((List Bool))) (r2 : (List Int) → Int → (List Bool) → Bool → Int → Option ((List Bool))) (r3 : (List Int) → Int → (List Bool) → Bool → Int → (List Int) → Bool → Int → Option ((List Bool))) (x1_0 : List Int) (x3 : Int) (x4 : List Bool) (x6 : Bool) (x7 : Int) : Option ((List Bool)) := if x7 < x3 then (if 0 ≤ x7 then (if x7 < (x4.length : Int) then (if (rdOf false x4 x7) = true then ((spec_l02Of.f k x1_0 x7).bind fun t2 => r3 x1_0 x3 x4 x6 x7 t2 false (-1)) else (r2 x1_0 x3 x4 x6 (wrap64 (x7 + 1)))) else (none)) else (none)) else (r1 x1_0 x3 x4 x6)
def spec_l02Lasting.l2 (k : Nat) (r1 : (List Int) → Int → (List Bool) → Bool → Option ((List Bool))) : Nat → (List Int) → Int → (List Bool) → Bool → Int → Option ((List Bool))
  | 0, _, _, _, _, _ => none
  | n + 1, x0, x1, x2, x3, x4 => spec_l02Lasting.s2 k r1 (spec_l02Lasting.l2 k r1 n) (spec_l02Lasting.l3 k r1 (spec_l02Lasting.l2 k r1 n) k) x0 x1 x2 x3 x4
def spec_l02Lasting.s1 (k : Nat) (r1 : (List Int) → Int → (List Bool) → Bool → Option ((List Bool))) (r2 : (List Int) → Int → (List Bool) → Bool → Int → Option ((List Bool))) (x1_0 : List Int) (x3 : Int) (x4 : List Bool) (x6 : Bool) : Option ((List Bool)) := if x6 = true then (r2 x1_0 x3 x4 false 0) else (some x4)
def spec_l02Lasting.l1 (k : Nat) : Nat → (List Int) → Int → (List Bool) → Bool → Option ((List Bool))
  | 0, _, _, _, _ => none
  | n + 1, x0, x1, x2, x3 => spec_l02Lasting.s1 k (spec_l02Lasting.l1 k n) (spec_l02Lasting.l2 k (spec_l02Lasting.l1 k n) k) x0 x1 x2 x3
def spec_l02Lasting.s0 (k : Nat) (r0 : (List Int) → Int → (List Bool) → Int → Int → Option ((List Bool))) (r1 : (List Int) → Int → (List Bool) → Bool → Option ((List Bool))) (x1_0 : List Int) (x3 : Int) (x4 : List Bool) (x18 : Int) (x19 : Int) : Option ((List Bool)) := if x19 < x18 then (if 0 ≤ x19 then (if x19 < (x4.length : Int) then (r0 x1_0 x3 (x4.set x19.toNat true) x18 (wrap64 (x19 + 1))) else (none)) else (none)) else (r1 x1_0 x3 x4 true)
def spec_l02Lasting.l0 (k : Nat) : Nat → (List Int) → Int → (List Bool) → Int → Int → Option ((List Bool))
  | 0, _, _, _, _, _ => none
  | n + 1, x0, x1, x2, x3, x4 => spec_l02Lasting.s0 k (spec_l02Lasting.l0 k n) (spec_l02Lasting.l1 k k) x0 x1 x2 x3 x4
def spec_l02Lasting.g (k : Nat) (r0 : (List Int) → Int → (List Bool) → Int → Int → Option ((List Bool))) (l0_0 : List Int) : Option ((List Bool)) := (spec_l02Count.f k l0_0).bind fun t1 => if 0 ≤ t1 then (if t1 ≤ t1 then (if t1.toNat ≤ 1099511627776 then (r0 l0_0 t1 (List.replicate t1.toNat (false : Bool)) ((List.replicate t1.toNat (false : Bool)).length : Int) 0) else (none)) else (none)) else (none)
def spec_l02Lasting.f (k : Nat) (l0_0 : List Int) : Option ((List Bool)) := spec_l02Lasting.g k (spec_l02Lasting.l0 k k) l0_0
def S53 (k : Nat) : Does := ⟨[(true, [.dat (.list (.int .i64))])], [(false, [.own 4 .bool])], fun x => spec_l02Lasting.f k x⟩
def E53 (k : Nat) : En := ⟨tb, orcOf [(76, S76 k), (82, S82 k), (90, S90 k), (63, S63 k), (58, S58 k)], lvOf [(0, [(1, []), (3, []), (4, []), (18, []), (19, [])]), (2, [(1, []), (3, []), (4, []), (6, [])]), (4, [(1, []), (3, []), (4, []), (6, []), (7, [])]), (6, [(1, []), (3, []), (4, []), (6, []), (7, []), (8, []), (9, []), (10, [])])], k, 0, lvOf [], []⟩
def n53_0 (x1_0 : List Int) (x3 : Int) (x4 : List Bool) (x18 : Int) (x19 : Int) : St := ⟨70, lookA [(1, .box 0 0), (3, .dat (.int .i64) x3), (4, .own 1), (18, .dat (.int .i64) x18), (19, .dat (.int .i64) x19)], Go.V.look [(0, .cells [.dat (.list (.int .i64)) x1_0]), (1, .flat 4 .bool x4)]⟩
def p53_0 : List Bool := [true, true, true, false, true, false]
def n53_1 (x1_0 : List Int) (x3 : Int) (x4 : List Bool) (x6 : Bool) : St := ⟨70, lookA [(1, .box 0 0), (3, .dat (.int .i64) x3), (4, .own 1), (6, .dat .bool x6)], Go.V.look [(0, .cells [.dat (.list (.int .i64)) x1_0]), (1, .flat 4 .bool x4)]⟩
def p53_1 : List Bool := [true, true, true, true, false, true, false]
def n53_2 (x1_0 : List Int) (x3 : Int) (x4 : List Bool) (x6 : Bool) (x7 : Int) : St := ⟨70, lookA [(1, .box 0 0), (3, .dat (.int .i64) x3), (4, .own 1), (6, .dat .bool x6), (7, .dat (.int .i64) x7)], Go.V.look [(0, .cells [.dat (.list (.int .i64)) x1_0]), (1, .flat 4 .bool x4)]⟩
def p53_2 : List Bool := [true, true, true, true, false, true, false, false, true, false, true, true, false]
def n53_3 (x1_0 : List Int) (x3 : Int) (x4 : List Bool) (x6 : Bool) (x7 : Int) (x8 : List Int) (x9 : Bool) (x10 : Int) : St := ⟨70, lookA [(1, .box 0 0), (3, .dat (.int .i64) x3), (4, .own 1), (6, .dat .bool x6), (7, .dat (.int .i64) x7), (8, .own 2), (9, .dat .bool x9), (10, .dat (.int .i64) x10)], Go.V.look [(0, .cells [.dat (.list (.int .i64)) x1_0]), (1, .flat 4 .bool x4), (2, .flat 2 (.int .i64) x8)]⟩
def p53_3 : List Bool := [true, true, true, true, false, true, false, false, true, false, true, true, false, false, true, false, false, true, true, false, true, false]
theorem r53_3 (k : Nat) (R1 : St → Option ((List Bool))) (R2 : St → Option ((List Bool))) (rec : St → Option ((List Bool))) (v : (List Int) × Int × (List Bool) × Bool × Int × (List Int) × Bool × Int) : roundF (E53 k) (S53 k) Try.f53 p53_3 [R1, R2] rec (n53_3 v.1 v.2.1 v.2.2.1 v.2.2.2.1 v.2.2.2.2.1 v.2.2.2.2.2.1 v.2.2.2.2.2.2.1 v.2.2.2.2.2.2.2) = spec_l02Lasting.s3 k (fun a0 a1 a2 a3 a4 => R2 (n53_2 a0 a1 a2 a3 a4)) (fun a0 a1 a2 a3 a4 a5 a6 a7 => rec (n53_3 a0 a1 a2 a3 a4 a5 a6 a7)) v.1 v.2.1 v.2.2.1 v.2.2.2.1 v.2.2.2.2.1 v.2.2.2.2.2.1 v.2.2.2.2.2.2.1 v.2.2.2.2.2.2.2 := by
  kernel_rfl
theorem q53_3 (k : Nat) (R1 : St → Option ((List Bool))) (R2 : St → Option ((List Bool))) (n : Nat) : ∀ v : (List Int) × Int × (List Bool) × Bool × Int × (List Int) × Bool × Int, loopF (E53 k) (S53 k) Try.f53 p53_3 [R1, R2] n (n53_3 v.1 v.2.1 v.2.2.1 v.2.2.2.1 v.2.2.2.2.1 v.2.2.2.2.2.1 v.2.2.2.2.2.2.1 v.2.2.2.2.2.2.2) = spec_l02Lasting.l3 k (fun a0 a1 a2 a3 => R1 (n53_1 a0 a1 a2 a3)) (fun a0 a1 a2 a3 a4 => R2 (n53_2 a0 a1 a2 a3 a4)) n v.1 v.2.1 v.2.2.1 v.2.2.2.1 v.2.2.2.2.1 v.2.2.2.2.2.1 v.2.2.2.2.2.2.1 v.2.2.2.2.2.2.2 :=
  loopF_eq (E53 k) (S53 k) Try.f53 p53_3 [R1, R2] (fun v : (List Int) × Int × (List Bool) × Bool × Int × (List Int) × Bool × Int => n53_3 v.1 v.2.1 v.2.2.1 v.2.2.2.1 v.2.2.2.2.1 v.2.2.2.2.2.1 v.2.2.2.2.2.2.1 v.2.2.2.2.2.2.2) (fun rec v => spec_l02Lasting.s3 k (fun a0 a1 a2 a3 a4 => R2 (n53_2 a0 a1 a2 a3 a4)) (fun a0 a1 a2 a3 a4 a5 a6 a7 => rec (a0, a1, a2, a3, a4, a5, a6, a7)) v.1 v.2.1 v.2.2.1 v.2.2.2.1 v.2.2.2.2.1 v.2.2.2.2.2.1 v.2.2.2.2.2.2.1 v.2.2.2.2.2.2.2) (fun n v => spec_l02Lasting.l3 k (fun a0 a1 a2 a3 => R1 (n53_1 a0 a1 a2 a3)) (fun a0 a1 a2 a3 a4 => R2 (n53_2 a0 a1 a2 a3 a4)) n v.1 v.2.1 v.2.2.1 v.2.2.2.1 v.2.2.2.2.1 v.2.2.2.2.2.1 v.2.2.2.2.2.2.1 v.2.2.2.2.2.2.2) (fun _ => rfl) (fun _ _ => rfl) (fun rec v => r53_3 k R1 R2 rec v) n
theorem r53_2 (k : Nat) (R1 : St → Option ((List Bool))) (rec : St → Option ((List Bool))) (G3 : (List Int) → Int → (List Bool) → Bool → Int → (List Int) → Bool → Int → Option ((List Bool))) (h3 : ∀ a0 a1 a2 a3 a4 a5 a6 a7, loopF (E53 k) (S53 k) Try.f53 p53_3 [R1, rec] k (n53_3 a0 a1 a2 a3 a4 a5 a6 a7) = G3 a0 a1 a2 a3 a4 a5 a6 a7) (v : (List Int) × Int × (List Bool) × Bool × Int) : roundF (E53 k) (S53 k) Try.f53 p53_2 [R1] rec (n53_2 v.1 v.2.1 v.2.2.1 v.2.2.2.1 v.2.2.2.2) = spec_l02Lasting.s2 k (fun a0 a1 a2 a3 => R1 (n53_1 a0 a1 a2 a3)) (fun a0 a1 a2 a3 a4 => rec (n53_2 a0 a1 a2 a3 a4)) G3 v.1 v.2.1 v.2.2.1 v.2.2.2.1 v.2.2.2.2 := by
  obtain rfl : (fun a0 a1 a2 a3 a4 a5 a6 a7 => loopF (E53 k) (S53 k) Try.f53 p53_3 [R1, rec] k (n53_3 a0 a1 a2 a3 a4 a5 a6 a7)) = G3 := funext fun a0 => funext fun a1 => funext fun a2 => funext fun a3 => funext fun a4 => funext fun a5 => funext fun a6 => funext fun a7 => h3 a0 a1 a2 a3 a4 a5 a6 a7
  kernel_rfl
theorem q53_2 (k : Nat) (R1 : St → Option ((List Bool))) (n : Nat) : ∀ v : (List Int) × Int × (List Bool) × Bool × Int, loopF (E53 k) (S53 k) Try.f53 p53_2 [R1] n (n53_2 v.1 v.2.1 v.2.2.1 v.2.2.2.1 v.2.2.2.2) = spec_l02Lasting.l2 k (fun a0 a1 a2 a3 => R1 (n53_1 a0 a1 a2 a3)) n v.1 v.2.1 v.2.2.1 v.2.2.2.1 v.2.2.2.2 :=
  loopF_eq (E53 k) (S53 k) Try.f53 p53_2 [R1] (fun v : (List Int) × Int × (List Bool) × Bool × Int => n53_2 v.1 v.2.1 v.2.2.1 v.2.2.2.1 v.2.2.2.2) (fun rec v => spec_l02Lasting.s2 k (fun a0 a1 a2 a3 => R1 (n53_1 a0 a1 a2 a3)) (fun a0 a1 a2 a3 a4 => rec (a0, a1, a2, a3, a4)) (spec_l02Lasting.l3 k (fun a0 a1 a2 a3 => R1 (n53_1 a0 a1 a2 a3)) (fun a0 a1 a2 a3 a4 => rec (a0, a1, a2, a3, a4)) k) v.1 v.2.1 v.2.2.1 v.2.2.2.1 v.2.2.2.2) (fun n v => spec_l02Lasting.l2 k (fun a0 a1 a2 a3 => R1 (n53_1 a0 a1 a2 a3)) n v.1 v.2.1 v.2.2.1 v.2.2.2.1 v.2.2.2.2) (fun _ => rfl) (fun _ _ => rfl) (fun rec v => r53_2 k R1 rec _ (fun a0 a1 a2 a3 a4 a5 a6 a7 => q53_3 k R1 rec k (a0, a1, a2, a3, a4, a5, a6, a7)) v) n
theorem r53_1 (k : Nat) (rec : St → Option ((List Bool))) (G2 : (List Int) → Int → (List Bool) → Bool → Int → Option ((List Bool))) (h2 : ∀ a0 a1 a2 a3 a4, loopF (E53 k) (S53 k) Try.f53 p53_2 [rec] k (n53_2 a0 a1 a2 a3 a4) = G2 a0 a1 a2 a3 a4) (v : (List Int) × Int × (List Bool) × Bool) : roundF (E53 k) (S53 k) Try.f53 p53_1 [] rec (n53_1 v.1 v.2.1 v.2.2.1 v.2.2.2) = spec_l02Lasting.s1 k (fun a0 a1 a2 a3 => rec (n53_1 a0 a1 a2 a3)) G2 v.1 v.2.1 v.2.2.1 v.2.2.2 := by
  obtain rfl : (fun a0 a1 a2 a3 a4 => loopF (E53 k) (S53 k) Try.f53 p53_2 [rec] k (n53_2 a0 a1 a2 a3 a4)) = G2 := funext fun a0 => funext fun a1 => funext fun a2 => funext fun a3 => funext fun a4 => h2 a0 a1 a2 a3 a4
  kernel_rfl
theorem q53_1 (k : Nat) (n : Nat) : ∀ v : (List Int) × Int × (List Bool) × Bool, loopF (E53 k) (S53 k) Try.f53 p53_1 [] n (n53_1 v.1 v.2.1 v.2.2.1 v.2.2.2) = spec_l02Lasting.l1 k n v.1 v.2.1 v.2.2.1 v.2.2.2 :=
  loopF_eq (E53 k) (S53 k) Try.f53 p53_1 [] (fun v : (List Int) × Int × (List Bool) × Bool => n53_1 v.1 v.2.1 v.2.2.1 v.2.2.2) (fun rec v => spec_l02Lasting.s1 k (fun a0 a1 a2 a3 => rec (a0, a1, a2, a3)) (spec_l02Lasting.l2 k (fun a0 a1 a2 a3 => rec (a0, a1, a2, a3)) k) v.1 v.2.1 v.2.2.1 v.2.2.2) (fun n v => spec_l02Lasting.l1 k n v.1 v.2.1 v.2.2.1 v.2.2.2) (fun _ => rfl) (fun _ _ => rfl) (fun rec v => r53_1 k rec _ (fun a0 a1 a2 a3 a4 => q53_2 k rec k (a0, a1, a2, a3, a4)) v) n
theorem r53_0 (k : Nat) (rec : St → Option ((List Bool))) (G1 : (List Int) → Int → (List Bool) → Bool → Option ((List Bool))) (h1 : ∀ a0 a1 a2 a3, loopF (E53 k) (S53 k) Try.f53 p53_1 [] k (n53_1 a0 a1 a2 a3) = G1 a0 a1 a2 a3) (v : (List Int) × Int × (List Bool) × Int × Int) : roundF (E53 k) (S53 k) Try.f53 p53_0 [] rec (n53_0 v.1 v.2.1 v.2.2.1 v.2.2.2.1 v.2.2.2.2) = spec_l02Lasting.s0 k (fun a0 a1 a2 a3 a4 => rec (n53_0 a0 a1 a2 a3 a4)) G1 v.1 v.2.1 v.2.2.1 v.2.2.2.1 v.2.2.2.2 := by
  obtain rfl : (fun a0 a1 a2 a3 => loopF (E53 k) (S53 k) Try.f53 p53_1 [] k (n53_1 a0 a1 a2 a3)) = G1 := funext fun a0 => funext fun a1 => funext fun a2 => funext fun a3 => h1 a0 a1 a2 a3
  kernel_rfl
theorem q53_0 (k : Nat) (n : Nat) : ∀ v : (List Int) × Int × (List Bool) × Int × Int, loopF (E53 k) (S53 k) Try.f53 p53_0 [] n (n53_0 v.1 v.2.1 v.2.2.1 v.2.2.2.1 v.2.2.2.2) = spec_l02Lasting.l0 k n v.1 v.2.1 v.2.2.1 v.2.2.2.1 v.2.2.2.2 :=
  loopF_eq (E53 k) (S53 k) Try.f53 p53_0 [] (fun v : (List Int) × Int × (List Bool) × Int × Int => n53_0 v.1 v.2.1 v.2.2.1 v.2.2.2.1 v.2.2.2.2) (fun rec v => spec_l02Lasting.s0 k (fun a0 a1 a2 a3 a4 => rec (a0, a1, a2, a3, a4)) (spec_l02Lasting.l1 k k) v.1 v.2.1 v.2.2.1 v.2.2.2.1 v.2.2.2.2) (fun n v => spec_l02Lasting.l0 k n v.1 v.2.1 v.2.2.1 v.2.2.2.1 v.2.2.2.2) (fun _ => rfl) (fun _ _ => rfl) (fun rec v => r53_0 k rec _ (fun a0 a1 a2 a3 => q53_1 k k (a0, a1, a2, a3)) v) n
theorem e53 (k : Nat) (x : dens (flatC (S53 k).ps)) : funK (E53 k) (S53 k) Try.f53 x = (S53 k).fn x := by
  have h : funK (E53 k) (S53 k) Try.f53 x = spec_l02Lasting.g k (fun a0 a1 a2 a3 a4 => loopF (E53 k) (S53 k) Try.f53 p53_0 [] k (n53_0 a0 a1 a2 a3 a4)) x := by kernel_rfl
  rw [h]
  rw [show (fun a0 a1 a2 a3 a4 => loopF (E53 k) (S53 k) Try.f53 p53_0 [] k (n53_0 a0 a1 a2 a3 a4)) = spec_l02Lasting.l0 k k from funext fun a0 => funext fun a1 => funext fun a2 => funext fun a3 => funext fun a4 => q53_0 k k (a0, a1, a2, a3, a4)]
  rfl
theorem M53 (k : Nat) : Meets Try.prog 53 (S53 k) := meets_of Try.func53 (by kernel_rfl) tbOk (orc_cons (M76 k) (orc_cons (M82 k) (orc_cons (M90 k) (orc_cons (M63 k) (orc_cons (M58 k) orc_nil))))) mixOk (fun x y h => (e53 k x).trans h) rfl

/-! spec_CountLasting: function 16 -/
def spec_CountLasting.s0 (k : Nat) (r0 : (List Bool) → Int → Int → Int → Option (Int × Int)) (x5 : List Bool) (x6 : Int) (x16 : Int) (x17 : Int) : Option (Int × Int) := if x17 < x16 then (if 0 ≤ x17 then (if x17 < (x5.length : Int) then (if (rdOf false x5 x17) = true then (r0 x5 (wrap64 (x6 + 1)) x16 (wrap64 (x17 + 1))) else (r0 x5 x6 x16 (wrap64 (x17 + 1)))) else (none)) else (none)) else (some (x6, 0))
def spec_CountLasting.l0 (k : Nat) : Nat → (List Bool) → Int → Int → Int → Option (Int × Int)
  | 0, _, _, _, _ => none
  | n + 1, x0, x1, x2, x3 => spec_CountLasting.s0 k (spec_CountLasting.l0 k n) x0 x1 x2 x3
def spec_CountLasting.g (k : Nat) (r0 : (List Bool) → Int → Int → Int → Option (Int × Int)) (l0_0 : List Int) : Option (Int × Int) := (spec_l02Few.f k l0_0).bind fun t1 => if t1 = 0 then ((spec_l02Lasting.f k l0_0).bind fun t2 => r0 t2 0 (t2.length : Int) 0) else (some (0, t1))
def spec_CountLasting.f (k : Nat) (l0_0 : List Int) : Option (Int × Int) := spec_CountLasting.g k (spec_CountLasting.l0 k k) l0_0
def S16 (k : Nat) : Does := ⟨[(true, [.dat (.list (.int .i64))])], [(false, [.dat (.int .i64)]), (false, [.dat (.int .i64)])], fun x => spec_CountLasting.f k x⟩
def E16 (k : Nat) : En := ⟨tb, orcOf [(52, S52 k), (53, S53 k)], lvOf [(0, [(5, []), (6, []), (16, []), (17, [])])], k, 0, lvOf [], []⟩
def n16_0 (x5 : List Bool) (x6 : Int) (x16 : Int) (x17 : Int) : St := ⟨28, lookA [(5, .own 0), (6, .dat (.int .i64) x6), (16, .dat (.int .i64) x16), (17, .dat (.int .i64) x17)], Go.V.look [(0, .flat 4 .bool x5)]⟩
def p16_0 : List Bool := [true, true, true, false, true, false]
theorem r16_0 (k : Nat) (rec : St → Option (Int × Int)) (v : (List Bool) × Int × Int × Int) : roundF (E16 k) (S16 k) Try.f16 p16_0 [] rec (n16_0 v.1 v.2.1 v.2.2.1 v.2.2.2) = spec_CountLasting.s0 k (fun a0 a1 a2 a3 => rec (n16_0 a0 a1 a2 a3)) v.1 v.2.1 v.2.2.1 v.2.2.2 := by
  kernel_rfl
theorem q16_0 (k : Nat) (n : Nat) : ∀ v : (List Bool) × Int × Int × Int, loopF (E16 k) (S16 k) Try.f16 p16_0 [] n (n16_0 v.1 v.2.1 v.2.2.1 v.2.2.2) = spec_CountLasting.l0 k n v.1 v.2.1 v.2.2.1 v.2.2.2 :=
  loopF_eq (E16 k) (S16 k) Try.f16 p16_0 [] (fun v : (List Bool) × Int × Int × Int => n16_0 v.1 v.2.1 v.2.2.1 v.2.2.2) (fun rec v => spec_CountLasting.s0 k (fun a0 a1 a2 a3 => rec (a0, a1, a2, a3)) v.1 v.2.1 v.2.2.1 v.2.2.2) (fun n v => spec_CountLasting.l0 k n v.1 v.2.1 v.2.2.1 v.2.2.2) (fun _ => rfl) (fun _ _ => rfl) (fun rec v => r16_0 k rec v) n
theorem e16 (k : Nat) (x : dens (flatC (S16 k).ps)) : funK (E16 k) (S16 k) Try.f16 x = (S16 k).fn x := by
  have h : funK (E16 k) (S16 k) Try.f16 x = spec_CountLasting.g k (fun a0 a1 a2 a3 => loopF (E16 k) (S16 k) Try.f16 p16_0 [] k (n16_0 a0 a1 a2 a3)) x := by kernel_rfl
  rw [h]
  rw [show (fun a0 a1 a2 a3 => loopF (E16 k) (S16 k) Try.f16 p16_0 [] k (n16_0 a0 a1 a2 a3)) = spec_CountLasting.l0 k k from funext fun a0 => funext fun a1 => funext fun a2 => funext fun a3 => q16_0 k k (a0, a1, a2, a3)]
  rfl
theorem M16 (k : Nat) : Meets Try.prog 16 (S16 k) := meets_of Try.func16 (by kernel_rfl) tbOk (orc_cons (M52 k) (orc_cons (M53 k) orc_nil)) mixOk (fun x y h => (e16 k x).trans h) rfl

/-! impl_length_int64: function 66 -/
def impl_length_int64.f (l0 : List Int) : Option (Int) := some (l0.length : Int)
def S66 (k : Nat) : Does := ⟨[(false, [.dat (.list (.int .i64))])], [(false, [.dat (.int .i64)])], fun x => impl_length_int64.f x⟩
def E66 (k : Nat) : En := ⟨tb, orcOf [], lvOf [], k, 0, lvOf [], []⟩
theorem e66 (k : Nat) (x : dens (flatC (S66 k).ps)) : funK (E66 k) (S66 k) Try.f66 x = (S66 k).fn x := by
  kernel_rfl
theorem M66 (k : Nat) : Meets Try.prog 66 (S66 k) := meets_of Try.func66 (by kernel_rfl) tbOk orc_nil mixOk (fun x y h => (e66 k x).trans h) rfl

/-! impl_within: function 104 -/
def impl_within.f (a0 : Int) (a1 : Int) (a2 : Int) : Option (Bool) := if a1 ≤ a0 then (some (decide (a0 ≤ a2))) else (some false)
def S104 (k : Nat) : Does := ⟨[(false, [.dat (.int .i64)]), (false, [.dat (.int .i64)]), (false, [.dat (.int .i64)])], [(false, [.dat .bool])], fun x => impl_within.f x.1 x.2.1 x.2.2⟩
def E104 (k : Nat) : En := ⟨tb, orcOf [], lvOf [], k, 0, lvOf [], []⟩
theorem e104 (k : Nat) (x : dens (flatC (S104 k).ps)) : funK (E104 k) (S104 k) Try.f104 x = (S104 k).fn x := by
  kernel_rfl
theorem M104 (k : Nat) : Meets Try.prog 104 (S104 k) := meets_of Try.func104 (by kernel_rfl) tbOk orc_nil mixOk (fun x y h => (e104 k x).trans h) rfl

/-! impl_IsTasks_1: function 109 -/
def impl_IsTasks_1.f (a0 : Int) : Option (Bool) := (impl_within.f a0 1 40).bind fun t1 => some t1
def S109 (k : Nat) : Does := ⟨[(false, [.dat (.int .i64)])], [(false, [.dat .bool])], fun x => impl_IsTasks_1.f x⟩
def E109 (k : Nat) : En := ⟨tb, orcOf [(104, S104 k)], lvOf [], k, 0, lvOf [], []⟩
theorem e109 (k : Nat) (x : dens (flatC (S109 k).ps)) : funK (E109 k) (S109 k) Try.f109 x = (S109 k).fn x := by
  kernel_rfl
theorem M109 (k : Nat) : Meets Try.prog 109 (S109 k) := meets_of Try.func109 (by kernel_rfl) tbOk (orc_cons (M104 k) orc_nil) mixOk (fun x y h => (e109 k x).trans h) rfl

/-! impl_areAll_int64_1_impl_IsTasks_1: function 107 -/
def impl_areAll_int64_1_impl_IsTasks_1.f (a0 : Int) (a1 : Unit) : Option (Bool) := (impl_IsTasks_1.f a0).bind fun t1 => some (!decide (t1 = true))
def S107_c109 (k : Nat) : Does := ⟨[(false, [.dat (.int .i64)]), (false, [.dat (.ptr (.clo 109 .unit))])], [(false, [.dat .bool])], fun x => impl_areAll_int64_1_impl_IsTasks_1.f x.1 x.2⟩
def E107_c109 (k : Nat) : En := ⟨tb, orcOf [(109, S109 k)], lvOf [], k, 0, lvOf [], []⟩
theorem e107_c109 (k : Nat) (x : dens (flatC (S107_c109 k).ps)) : funK (E107_c109 k) (S107_c109 k) Try.f107 x = (S107_c109 k).fn x := by
  kernel_rfl
theorem M107_c109 (k : Nat) : Meets Try.prog 107 (S107_c109 k) := meets_of Try.func107 (by kernel_rfl) tbOk (orc_cons (M109 k) orc_nil) mixOk (fun x y h => (e107_c109 k x).trans h) rfl

/-! slices_IndexFunc_int64_int64_impl_areAll_int64_1_impl_IsTasks_1: function 117 -/
def slices_IndexFunc_int64_int64_impl_areAll_int64_1_impl_IsTasks_1.s0 (k : Nat) (r0 : (List Int) → Unit → Int → Int → Option (Int)) (x0 : List Int) (x1 : Unit) (x7 : Int) (x8 : Int) : Option (Int) := if x8 < x7 then (if 0 ≤ x8 then (if x8 < (x0.length : Int) then ((impl_areAll_int64_1_impl_IsTasks_1.f (rd x0 x8) x1).bind fun t1 => if t1 = true then (some x8) else (r0 x0 x1 x7 (wrap64 (x8 + 1)))) else (none)) else (none)) else (some (-1))
def slices_IndexFunc_int64_int64_impl_areAll_int64_1_impl_IsTasks_1.l0 (k : Nat) : Nat → (List Int) → Unit → Int → Int → Option (Int)
  | 0, _, _, _, _ => none
  | n + 1, x0, x1, x2, x3 => slices_IndexFunc_int64_int64_impl_areAll_int64_1_impl_IsTasks_1.s0 k (slices_IndexFunc_int64_int64_impl_areAll_int64_1_impl_IsTasks_1.l0 k n) x0 x1 x2 x3
def slices_IndexFunc_int64_int64_impl_areAll_int64_1_impl_IsTasks_1.g (k : Nat) (r0 : (List Int) → Unit → Int → Int → Option (Int)) (l0 : List Int) (a1 : Unit) : Option (Int) := r0 l0 a1 (l0.length : Int) 0
def slices_IndexFunc_int64_int64_impl_areAll_int64_1_impl_IsTasks_1.f (k : Nat) (l0 : List Int) (a1 : Unit) : Option (Int) := slices_IndexFunc_int64_int64_impl_areAll_int64_1_impl_IsTasks_1.g k (slices_IndexFunc_int64_int64_impl_areAll_int64_1_impl_IsTasks_1.l0 k k) l0 a1
def S117_c107c109 (k : Nat) : Does := ⟨[(false, [.dat (.list (.int .i64))]), (false, [.dat (.clo 107 (.ptr (.clo 109 .unit)))])], [(false, [.dat (.int .i64)])], fun x => slices_IndexFunc_int64_int64_impl_areAll_int64_1_impl_IsTasks_1.f k x.1 x.2⟩
def E117_c107c109 (k : Nat) : En := ⟨tb, orcOf [(107, S107_c109 k)], lvOf [(0, [(0, []), (1, []), (7, []), (8, [])])], k, 0, lvOf [], []⟩
def n117_c107c109_0 (x0 : List Int) (x1 : Unit) (x7 : Int) (x8 : Int) : St := ⟨19, lookA [(0, .dat (.list (.int .i64)) x0), (1, .dat (.clo 107 (.ptr (.clo 109 .unit))) x1), (7, .dat (.int .i64) x7), (8, .dat (.int .i64) x8)], Go.V.look []⟩
def p117_c107c109_0 : List Bool := [true, false, true, false]
theorem r117_c107c109_0 (k : Nat) (rec : St → Option (Int)) (v : (List Int) × Unit × Int × Int) : roundF (E117_c107c109 k) (S117_c107c109 k) Try.f117 p117_c107c109_0 [] rec (n117_c107c109_0 v.1 v.2.1 v.2.2.1 v.2.2.2) = slices_IndexFunc_int64_int64_impl_areAll_int64_1_impl_IsTasks_1.s0 k (fun a0 a1 a2 a3 => rec (n117_c107c109_0 a0 a1 a2 a3)) v.1 v.2.1 v.2.2.1 v.2.2.2 := by
  kernel_rfl
theorem q117_c107c109_0 (k : Nat) (n : Nat) : ∀ v : (List Int) × Unit × Int × Int, loopF (E117_c107c109 k) (S117_c107c109 k) Try.f117 p117_c107c109_0 [] n (n117_c107c109_0 v.1 v.2.1 v.2.2.1 v.2.2.2) = slices_IndexFunc_int64_int64_impl_areAll_int64_1_impl_IsTasks_1.l0 k n v.1 v.2.1 v.2.2.1 v.2.2.2 :=
  loopF_eq (E117_c107c109 k) (S117_c107c109 k) Try.f117 p117_c107c109_0 [] (fun v : (List Int) × Unit × Int × Int => n117_c107c109_0 v.1 v.2.1 v.2.2.1 v.2.2.2) (fun rec v => slices_IndexFunc_int64_int64_impl_areAll_int64_1_impl_IsTasks_1.s0 k (fun a0 a1 a2 a3 => rec (a0, a1, a2, a3)) v.1 v.2.1 v.2.2.1 v.2.2.2) (fun n v => slices_IndexFunc_int64_int64_impl_areAll_int64_1_impl_IsTasks_1.l0 k n v.1 v.2.1 v.2.2.1 v.2.2.2) (fun _ => rfl) (fun _ _ => rfl) (fun rec v => r117_c107c109_0 k rec v) n
theorem e117_c107c109 (k : Nat) (x : dens (flatC (S117_c107c109 k).ps)) : funK (E117_c107c109 k) (S117_c107c109 k) Try.f117 x = (S117_c107c109 k).fn x := by
  have h : funK (E117_c107c109 k) (S117_c107c109 k) Try.f117 x = slices_IndexFunc_int64_int64_impl_areAll_int64_1_impl_IsTasks_1.g k (fun a0 a1 a2 a3 => loopF (E117_c107c109 k) (S117_c107c109 k) Try.f117 p117_c107c109_0 [] k (n117_c107c109_0 a0 a1 a2 a3)) x.1 x.2 := by kernel_rfl
  rw [h]
  rw [show (fun a0 a1 a2 a3 => loopF (E117_c107c109 k) (S117_c107c109 k) Try.f117 p117_c107c109_0 [] k (n117_c107c109_0 a0 a1 a2 a3)) = slices_IndexFunc_int64_int64_impl_areAll_int64_1_impl_IsTasks_1.l0 k k from funext fun a0 => funext fun a1 => funext fun a2 => funext fun a3 => q117_c107c109_0 k k (a0, a1, a2, a3)]
  rfl
theorem M117_c107c109 (k : Nat) : Meets Try.prog 117 (S117_c107c109 k) := meets_of Try.func117 (by kernel_rfl) tbOk (orc_cons (M107_c109 k) orc_nil) mixOk (fun x y h => (e117_c107c109 k x).trans h) rfl

/-! slices_ContainsFunc_int64_int64_impl_areAll_int64_1_impl_IsTasks_1: function 106 -/
def slices_ContainsFunc_int64_int64_impl_areAll_int64_1_impl_IsTasks_1.f (k : Nat) (l0 : List Int) (a1 : Unit) : Option (Bool) := (slices_IndexFunc_int64_int64_impl_areAll_int64_1_impl_IsTasks_1.f k l0 a1).bind fun t1 => some (decide (0 ≤ t1))
def S106_c107c109 (k : Nat) : Does := ⟨[(false, [.dat (.list (.int .i64))]), (false, [.dat (.clo 107 (.ptr (.clo 109 .unit)))])], [(false, [.dat .bool])], fun x => slices_ContainsFunc_int64_int64_impl_areAll_int64_1_impl_IsTasks_1.f k x.1 x.2⟩
def E106_c107c109 (k : Nat) : En := ⟨tb, orcOf [(117, S117_c107c109 k)], lvOf [], k, 0, lvOf [], []⟩
theorem e106_c107c109 (k : Nat) (x : dens (flatC (S106_c107c109 k).ps)) : funK (E106_c107c109 k) (S106_c107c109 k) Try.f106 x = (S106_c107c109 k).fn x := by
  kernel_rfl
theorem M106_c107c109 (k : Nat) : Meets Try.prog 106 (S106_c107c109 k) := meets_of Try.func106 (by kernel_rfl) tbOk (orc_cons (M117_c107c109 k) orc_nil) mixOk (fun x y h => (e106_c107c109 k x).trans h) rfl

/-! impl_areAll_int64_impl_IsTasks_1: function 64 -/
def impl_areAll_int64_impl_IsTasks_1.f (k : Nat) (l0 : List Int) (a1 : Unit) : Option (Bool) := (slices_ContainsFunc_int64_int64_impl_areAll_int64_1_impl_IsTasks_1.f k l0 a1).bind fun t1 => some (!decide (t1 = true))
def S64_c109 (k : Nat) : Does := ⟨[(false, [.dat (.list (.int .i64))]), (false, [.dat (.clo 109 .unit)])], [(false, [.dat .bool])], fun x => impl_areAll_int64_impl_IsTasks_1.f k x.1 x.2⟩
def E64_c109 (k : Nat) : En := ⟨tb, orcOf [(106, S106_c107c109 k)], lvOf [], k, 0, lvOf [], []⟩
theorem e64_c109 (k : Nat) (x : dens (flatC (S64_c109 k).ps)) : funK (E64_c109 k) (S64_c109 k) Try.f64 x = (S64_c109 k).fn x := by
  kernel_rfl
theorem M64_c109 (k : Nat) : Meets Try.prog 64 (S64_c109 k) := meets_of Try.func64 (by kernel_rfl) tbOk (orc_cons (M106_c107c109 k) orc_nil) mixOk (fun x y h => (e64_c109 k x).trans h) rfl

/-! impl_IsTasks: function 80 -/
def impl_IsTasks.f (k : Nat) (l0_0 : List Int) : Option (Bool) := (impl_length_int64.f l0_0).bind fun t1 => (impl_within.f t1 1 8).bind fun t2 => if t2 = true then ((impl_areAll_int64_impl_IsTasks_1.f k l0_0 ()).bind fun t3 => some t3) else (some false)
def S80 (k : Nat) : Does := ⟨[(true, [.dat (.list (.int .i64))])], [(false, [.dat .bool])], fun x => impl_IsTasks.f k x⟩
def E80 (k : Nat) : En := ⟨tb, orcOf [(66, S66 k), (104, S104 k), (64, S64_c109 k)], lvOf [], k, 0, lvOf [], []⟩
theorem e80 (k : Nat) (x : dens (flatC (S80 k).ps)) : funK (E80 k) (S80 k) Try.f80 x = (S80 k).fn x := by
  kernel_rfl
theorem M80 (k : Nat) : Meets Try.prog 80 (S80 k) := meets_of Try.func80 (by kernel_rfl) tbOk (orc_cons (M66 k) (orc_cons (M104 k) (orc_cons (M64_c109 k) orc_nil))) mixOk (fun x y h => (e80 k x).trans h) rfl

/-! impl_tasksCode: function 101 -/
def impl_tasksCode.f (k : Nat) (l0_0 : List Int) (a1 : Bool) : Option (Int) := (impl_IsTasks.f k l0_0).bind fun t1 => if (!decide (t1 = true)) = true then (some 1) else (if (!decide (a1 = true)) = true then (some 2) else (some 0))
def S101 (k : Nat) : Does := ⟨[(true, [.dat (.list (.int .i64))]), (false, [.dat .bool])], [(false, [.dat (.int .i64)])], fun x => impl_tasksCode.f k x.1 x.2⟩
def E101 (k : Nat) : En := ⟨tb, orcOf [(80, S80 k)], lvOf [], k, 0, lvOf [], []⟩
theorem e101 (k : Nat) (x : dens (flatC (S101 k).ps)) : funK (E101 k) (S101 k) Try.f101 x = (S101 k).fn x := by
  kernel_rfl
theorem M101 (k : Nat) : Meets Try.prog 101 (S101 k) := meets_of Try.func101 (by kernel_rfl) tbOk (orc_cons (M80 k) orc_nil) mixOk (fun x y h => (e101 k x).trans h) rfl

/-! impl_Tasks_states: function 81 -/
def impl_Tasks_states.s0 (k : Nat) (r0 : Int → (List Int) → Int → Int → Option (Int)) (x3 : Int) (x7 : List Int) (x8 : Int) (x9 : Int) : Option (Int) := if x9 < x8 then (if 0 ≤ x9 then (if x9 < (x7.length : Int) then (r0 (wrap64 (x3 * (rd x7 x9))) x7 x8 (wrap64 (x9 + 1))) else (none)) else (none)) else (some x3)
def impl_Tasks_states.l0 (k : Nat) : Nat → Int → (List Int) → Int → Int → Option (Int)
  | 0, _, _, _, _ => none
  | n + 1, x0, x1, x2, x3 => impl_Tasks_states.s0 k (impl_Tasks_states.l0 k n) x0 x1 x2 x3
def impl_Tasks_states.g (k : Nat) (r0 : Int → (List Int) → Int → Int → Option (Int)) (l0_0 : List Int) : Option (Int) := r0 1 l0_0 (l0_0.length : Int) 0
def impl_Tasks_states.f (k : Nat) (l0_0 : List Int) : Option (Int) := impl_Tasks_states.g k (impl_Tasks_states.l0 k k) l0_0
def S81 (k : Nat) : Does := ⟨[(true, [.dat (.list (.int .i64))])], [(false, [.dat (.int .i64)])], fun x => impl_Tasks_states.f k x⟩
def E81 (k : Nat) : En := ⟨tb, orcOf [], lvOf [(0, [(3, []), (7, []), (8, []), (9, [])])], k, 0, lvOf [], []⟩
def n81_0 (x3 : Int) (x7 : List Int) (x8 : Int) (x9 : Int) : St := ⟨18, lookA [(3, .dat (.int .i64) x3), (7, .dat (.list (.int .i64)) x7), (8, .dat (.int .i64) x8), (9, .dat (.int .i64) x9)], Go.V.look []⟩
def p81_0 : List Bool := [true, true, false, true, false]
theorem r81_0 (k : Nat) (rec : St → Option (Int)) (v : Int × (List Int) × Int × Int) : roundF (E81 k) (S81 k) Try.f81 p81_0 [] rec (n81_0 v.1 v.2.1 v.2.2.1 v.2.2.2) = impl_Tasks_states.s0 k (fun a0 a1 a2 a3 => rec (n81_0 a0 a1 a2 a3)) v.1 v.2.1 v.2.2.1 v.2.2.2 := by
  kernel_rfl
theorem q81_0 (k : Nat) (n : Nat) : ∀ v : Int × (List Int) × Int × Int, loopF (E81 k) (S81 k) Try.f81 p81_0 [] n (n81_0 v.1 v.2.1 v.2.2.1 v.2.2.2) = impl_Tasks_states.l0 k n v.1 v.2.1 v.2.2.1 v.2.2.2 :=
  loopF_eq (E81 k) (S81 k) Try.f81 p81_0 [] (fun v : Int × (List Int) × Int × Int => n81_0 v.1 v.2.1 v.2.2.1 v.2.2.2) (fun rec v => impl_Tasks_states.s0 k (fun a0 a1 a2 a3 => rec (a0, a1, a2, a3)) v.1 v.2.1 v.2.2.1 v.2.2.2) (fun n v => impl_Tasks_states.l0 k n v.1 v.2.1 v.2.2.1 v.2.2.2) (fun _ => rfl) (fun _ _ => rfl) (fun rec v => r81_0 k rec v) n
theorem e81 (k : Nat) (x : dens (flatC (S81 k).ps)) : funK (E81 k) (S81 k) Try.f81 x = (S81 k).fn x := by
  have h : funK (E81 k) (S81 k) Try.f81 x = impl_Tasks_states.g k (fun a0 a1 a2 a3 => loopF (E81 k) (S81 k) Try.f81 p81_0 [] k (n81_0 a0 a1 a2 a3)) x := by kernel_rfl
  rw [h]
  rw [show (fun a0 a1 a2 a3 => loopF (E81 k) (S81 k) Try.f81 p81_0 [] k (n81_0 a0 a1 a2 a3)) = impl_Tasks_states.l0 k k from funext fun a0 => funext fun a1 => funext fun a2 => funext fun a3 => q81_0 k k (a0, a1, a2, a3)]
  rfl
theorem M81 (k : Nat) : Meets Try.prog 81 (S81 k) := meets_of Try.func81 (by kernel_rfl) tbOk orc_nil mixOk (fun x y h => (e81 k x).trans h) rfl

/-! impl_statesCode: function 54 -/
def impl_statesCode.f (k : Nat) (l0_0 : List Int) (a1 : Bool) : Option (Int) := (impl_tasksCode.f k l0_0 a1).bind fun t1 => if t1 = 0 then ((impl_Tasks_states.f k l0_0).bind fun t2 => if 4000 < t2 then (some 3) else (some 0)) else (some t1)
def S54 (k : Nat) : Does := ⟨[(true, [.dat (.list (.int .i64))]), (false, [.dat .bool])], [(false, [.dat (.int .i64)])], fun x => impl_statesCode.f k x.1 x.2⟩
def E54 (k : Nat) : En := ⟨tb, orcOf [(101, S101 k), (81, S81 k)], lvOf [], k, 0, lvOf [], []⟩
theorem e54 (k : Nat) (x : dens (flatC (S54 k).ps)) : funK (E54 k) (S54 k) Try.f54 x = (S54 k).fn x := by
  kernel_rfl
theorem M54 (k : Nat) : Meets Try.prog 54 (S54 k) := meets_of Try.func54 (by kernel_rfl) tbOk (orc_cons (M101 k) (orc_cons (M81 k) orc_nil)) mixOk (fun x y h => (e54 k x).trans h) rfl

/-! impl_Tasks_many: function 102 -/
def impl_Tasks_many.f (l0_0 : List Int) : Option (Int) := (impl_length_int64.f l0_0).bind fun t1 => some t1
def S102 (k : Nat) : Does := ⟨[(true, [.dat (.list (.int .i64))])], [(false, [.dat (.int .i64)])], fun x => impl_Tasks_many.f x⟩
def E102 (k : Nat) : En := ⟨tb, orcOf [(66, S66 k)], lvOf [], k, 0, lvOf [], []⟩
theorem e102 (k : Nat) (x : dens (flatC (S102 k).ps)) : funK (E102 k) (S102 k) Try.f102 x = (S102 k).fn x := by
  kernel_rfl
theorem M102 (k : Nat) : Meets Try.prog 102 (S102 k) := meets_of Try.func102 (by kernel_rfl) tbOk (orc_cons (M66 k) orc_nil) mixOk (fun x y h => (e102 k x).trans h) rfl

/-! impl_Tasks_numbered: function 86 -/
def impl_Tasks_numbered.s0 (k : Nat) (r0 : Int → (List Int) → (List Int) → Int → Option ((List Int))) (x1 : Int) (x2_0 : List Int) (x5 : List Int) (x6 : Int) : Option ((List Int)) := if 0 ≤ x6 then (if 0 ≤ x6 then (if x6 < (x2_0.length : Int) then (if (rd x2_0 x6) = 0 then (none) else (if 0 ≤ x6 then (if x6 < (x5.length : Int) then (if 0 ≤ x6 then (if x6 < (x2_0.length : Int) then (if (rd x2_0 x6) = 0 then (none) else (r0 (wrap64 (Int.tdiv x1 (rd x2_0 x6))) x2_0 (x5.set x6.toNat (wrap64 ((Int.tmod x1 (rd x2_0 x6)) + 1))) (wrap64 (x6 - 1)))) else (none)) else (none)) else (none)) else (none))) else (none)) else (none)) else (some x5)
def impl_Tasks_numbered.l0 (k : Nat) : Nat → Int → (List Int) → (List Int) → Int → Option ((List Int))
  | 0, _, _, _, _ => none
  | n + 1, x0, x1, x2, x3 => impl_Tasks_numbered.s0 k (impl_Tasks_numbered.l0 k n) x0 x1 x2 x3
def impl_Tasks_numbered.g (k : Nat) (r0 : Int → (List Int) → (List Int) → Int → Option ((List Int))) (l0_0 : List Int) (a1 : Int) : Option ((List Int)) := (impl_Tasks_many.f l0_0).bind fun t1 => if 0 ≤ t1 then (if t1 ≤ t1 then (if t1.toNat ≤ 1099511627776 then ((impl_Tasks_many.f l0_0).bind fun t2 => r0 a1 l0_0 (List.replicate t1.toNat (0 : Int)) (wrap64 (t2 - 1))) else (none)) else (none)) else (none)
def impl_Tasks_numbered.f (k : Nat) (l0_0 : List Int) (a1 : Int) : Option ((List Int)) := impl_Tasks_numbered.g k (impl_Tasks_numbered.l0 k k) l0_0 a1
def S86 (k : Nat) : Does := ⟨[(true, [.dat (.list (.int .i64))]), (false, [.dat (.int .i64)])], [(false, [.own 2 (.int .i64)])], fun x => impl_Tasks_numbered.f k x.1 x.2⟩
def E86 (k : Nat) : En := ⟨tb, orcOf [(102, S102 k)], lvOf [(0, [(1, []), (2, []), (5, []), (6, [])])], k, 0, lvOf [], []⟩
def n86_0 (x1 : Int) (x2_0 : List Int) (x5 : List Int) (x6 : Int) : St := ⟨36, lookA [(1, .dat (.int .i64) x1), (2, .box 0 0), (5, .own 1), (6, .dat (.int .i64) x6)], Go.V.look [(0, .cells [.dat (.list (.int .i64)) x2_0]), (1, .flat 2 (.int .i64) x5)]⟩
def p86_0 : List Bool := [true, true, false, true, false]
theorem r86_0 (k : Nat) (rec : St → Option ((List Int))) (v : Int × (List Int) × (List Int) × Int) : roundF (E86 k) (S86 k) Try.f86 p86_0 [] rec (n86_0 v.1 v.2.1 v.2.2.1 v.2.2.2) = impl_Tasks_numbered.s0 k (fun a0 a1 a2 a3 => rec (n86_0 a0 a1 a2 a3)) v.1 v.2.1 v.2.2.1 v.2.2.2 := by
  kernel_rfl
theorem q86_0 (k : Nat) (n : Nat) : ∀ v : Int × (List Int) × (List Int) × Int, loopF (E86 k) (S86 k) Try.f86 p86_0 [] n (n86_0 v.1 v.2.1 v.2.2.1 v.2.2.2) = impl_Tasks_numbered.l0 k n v.1 v.2.1 v.2.2.1 v.2.2.2 :=
  loopF_eq (E86 k) (S86 k) Try.f86 p86_0 [] (fun v : Int × (List Int) × (List Int) × Int => n86_0 v.1 v.2.1 v.2.2.1 v.2.2.2) (fun rec v => impl_Tasks_numbered.s0 k (fun a0 a1 a2 a3 => rec (a0, a1, a2, a3)) v.1 v.2.1 v.2.2.1 v.2.2.2) (fun n v => impl_Tasks_numbered.l0 k n v.1 v.2.1 v.2.2.1 v.2.2.2) (fun _ => rfl) (fun _ _ => rfl) (fun rec v => r86_0 k rec v) n
theorem e86 (k : Nat) (x : dens (flatC (S86 k).ps)) : funK (E86 k) (S86 k) Try.f86 x = (S86 k).fn x := by
  have h : funK (E86 k) (S86 k) Try.f86 x = impl_Tasks_numbered.g k (fun a0 a1 a2 a3 => loopF (E86 k) (S86 k) Try.f86 p86_0 [] k (n86_0 a0 a1 a2 a3)) x.1 x.2 := by kernel_rfl
  rw [h]
  rw [show (fun a0 a1 a2 a3 => loopF (E86 k) (S86 k) Try.f86 p86_0 [] k (n86_0 a0 a1 a2 a3)) = impl_Tasks_numbered.l0 k k from funext fun a0 => funext fun a1 => funext fun a2 => funext fun a3 => q86_0 k k (a0, a1, a2, a3)]
  rfl
theorem M86 (k : Nat) : Meets Try.prog 86 (S86 k) := meets_of Try.func86 (by kernel_rfl) tbOk (orc_cons (M102 k) orc_nil) mixOk (fun x y h => (e86 k x).trans h) rfl

/-! slices_Clone_int64_int64: function 71 -/
def slices_Clone_int64_int64.f (l : List Int) : Option (List Int) := if l.length = 0 then some [] else if 0 + l.length ≤ 1099511627776 then some ([] ++ l) else none
def S71 (k : Nat) : Does := ⟨[(false, [.dat (.list (.int .i64))])], [(false, [.own 2 (.int .i64)])], fun x => slices_Clone_int64_int64.f x⟩
def E71 : En := ⟨tb, orcOf [], lvOf [], 0, 0, lvOf [], []⟩
theorem slices_Clone_int64_int64.e (l : List Int) (h : l.length ≠ 0) : slices_Clone_int64_int64.f l = (if l.length = 0 then none else if 0 + l.length ≤ 1099511627776 then some ([] ++ l) else none) := by
  unfold slices_Clone_int64_int64.f; rw [if_neg h, if_neg h]
theorem M71 (k : Nat) : Meets Try.prog 71 (S71 k) := by
  refine meets_nil (E := E71) (t := (.int .i64)) (rs := [(false, [.own 2 (.int .i64)])]) (F := slices_Clone_int64_int64.f) Try.func71 (by kernel_rfl) tbOk orc_nil mixOk rfl rfl rfl (fun l hl => ?_) (by kernel_rfl) (by kernel_rfl)
  refine Eq.trans ?_ (slices_Clone_int64_int64.e l hl).symm
  kernel_rfl

/-! impl_Tasks_step: function 103 -/
def impl_Tasks_step.s0 (k : Nat) (r0 : Int → (List Int) → (List Int) → Int → Int → Option ((List Int) × Bool)) (x2 : Int) (x3_0 : List Int) (x8 : List Int) (x13 : Int) (x14 : Int) : Option ((List Int) × Bool) := if x14 < x13 then (if (decide (x14 = x2)) = true then (if 0 ≤ x14 then (if x14 < (x3_0.length : Int) then (if 0 ≤ x14 then (if x14 < (x8.length : Int) then (r0 x2 x3_0 (x8.set x14.toNat (rd x3_0 x14)) x13 (wrap64 (x14 + 1))) else (none)) else (none)) else (none)) else (none)) else (if 0 ≤ x14 then (if x14 < (x8.length : Int) then (if (decide ((rd x8 x14) < 2)) = true then (some ([], false)) else (if 0 ≤ x14 then (if x14 < (x8.length : Int) then (if 0 ≤ x14 then (if x14 < (x8.length : Int) then (r0 x2 x3_0 (x8.set x14.toNat (wrap64 ((rd x8 x14) - 1))) x13 (wrap64 (x14 + 1))) else (none)) else (none)) else (none)) else (none))) else (none)) else (none))) else (some (x8, true))
def impl_Tasks_step.l0 (k : Nat) : Nat → Int → (List Int) → (List Int) → Int → Int → Option ((List Int) × Bool)
  | 0, _, _, _, _, _ => none
  | n + 1, x0, x1, x2, x3, x4 => impl_Tasks_step.s0 k (impl_Tasks_step.l0 k n) x0 x1 x2 x3 x4
def impl_Tasks_step.g (k : Nat) (r0 : Int → (List Int) → (List Int) → Int → Int → Option ((List Int) × Bool)) (l0_0 : List Int) (l1 : List Int) (a2 : Int) : Option ((List Int) × Bool) := (slices_Clone_int64_int64.f l1).bind fun t1 => r0 a2 l0_0 t1 (t1.length : Int) 0
def impl_Tasks_step.f (k : Nat) (l0_0 : List Int) (l1 : List Int) (a2 : Int) : Option ((List Int) × Bool) := impl_Tasks_step.g k (impl_Tasks_step.l0 k k) l0_0 l1 a2
def S103 (k : Nat) : Does := ⟨[(true, [.dat (.list (.int .i64))]), (false, [.dat (.list (.int .i64))]), (false, [.dat (.int .i64)])], [(false, [.own 2 (.int .i64)]), (false, [.dat .bool])], fun x => impl_Tasks_step.f k x.1 x.2.1 x.2.2⟩
def E103 (k : Nat) : En := ⟨tb, orcOf [(71, S71 k)], lvOf [(0, [(2, []), (3, []), (8, []), (13, []), (14, [])])], k, 0, lvOf [], []⟩
def n103_0 (x2 : Int) (x3_0 : List Int) (x8 : List Int) (x13 : Int) (x14 : Int) : St := ⟨43, lookA [(2, .dat (.int .i64) x2), (3, .box 0 0), (8, .own 1), (13, .dat (.int .i64) x13), (14, .dat (.int .i64) x14)], Go.V.look [(0, .cells [.dat (.list (.int .i64)) x3_0]), (1, .flat 2 (.int .i64) x8)]⟩
def p103_0 : List Bool := [true, true, false, true, false]
theorem r103_0 (k : Nat) (rec : St → Option ((List Int) × Bool)) (v : Int × (List Int) × (List Int) × Int × Int) : roundF (E103 k) (S103 k) Try.f103 p103_0 [] rec (n103_0 v.1 v.2.1 v.2.2.1 v.2.2.2.1 v.2.2.2.2) = impl_Tasks_step.s0 k (fun a0 a1 a2 a3 a4 => rec (n103_0 a0 a1 a2 a3 a4)) v.1 v.2.1 v.2.2.1 v.2.2.2.1 v.2.2.2.2 := by
  kernel_rfl
theorem q103_0 (k : Nat) (n : Nat) : ∀ v : Int × (List Int) × (List Int) × Int × Int, loopF (E103 k) (S103 k) Try.f103 p103_0 [] n (n103_0 v.1 v.2.1 v.2.2.1 v.2.2.2.1 v.2.2.2.2) = impl_Tasks_step.l0 k n v.1 v.2.1 v.2.2.1 v.2.2.2.1 v.2.2.2.2 :=
  loopF_eq (E103 k) (S103 k) Try.f103 p103_0 [] (fun v : Int × (List Int) × (List Int) × Int × Int => n103_0 v.1 v.2.1 v.2.2.1 v.2.2.2.1 v.2.2.2.2) (fun rec v => impl_Tasks_step.s0 k (fun a0 a1 a2 a3 a4 => rec (a0, a1, a2, a3, a4)) v.1 v.2.1 v.2.2.1 v.2.2.2.1 v.2.2.2.2) (fun n v => impl_Tasks_step.l0 k n v.1 v.2.1 v.2.2.1 v.2.2.2.1 v.2.2.2.2) (fun _ => rfl) (fun _ _ => rfl) (fun rec v => r103_0 k rec v) n
theorem e103 (k : Nat) (x : dens (flatC (S103 k).ps)) : funK (E103 k) (S103 k) Try.f103 x = (S103 k).fn x := by
  have h : funK (E103 k) (S103 k) Try.f103 x = impl_Tasks_step.g k (fun a0 a1 a2 a3 a4 => loopF (E103 k) (S103 k) Try.f103 p103_0 [] k (n103_0 a0 a1 a2 a3 a4)) x.1 x.2.1 x.2.2 := by kernel_rfl
  rw [h]
  rw [show (fun a0 a1 a2 a3 a4 => loopF (E103 k) (S103 k) Try.f103 p103_0 [] k (n103_0 a0 a1 a2 a3 a4)) = impl_Tasks_step.l0 k k from funext fun a0 => funext fun a1 => funext fun a2 => funext fun a3 => funext fun a4 => q103_0 k k (a0, a1, a2, a3, a4)]
  rfl
theorem M103 (k : Nat) : Meets Try.prog 103 (S103 k) := meets_of Try.func103 (by kernel_rfl) tbOk (orc_cons (M71 k) orc_nil) mixOk (fun x y h => (e103 k x).trans h) rfl

/-! impl_Tasks_number: function 60 -/
def impl_Tasks_number.s0 (k : Nat) (r0 : (List Int) → Int → (List Int) → Int → Int → Option (Int)) (x2_0 : List Int) (x5 : Int) (x8 : List Int) (x9 : Int) (x10 : Int) : Option (Int) := if x10 < x9 then (if 0 ≤ x10 then (if x10 < (x8.length : Int) then (if 0 ≤ x10 then (if x10 < (x2_0.length : Int) then (r0 x2_0 (wrap64 ((wrap64 ((wrap64 (x5 * (rd x2_0 x10))) + (rd x8 x10))) - 1)) x8 x9 (wrap64 (x10 + 1))) else (none)) else (none)) else (none)) else (none)) else (some x5)
def impl_Tasks_number.l0 (k : Nat) : Nat → (List Int) → Int → (List Int) → Int → Int → Option (Int)
  | 0, _, _, _, _, _ => none
  | n + 1, x0, x1, x2, x3, x4 => impl_Tasks_number.s0 k (impl_Tasks_number.l0 k n) x0 x1 x2 x3 x4
def impl_Tasks_number.g (k : Nat) (r0 : (List Int) → Int → (List Int) → Int → Int → Option (Int)) (l0_0 : List Int) (l1 : List Int) : Option (Int) := r0 l0_0 0 l1 (l1.length : Int) 0
def impl_Tasks_number.f (k : Nat) (l0_0 : List Int) (l1 : List Int) : Option (Int) := impl_Tasks_number.g k (impl_Tasks_number.l0 k k) l0_0 l1
def S60 (k : Nat) : Does := ⟨[(true, [.dat (.list (.int .i64))]), (false, [.dat (.list (.int .i64))])], [(false, [.dat (.int .i64)])], fun x => impl_Tasks_number.f k x.1 x.2⟩
def E60 (k : Nat) : En := ⟨tb, orcOf [], lvOf [(0, [(2, []), (5, []), (8, []), (9, []), (10, [])])], k, 0, lvOf [], []⟩
def n60_0 (x2_0 : List Int) (x5 : Int) (x8 : List Int) (x9 : Int) (x10 : Int) : St := ⟨27, lookA [(2, .box 0 0), (5, .dat (.int .i64) x5), (8, .dat (.list (.int .i64)) x8), (9, .dat (.int .i64) x9), (10, .dat (.int .i64) x10)], Go.V.look [(0, .cells [.dat (.list (.int .i64)) x2_0])]⟩
def p60_0 : List Bool := [true, true, false, true, false]
theorem r60_0 (k : Nat) (rec : St → Option (Int)) (v : (List Int) × Int × (List Int) × Int × Int) : roundF (E60 k) (S60 k) Try.f60 p60_0 [] rec (n60_0 v.1 v.2.1 v.2.2.1 v.2.2.2.1 v.2.2.2.2) = impl_Tasks_number.s0 k (fun a0 a1 a2 a3 a4 => rec (n60_0 a0 a1 a2 a3 a4)) v.1 v.2.1 v.2.2.1 v.2.2.2.1 v.2.2.2.2 := by
  kernel_rfl
theorem q60_0 (k : Nat) (n : Nat) : ∀ v : (List Int) × Int × (List Int) × Int × Int, loopF (E60 k) (S60 k) Try.f60 p60_0 [] n (n60_0 v.1 v.2.1 v.2.2.1 v.2.2.2.1 v.2.2.2.2) = impl_Tasks_number.l0 k n v.1 v.2.1 v.2.2.1 v.2.2.2.1 v.2.2.2.2 :=
  loopF_eq (E60 k) (S60 k) Try.f60 p60_0 [] (fun v : (List Int) × Int × (List Int) × Int × Int => n60_0 v.1 v.2.1 v.2.2.1 v.2.2.2.1 v.2.2.2.2) (fun rec v => impl_Tasks_number.s0 k (fun a0 a1 a2 a3 a4 => rec (a0, a1, a2, a3, a4)) v.1 v.2.1 v.2.2.1 v.2.2.2.1 v.2.2.2.2) (fun n v => impl_Tasks_number.l0 k n v.1 v.2.1 v.2.2.1 v.2.2.2.1 v.2.2.2.2) (fun _ => rfl) (fun _ _ => rfl) (fun rec v => r60_0 k rec v) n
theorem e60 (k : Nat) (x : dens (flatC (S60 k).ps)) : funK (E60 k) (S60 k) Try.f60 x = (S60 k).fn x := by
  have h : funK (E60 k) (S60 k) Try.f60 x = impl_Tasks_number.g k (fun a0 a1 a2 a3 a4 => loopF (E60 k) (S60 k) Try.f60 p60_0 [] k (n60_0 a0 a1 a2 a3 a4)) x.1 x.2 := by kernel_rfl
  rw [h]
  rw [show (fun a0 a1 a2 a3 a4 => loopF (E60 k) (S60 k) Try.f60 p60_0 [] k (n60_0 a0 a1 a2 a3 a4)) = impl_Tasks_number.l0 k k from funext fun a0 => funext fun a1 => funext fun a2 => funext fun a3 => funext fun a4 => q60_0 k k (a0, a1, a2, a3, a4)]
  rfl
theorem M60 (k : Nat) : Meets Try.prog 60 (S60 k) := meets_of Try.func60 (by kernel_rfl) tbOk orc_nil mixOk (fun x y h => (e60 k x).trans h) rfl

/-! impl_graph_keeping: function 72 -/
def impl_graph_keeping.s0 (k : Nat) (r0 : ((List Int) × (List (List (Int × Int))) × (List Bool)) → Int → (List Int) → Int → Option ((List Int))) (x0 : (List Int) × (List (List (Int × Int))) × (List Bool)) (x1 : Int) (x5 : List Int) (x6 : Int) : Option ((List Int)) := (impl_Tasks_many.f x0.1).bind fun t1 => if x6 < t1 then (if 0 ≤ x1 then (if x1 < (x0.2.1.length : Int) then (if (mgI (rdOf ([] : List (Int × Int)) x0.2.1 x1) x6).isSome = true then (if 0 ≤ ((mgI (rdOf ([] : List (Int × Int)) x0.2.1 x1) x6).getD 0) then (if ((mgI (rdOf ([] : List (Int × Int)) x0.2.1 x1) x6).getD 0) < (x0.2.2.length : Int) then (if (rdOf false x0.2.2 ((mgI (rdOf ([] : List (Int × Int)) x0.2.1 x1) x6).getD 0)) = true then (if x5.length + 1 ≤ 1099511627776 then (r0 x0 x1 (x5 ++ [x6]) (wrap64 (x6 + 1))) else (none)) else (r0 x0 x1 x5 (wrap64 (x6 + 1)))) else (none)) else (none)) else (r0 x0 x1 x5 (wrap64 (x6 + 1)))) else (none)) else (none)) else (some x5)
def impl_graph_keeping.l0 (k : Nat) : Nat → ((List Int) × (List (List (Int × Int))) × (List Bool)) → Int → (List Int) → Int → Option ((List Int))
  | 0, _, _, _, _ => none
  | n + 1, x0, x1, x2, x3 => impl_graph_keeping.s0 k (impl_graph_keeping.l0 k n) x0 x1 x2 x3
def impl_graph_keeping.g (k : Nat) (r0 : ((List Int) × (List (List (Int × Int))) × (List Bool)) → Int → (List Int) → Int → Option ((List Int))) (a0 : (List Int) × (List (List (Int × Int))) × (List Bool)) (a1 : Int) : Option ((List Int)) := r0 a0 a1 [] (-1)
def impl_graph_keeping.f (k : Nat) (a0 : (List Int) × (List (List (Int × Int))) × (List Bool)) (a1 : Int) : Option ((List Int)) := impl_graph_keeping.g k (impl_graph_keeping.l0 k k) a0 a1
def S72 (k : Nat) : Does := ⟨[(false, [.dat (.ptr (.struct (.pair (.struct (.list (.int .i64))) (.pair (.list (.map (.int .i64) (.int .i64))) (.list .bool)))))]), (false, [.dat (.int .i64)])], [(false, [.own 2 (.int .i64)])], fun x => impl_graph_keeping.f k x.1 x.2⟩
def E72 (k : Nat) : En := ⟨tb, orcOf [(102, S102 k)], lvOf [(0, [(0, []), (1, []), (5, [.nil 2 (.int .i64)]), (6, [])])], k, 0, lvOf [], []⟩
def n72_0 (x0 : (List Int) × (List (List (Int × Int))) × (List Bool)) (x1 : Int) (x5 : List Int) (x6 : Int) : St := ⟨45, lookA [(0, .dp (.struct (.pair (.struct (.list (.int .i64))) (.pair (.list (.map (.int .i64) (.int .i64))) (.list .bool)))) x0), (1, .dat (.int .i64) x1), (5, .own 0), (6, .dat (.int .i64) x6)], Go.V.look [(0, .flat 2 (.int .i64) x5)]⟩
def p72_0 : List Bool := [true, true, false, true, false]
theorem r72_0 (k : Nat) (rec : St → Option ((List Int))) (v : ((List Int) × (List (List (Int × Int))) × (List Bool)) × Int × (List Int) × Int) : roundF (E72 k) (S72 k) Try.f72 p72_0 [] rec (n72_0 v.1 v.2.1 v.2.2.1 v.2.2.2) = impl_graph_keeping.s0 k (fun a0 a1 a2 a3 => rec (n72_0 a0 a1 a2 a3)) v.1 v.2.1 v.2.2.1 v.2.2.2 := by
  kernel_rfl
theorem q72_0 (k : Nat) (n : Nat) : ∀ v : ((List Int) × (List (List (Int × Int))) × (List Bool)) × Int × (List Int) × Int, loopF (E72 k) (S72 k) Try.f72 p72_0 [] n (n72_0 v.1 v.2.1 v.2.2.1 v.2.2.2) = impl_graph_keeping.l0 k n v.1 v.2.1 v.2.2.1 v.2.2.2 :=
  loopF_eq (E72 k) (S72 k) Try.f72 p72_0 [] (fun v : ((List Int) × (List (List (Int × Int))) × (List Bool)) × Int × (List Int) × Int => n72_0 v.1 v.2.1 v.2.2.1 v.2.2.2) (fun rec v => impl_graph_keeping.s0 k (fun a0 a1 a2 a3 => rec (a0, a1, a2, a3)) v.1 v.2.1 v.2.2.1 v.2.2.2) (fun n v => impl_graph_keeping.l0 k n v.1 v.2.1 v.2.2.1 v.2.2.2) (fun _ => rfl) (fun _ _ => rfl) (fun rec v => r72_0 k rec v) n
theorem e72 (k : Nat) (x : dens (flatC (S72 k).ps)) : funK (E72 k) (S72 k) Try.f72 x = (S72 k).fn x := by
  have h : funK (E72 k) (S72 k) Try.f72 x = impl_graph_keeping.g k (fun a0 a1 a2 a3 => loopF (E72 k) (S72 k) Try.f72 p72_0 [] k (n72_0 a0 a1 a2 a3)) x.1 x.2 := by kernel_rfl
  rw [h]
  rw [show (fun a0 a1 a2 a3 => loopF (E72 k) (S72 k) Try.f72 p72_0 [] k (n72_0 a0 a1 a2 a3)) = impl_graph_keeping.l0 k k from funext fun a0 => funext fun a1 => funext fun a2 => funext fun a3 => q72_0 k k (a0, a1, a2, a3)]
  rfl
theorem M72 (k : Nat) : Meets Try.prog 72 (S72 k) := meets_of Try.func72 (by kernel_rfl) tbOk (orc_cons (M102 k) orc_nil) mixOk (fun x y h => (e72 k x).trans h) rfl

/-! impl_graphOf: function 55 -/
def impl_graphOf.s3 (k : Nat) (r2 : (List Int) → (List (List (Int × Int))) → (List Bool) → Bool → Option (((List Int) × (List (List (Int × Int))) × (List Bool)))) (r3 : (List Int) → (List (List (Int × Int))) → (List Bool) → Bool → Int → Int → Option (((List Int) × (List (List (Int × Int))) × (List Bool)))) (x3_0 : List Int) (x3_1 : List (List (Int × Int))) (x3_2 : List Bool) (x9 : Bool) (x67 : Int) (x68 : Int) : Option (((List Int) × (List (List (Int × Int))) × (List Bool))) := if x68 < x67 then (if 0 ≤ x68 then (if x68 < (x3_2.length : Int) then (if (rdOf false x3_2 x68) = true then ((impl_graph_keeping.f k (x3_0, x3_1, x3_2) x68).bind fun t6 => if (t6.length : Int) = 0 then (if 0 ≤ x68 then (if x68 < (x3_2.length : Int) then (r3 x3_0 x3_1 (x3_2.set x68.toNat false) true x67 (wrap64 (x68 + 1))) else (none)) else (none)) else (r3 x3_0 x3_1 x3_2 x9 x67 (wrap64 (x68 + 1)))) else (r3 x3_0 x3_1 x3_2 x9 x67 (wrap64 (x68 + 1)))) else (none)) else (none)) else (r2 x3_0 x3_1 x3_2 x9)
def impl_graphOf.l3 (k : Nat) (r2 : (List Int) → (List (List (Int × Int))) → (List Bool) → Bool → Option (((List Int) × (List (List (Int × Int))) × (List Bool)))) : Nat → (List Int) → (List (List (Int × Int))) → (List Bool) → Bool → Int → Int → Option (((List Int) × (List (List (Int × Int))) × (List Bool)))
  | 0, _, _, _, _, _, _ => none
  | n + 1, x0, x1, x2, x3, x4, x5 => impl_graphOf.s3 k r2 (impl_graphOf.l3 k r2 n) x0 x1 x2 x3 x4 x5
def impl_graphOf.s2 (k : Nat) (r2 : (List Int) → (List (List (Int × Int))) → (List Bool) → Bool → Option (((List Int) × (List (List (Int × Int))) × (List Bool)))) (r3 : (List Int) → (List (List (Int × Int))) → (List Bool) → Bool → Int → Int → Option (((List Int) × (List (List (Int × Int))) × (List Bool)))) (x3_0 : List Int) (x3_1 : List (List (Int × Int))) (x3_2 : List Bool) (x9 : Bool) : Option (((List Int) × (List (List (Int × Int))) × (List Bool))) := if x9 = true then (r3 x3_0 x3_1 x3_2 false (x3_2.length : Int) 0) else (some (x3_0, x3_1, x3_2))
def impl_graphOf.l2 (k : Nat) : Nat → (List Int) → (List (List (Int × Int))) → (List Bool) → Bool → Option (((List Int) × (List (List (Int × Int))) × (List Bool)))
  | 0, _, _, _, _ => none
  | n + 1, x0, x1, x2, x3 => impl_graphOf.s2 k (impl_graphOf.l2 k n) (impl_graphOf.l3 k (impl_graphOf.l2 k n) k) x0 x1 x2 x3
def impl_graphOf.s1 (k : Nat) (r0 : (List Int) → (List Int) → (List (List (Int × Int))) → (List Bool) → Int → Int → Option (((List Int) × (List (List (Int × Int))) × (List Bool)))) (r1 : (List Int) → (List Int) → (List (List (Int × Int))) → (List Bool) → Int → (List (Int × Int)) → Int → Int → Int → Option (((List Int) × (List (List (Int × Int))) × (List Bool)))) (x1_0 : List Int) (x3_0 : List Int) (x3_1 : List (List (Int × Int))) (x3_2 : List Bool) (x4 : Int) (x5 : List (Int × Int)) (x6 : Int) (x16 : Int) (x17 : Int) : Option (((List Int) × (List (List (Int × Int))) × (List Bool))) := (impl_Tasks_many.f x1_0).bind fun t2 => if x6 < t2 then ((impl_Tasks_numbered.f k x1_0 x4).bind fun t3 => (impl_Tasks_step.f k x1_0 t3 x6).bind fun t4 => if t4.2 = true then ((impl_Tasks_number.f k x1_0 t4.1).bind fun t5 => r1 x1_0 x3_0 x3_1 x3_2 x4 (mpI x5 x6 t5) (wrap64 (x6 + 1)) x16 x17) else (r1 x1_0 x3_0 x3_1 x3_2 x4 x5 (wrap64 (x6 + 1)) x16 x17)) else (if x3_1.length + 1 ≤ 1099511627776 then (if x3_2.length + 1 ≤ 1099511627776 then (r0 x1_0 x3_0 (x3_1 ++ [x5]) (x3_2 ++ [true]) x16 (wrap64 (x17 + 1))) else (none)) else (none))
def impl_graphOf.l1 (k : Nat) (r0 : (List Int) → (List Int) → (List (List (Int × Int))) → (List Bool) → Int → Int → Option (((List Int) × (List (List (Int × Int))) × (List Bool)))) : Nat → (List Int) → (List Int) → (List (List (Int × Int))) → (List Bool) → Int → (List (Int × Int)) → Int → Int → Int → Option (((List Int) × (List (List (Int × Int))) × (List Bool)))
  | 0, _, _, _, _, _, _, _, _, _ => none
  | n + 1, x0, x1, x2, x3, x4, x5, x6, x7, x8 => impl_graphOf.s1 k r0 (impl_graphOf.l1 k r0 n) x0 x1 x2 x3 x4 x5 x6 x7 x8
def impl_graphOf.s0 (k : Nat) (r0 : (List Int) → (List Int) → (List (List (Int × Int))) → (List Bool) → Int → Int → Option (((List Int) × (List (List (Int × Int))) × (List Bool)))) (r1 : (List Int) → (List Int) → (List (List (Int × Int))) → (List Bool) → Int → (List (Int × Int)) → Int → Int → Int → Option (((List Int) × (List (List (Int × Int))) × (List Bool)))) (r2 : (List Int) → (List (List (Int × Int))) → (List Bool) → Bool → Option (((List Int) × (List (List (Int × Int))) × (List Bool)))) (x1_0 : List Int) (x3_0 : List Int) (x3_1 : List (List (Int × Int))) (x3_2 : List Bool) (x16 : Int) (x17 : Int) : Option (((List Int) × (List (List (Int × Int))) × (List Bool))) := if x17 < x16 then (r1 x1_0 x3_0 x3_1 x3_2 x17 [] (-1) x16 x17) else (r2 x3_0 x3_1 x3_2 true)
def impl_graphOf.l0 (k : Nat) : Nat → (List Int) → (List Int) → (List (List (Int × Int))) → (List Bool) → Int → Int → Option (((List Int) × (List (List (Int × Int))) × (List Bool)))
  | 0, _, _, _, _, _, _ => none
  | n + 1, x0, x1, x2, x3, x4, x5 => impl_graphOf.s0 k (impl_graphOf.l0 k n) (impl_graphOf.l1 k (impl_graphOf.l0 k n) k) (impl_graphOf.l2 k k) x0 x1 x2 x3 x4 x5
def impl_graphOf.g (k : Nat) (r0 : (List Int) → (List Int) → (List (List (Int × Int))) → (List Bool) → Int → Int → Option (((List Int) × (List (List (Int × Int))) × (List Bool)))) (l0_0 : List Int) : Option (((List Int) × (List (List (Int × Int))) × (List Bool))) := (impl_Tasks_states.f k l0_0).bind fun t1 => r0 l0_0 l0_0 [] [] t1 0
def impl_graphOf.f (k : Nat) (l0_0 : List Int) : Option (((List Int) × (List (List (Int × Int))) × (List Bool))) := impl_graphOf.g k (impl_graphOf.l0 k k) l0_0
def S55 (k : Nat) : Does := ⟨[(true, [.dat (.list (.int .i64))])], [(false, [.dat (.ptr (.struct (.pair (.struct (.list (.int .i64))) (.pair (.list (.map (.int .i64) (.int .i64))) (.list .bool)))))])], fun x => impl_graphOf.f k x⟩
def E55 (k : Nat) : En := ⟨tb, orcOf [(81, S81 k), (102, S102 k), (86, S86 k), (103, S103 k), (60, S60 k), (72, S72 k)], lvOf [(0, [(1, []), (3, [.cell 1 83 (.map (.int .i64) (.int .i64)), .cell 2 4 .bool]), (16, []), (17, [])]), (2, [(1, []), (3, []), (4, []), (5, []), (6, []), (16, []), (17, [])]), (4, [(3, []), (9, [])]), (6, [(3, []), (9, []), (66, []), (67, []), (68, [])])], k, 0, lvOf [], []⟩
def n55_0 (x1_0 : List Int) (x3_0 : List Int) (x3_1 : List (List (Int × Int))) (x3_2 : List Bool) (x16 : Int) (x17 : Int) : St := ⟨89, lookA [(1, .box 0 0), (3, .box 1 0), (16, .dat (.int .i64) x16), (17, .dat (.int .i64) x17)], Go.V.look [(0, .cells [.dat (.list (.int .i64)) x1_0]), (1, .cells [.dat (.list (.int .i64)) x3_0, .own 2, .own 3]), (2, .flat 83 (.map (.int .i64) (.int .i64)) x3_1), (3, .flat 4 .bool x3_2)]⟩
def p55_0 : List Bool := [true, true, false, true, false]
def n55_1 (x1_0 : List Int) (x3_0 : List Int) (x3_1 : List (List (Int × Int))) (x3_2 : List Bool) (x4 : Int) (x5 : List (Int × Int)) (x6 : Int) (x16 : Int) (x17 : Int) : St := ⟨89, lookA [(1, .box 0 0), (3, .box 1 0), (4, .dat (.int .i64) x4), (5, .om 2), (6, .dat (.int .i64) x6), (16, .dat (.int .i64) x16), (17, .dat (.int .i64) x17)], Go.V.look [(0, .cells [.dat (.list (.int .i64)) x1_0]), (1, .cells [.dat (.list (.int .i64)) x3_0, .own 3, .own 4]), (2, .mp (.int .i64) (.int .i64) x5), (3, .flat 83 (.map (.int .i64) (.int .i64)) x3_1), (4, .flat 4 .bool x3_2)]⟩
def p55_1 : List Bool := [true, true, false, true, false, false, true, true, false, false, true, true, false, true, false]
def n55_2 (x3_0 : List Int) (x3_1 : List (List (Int × Int))) (x3_2 : List Bool) (x9 : Bool) : St := ⟨89, lookA [(3, .box 0 0), (9, .dat .bool x9)], Go.V.look [(0, .cells [.dat (.list (.int .i64)) x3_0, .own 1, .own 2]), (1, .flat 83 (.map (.int .i64) (.int .i64)) x3_1), (2, .flat 4 .bool x3_2)]⟩
def p55_2 : List Bool := [true, true, true, false, true, false]
def n55_3 (x3_0 : List Int) (x3_1 : List (List (Int × Int))) (x3_2 : List Bool) (x9 : Bool) (x67 : Int) (x68 : Int) : St := ⟨89, lookA [(3, .box 0 0), (9, .dat .bool x9), (66, .own 1), (67, .dat (.int .i64) x67), (68, .dat (.int .i64) x68)], Go.V.look [(0, .cells [.dat (.list (.int .i64)) x3_0, .own 2, .own 1]), (1, .flat 4 .bool x3_2), (2, .flat 83 (.map (.int .i64) (.int .i64)) x3_1)]⟩
def p55_3 : List Bool := [true, true, true, false, true, false, false, true, false, true, true, false]
theorem r55_3 (k : Nat) (R2 : St → Option (((List Int) × (List (List (Int × Int))) × (List Bool)))) (rec : St → Option (((List Int) × (List (List (Int × Int))) × (List Bool)))) (v : (List Int) × (List (List (Int × Int))) × (List Bool) × Bool × Int × Int) : roundF (E55 k) (S55 k) Try.f55 p55_3 [R2] rec (n55_3 v.1 v.2.1 v.2.2.1 v.2.2.2.1 v.2.2.2.2.1 v.2.2.2.2.2) = impl_graphOf.s3 k (fun a0 a1 a2 a3 => R2 (n55_2 a0 a1 a2 a3)) (fun a0 a1 a2 a3 a4 a5 => rec (n55_3 a0 a1 a2 a3 a4 a5)) v.1 v.2.1 v.2.2.1 v.2.2.2.1 v.2.2.2.2.1 v.2.2.2.2.2 := by
  kernel_rfl
theorem q55_3 (k : Nat) (R2 : St → Option (((List Int) × (List (List (Int × Int))) × (List Bool)))) (n : Nat) : ∀ v : (List Int) × (List (List (Int × Int))) × (List Bool) × Bool × Int × Int, loopF (E55 k) (S55 k) Try.f55 p55_3 [R2] n (n55_3 v.1 v.2.1 v.2.2.1 v.2.2.2.1 v.2.2.2.2.1 v.2.2.2.2.2) = impl_graphOf.l3 k (fun a0 a1 a2 a3 => R2 (n55_2 a0 a1 a2 a3)) n v.1 v.2.1 v.2.2.1 v.2.2.2.1 v.2.2.2.2.1 v.2.2.2.2.2 :=
  loopF_eq (E55 k) (S55 k) Try.f55 p55_3 [R2] (fun v : (List Int) × (List (List (Int × Int))) × (List Bool) × Bool × Int × Int => n55_3 v.1 v.2.1 v.2.2.1 v.2.2.2.1 v.2.2.2.2.1 v.2.2.2.2.2) (fun rec v => impl_graphOf.s3 k (fun a0 a1 a2 a3 => R2 (n55_2 a0 a1 a2 a3)) (fun a0 a1 a2 a3 a4 a5 => rec (a0, a1, a2, a3, a4, a5)) v.1 v.2.1 v.2.2.1 v.2.2.2.1 v.2.2.2.2.1 v.2.2.2.2.2) (fun n v => impl_graphOf.l3 k (fun a0 a1 a2 a3 => R2 (n55_2 a0 a1 a2 a3)) n v.1 v.2.1 v.2.2.1 v.2.2.2.1 v.2.2.2.2.1 v.2.2.2.2.2) (fun _ => rfl) (fun _ _ => rfl) (fun rec v => r55_3 k R2 rec v) n
theorem r55_2 (k : Nat) (rec : St → Option (((List Int) × (List (List (Int × Int))) × (List Bool)))) (G3 : (List Int) → (List (List (Int × Int))) → (List Bool) → Bool → Int → Int → Option (((List Int) × (List (List (Int × Int))) × (List Bool)))) (h3 : ∀ a0 a1 a2 a3 a4 a5, loopF (E55 k) (S55 k) Try.f55 p55_3 [rec] k (n55_3 a0 a1 a2 a3 a4 a5) = G3 a0 a1 a2 a3 a4 a5) (v : (List Int) × (List (List (Int × Int))) × (List Bool) × Bool) : roundF (E55 k) (S55 k) Try.f55 p55_2 [] rec (n55_2 v.1 v.2.1 v.2.2.1 v.2.2.2) = impl_graphOf.s2 k (fun a0 a1 a2 a3 => rec (n55_2 a0 a1 a2 a3)) G3 v.1 v.2.1 v.2.2.1 v.2.2.2 := by
  obtain rfl : (fun a0 a1 a2 a3 a4 a5 => loopF (E55 k) (S55 k) Try.f55 p55_3 [rec] k (n55_3 a0 a1 a2 a3 a4 a5)) = G3 := funext fun a0 => funext fun a1 => funext fun a2 => funext fun a3 => funext fun a4 => funext fun a5 => h3 a0 a1 a2 a3 a4 a5
  kernel_rfl
theorem q55_2 (k : Nat) (n : Nat) : ∀ v : (List Int) × (List (List (Int × Int))) × (List Bool) × Bool, loopF (E55 k) (S55 k) Try.f55 p55_2 [] n (n55_2 v.1 v.2.1 v.2.2.1 v.2.2.2) = impl_graphOf.l2 k n v.1 v.2.1 v.2.2.1 v.2.2.2 :=
  loopF_eq (E55 k) (S55 k) Try.f55 p55_2 [] (fun v : (List Int) × (List (List (Int × Int))) × (List Bool) × Bool => n55_2 v.1 v.2.1 v.2.2.1 v.2.2.2) (fun rec v => impl_graphOf.s2 k (fun a0 a1 a2 a3 => rec (a0, a1, a2, a3)) (impl_graphOf.l3 k (fun a0 a1 a2 a3 => rec (a0, a1, a2, a3)) k) v.1 v.2.1 v.2.2.1 v.2.2.2) (fun n v => impl_graphOf.l2 k n v.1 v.2.1 v.2.2.1 v.2.2.2) (fun _ => rfl) (fun _ _ => rfl) (fun rec v => r55_2 k rec _ (fun a0 a1 a2 a3 a4 a5 => q55_3 k rec k (a0, a1, a2, a3, a4, a5)) v) n
theorem r55_1 (k : Nat) (R0 : St → Option (((List Int) × (List (List (Int × Int))) × (List Bool)))) (rec : St → Option (((List Int) × (List (List (Int × Int))) × (List Bool)))) (v : (List Int) × (List Int) × (List (List (Int × Int))) × (List Bool) × Int × (List (Int × Int)) × Int × Int × Int) : roundF (E55 k) (S55 k) Try.f55 p55_1 [R0] rec (n55_1 v.1 v.2.1 v.2.2.1 v.2.2.2.1 v.2.2.2.2.1 v.2.2.2.2.2.1 v.2.2.2.2.2.2.1 v.2.2.2.2.2.2.2.1 v.2.2.2.2.2.2.2.2) = impl_graphOf.s1 k (fun a0 a1 a2 a3 a4 a5 => R0 (n55_0 a0 a1 a2 a3 a4 a5)) (fun a0 a1 a2 a3 a4 a5 a6 a7 a8 => rec (n55_1 a0 a1 a2 a3 a4 a5 a6 a7 a8)) v.1 v.2.1 v.2.2.1 v.2.2.2.1 v.2.2.2.2.1 v.2.2.2.2.2.1 v.2.2.2.2.2.2.1 v.2.2.2.2.2.2.2.1 v.2.2.2.2.2.2.2.2 := by
  kernel_rfl
theorem q55_1 (k : Nat) (R0 : St → Option (((List Int) × (List (List (Int × Int))) × (List Bool)))) (n : Nat) : ∀ v : (List Int) × (List Int) × (List (List (Int × Int))) × (List Bool) × Int × (List (Int × Int)) × Int × Int × Int, loopF (E55 k) (S55 k) Try.f55 p55_1 [R0] n (n55_1 v.1 v.2.1 v.2.2.1 v.2.2.2.1 v.2.2.2.2.1 v.2.2.2.2.2.1 v.2.2.2.2.2.2.1 v.2.2.2.2.2.2.2.1 v.2.2.2.2.2.2.2.2) = impl_graphOf.l1 k (fun a0 a1 a2 a3 a4 a5 => R0 (n55_0 a0 a1 a2 a3 a4 a5)) n v.1 v.2.1 v.2.2.1 v.2.2.2.1 v.2.2.2.2.1 v.2.2.2.2.2.1 v.2.2.2.2.2.2.1 v.2.2.2.2.2.2.2.1 v.2.2.2.2.2.2.2.2 :=
  loopF_eq (E55 k) (S55 k) Try.f55 p55_1 [R0] (fun v : (List Int) × (List Int) × (List (List (Int × Int))) × (List Bool) × Int × (List (Int × Int)) × Int × Int × Int => n55_1 v.1 v.2.1 v.2.2.1 v.2.2.2.1 v.2.2.2.2.1 v.2.2.2.2.2.1 v.2.2.2.2.2.2.1 v.2.2.2.2.2.2.2.1 v.2.2.2.2.2.2.2.2) (fun rec v => impl_graphOf.s1 k (fun a0 a1 a2 a3 a4 a5 => R0 (n55_0 a0 a1 a2 a3 a4 a5)) (fun a0 a1 a2 a3 a4 a5 a6 a7 a8 => rec (a0, a1, a2, a3, a4, a5, a6, a7, a8)) v.1 v.2.1 v.2.2.1 v.2.2.2.1 v.2.2.2.2.1 v.2.2.2.2.2.1 v.2.2.2.2.2.2.1 v.2.2.2.2.2.2.2.1 v.2.2.2.2.2.2.2.2) (fun n v => impl_graphOf.l1 k (fun a0 a1 a2 a3 a4 a5 => R0 (n55_0 a0 a1 a2 a3 a4 a5)) n v.1 v.2.1 v.2.2.1 v.2.2.2.1 v.2.2.2.2.1 v.2.2.2.2.2.1 v.2.2.2.2.2.2.1 v.2.2.2.2.2.2.2.1 v.2.2.2.2.2.2.2.2) (fun _ => rfl) (fun _ _ => rfl) (fun rec v => r55_1 k R0 rec v) n
theorem r55_0 (k : Nat) (rec : St → Option (((List Int) × (List (List (Int × Int))) × (List Bool)))) (G1 : (List Int) → (List Int) → (List (List (Int × Int))) → (List Bool) → Int → (List (Int × Int)) → Int → Int → Int → Option (((List Int) × (List (List (Int × Int))) × (List Bool)))) (h1 : ∀ a0 a1 a2 a3 a4 a5 a6 a7 a8, loopF (E55 k) (S55 k) Try.f55 p55_1 [rec] k (n55_1 a0 a1 a2 a3 a4 a5 a6 a7 a8) = G1 a0 a1 a2 a3 a4 a5 a6 a7 a8) (G2 : (List Int) → (List (List (Int × Int))) → (List Bool) → Bool → Option (((List Int) × (List (List (Int × Int))) × (List Bool)))) (h2 : ∀ a0 a1 a2 a3, loopF (E55 k) (S55 k) Try.f55 p55_2 [] k (n55_2 a0 a1 a2 a3) = G2 a0 a1 a2 a3) (v : (List Int) × (List Int) × (List (List (Int × Int))) × (List Bool) × Int × Int) : roundF (E55 k) (S55 k) Try.f55 p55_0 [] rec (n55_0 v.1 v.2.1 v.2.2.1 v.2.2.2.1 v.2.2.2.2.1 v.2.2.2.2.2) = impl_graphOf.s0 k (fun a0 a1 a2 a3 a4 a5 => rec (n55_0 a0 a1 a2 a3 a4 a5)) G1 G2 v.1 v.2.1 v.2.2.1 v.2.2.2.1 v.2.2.2.2.1 v.2.2.2.2.2 := by
  obtain rfl : (fun a0 a1 a2 a3 a4 a5 a6 a7 a8 => loopF (E55 k) (S55 k) Try.f55 p55_1 [rec] k (n55_1 a0 a1 a2 a3 a4 a5 a6 a7 a8)) = G1 := funext fun a0 => funext fun a1 => funext fun a2 => funext fun a3 => funext fun a4 => funext fun a5 => funext fun a6 => funext fun a7 => funext fun a8 => h1 a0 a1 a2 a3 a4 a5 a6 a7 a8
  obtain rfl : (fun a0 a1 a2 a3 => loopF (E55 k) (S55 k) Try.f55 p55_2 [] k (n55_2 a0 a1 a2 a3)) = G2 := funext fun a0 => funext fun a1 => funext fun a2 => funext fun a3 => h2 a0 a1 a2 a3
  kernel_rfl
theorem q55_0 (k : Nat) (n : Nat) : ∀ v : (List Int) × (List Int) × (List (List (Int × Int))) × (List Bool) × Int × Int, loopF (E55 k) (S55 k) Try.f55 p55_0 [] n (n55_0 v.1 v.2.1 v.2.2.1 v.2.2.2.1 v.2.2.2.2.1 v.2.2.2.2.2) = impl_graphOf.l0 k n v.1 v.2.1 v.2.2.1 v.2.2.2.1 v.2.2.2.2.1 v.2.2.2.2.2 :=
  loopF_eq (E55 k) (S55 k) Try.f55 p55_0 [] (fun v : (List Int) × (List Int) × (List (List (Int × Int))) × (List Bool) × Int × Int => n55_0 v.1 v.2.1 v.2.2.1 v.2.2.2.1 v.2.2.2.2.1 v.2.2.2.2.2) (fun rec v => impl_graphOf.s0 k (fun a0 a1 a2 a3 a4 a5 => rec (a0, a1, a2, a3, a4, a5)) (impl_graphOf.l1 k (fun a0 a1 a2 a3 a4 a5 => rec (a0, a1, a2, a3, a4, a5)) k) (impl_graphOf.l2 k k) v.1 v.2.1 v.2.2.1 v.2.2.2.1 v.2.2.2.2.1 v.2.2.2.2.2) (fun n v => impl_graphOf.l0 k n v.1 v.2.1 v.2.2.1 v.2.2.2.1 v.2.2.2.2.1 v.2.2.2.2.2) (fun _ => rfl) (fun _ _ => rfl) (fun rec v => r55_0 k rec _ (fun a0 a1 a2 a3 a4 a5 a6 a7 a8 => q55_1 k rec k (a0, a1, a2, a3, a4, a5, a6, a7, a8)) _ (fun a0 a1 a2 a3 => q55_2 k k (a0, a1, a2, a3)) v) n
theorem e55 (k : Nat) (x : dens (flatC (S55 k).ps)) : funK (E55 k) (S55 k) Try.f55 x = (S55 k).fn x := by
  have h : funK (E55 k) (S55 k) Try.f55 x = impl_graphOf.g k (fun a0 a1 a2 a3 a4 a5 => loopF (E55 k) (S55 k) Try.f55 p55_0 [] k (n55_0 a0 a1 a2 a3 a4 a5)) x := by kernel_rfl
  rw [h]
  rw [show (fun a0 a1 a2 a3 a4 a5 => loopF (E55 k) (S55 k) Try.f55 p55_0 [] k (n55_0 a0 a1 a2 a3 a4 a5)) = impl_graphOf.l0 k k from funext fun a0 => funext fun a1 => funext fun a2 => funext fun a3 => funext fun a4 => funext fun a5 => q55_0 k k (a0, a1, a2, a3, a4, a5)]
  rfl
theorem M55 (k : Nat) : Meets Try.prog 55 (S55 k) := meets_of Try.func55 (by kernel_rfl) tbOk (orc_cons (M81 k) (orc_cons (M102 k) (orc_cons (M86 k) (orc_cons (M103 k) (orc_cons (M60 k) (orc_cons (M72 k) orc_nil)))))) mixOk (fun x y h => (e55 k x).trans h) rfl

/-! impl_CountLasting: function 18 -/
def impl_CountLasting.s0 (k : Nat) (r0 : Int → (List Bool) → Int → Int → Option (Int × Int)) (x5 : Int) (x17 : List Bool) (x18 : Int) (x19 : Int) : Option (Int × Int) := if x19 < x18 then (if 0 ≤ x19 then (if x19 < (x17.length : Int) then (if (rdOf false x17 x19) = true then (r0 (wrap64 (x5 + 1)) x17 x18 (wrap64 (x19 + 1))) else (r0 x5 x17 x18 (wrap64 (x19 + 1)))) else (none)) else (none)) else (some (x5, 0))
def impl_CountLasting.l0 (k : Nat) : Nat → Int → (List Bool) → Int → Int → Option (Int × Int)
  | 0, _, _, _, _ => none
  | n + 1, x0, x1, x2, x3 => impl_CountLasting.s0 k (impl_CountLasting.l0 k n) x0 x1 x2 x3
def impl_CountLasting.g (k : Nat) (r0 : Int → (List Bool) → Int → Int → Option (Int × Int)) (l0_0 : List Int) : Option (Int × Int) := (impl_statesCode.f k l0_0 true).bind fun t1 => if t1 = 0 then ((impl_graphOf.f k l0_0).bind fun t2 => r0 0 t2.2.2 (t2.2.2.length : Int) 0) else (some (0, t1))
def impl_CountLasting.f (k : Nat) (l0_0 : List Int) : Option (Int × Int) := impl_CountLasting.g k (impl_CountLasting.l0 k k) l0_0
def S18 (k : Nat) : Does := ⟨[(true, [.dat (.list (.int .i64))])], [(false, [.dat (.int .i64)]), (false, [.dat (.int .i64)])], fun x => impl_CountLasting.f k x⟩
def E18 (k : Nat) : En := ⟨tb, orcOf [(54, S54 k), (55, S55 k)], lvOf [(0, [(5, []), (17, []), (18, []), (19, [])])], k, 0, lvOf [], []⟩
def n18_0 (x5 : Int) (x17 : List Bool) (x18 : Int) (x19 : Int) : St := ⟨28, lookA [(5, .dat (.int .i64) x5), (17, .dat (.list .bool) x17), (18, .dat (.int .i64) x18), (19, .dat (.int .i64) x19)], Go.V.look []⟩
def p18_0 : List Bool := [true, true, true, false, true, false]
theorem r18_0 (k : Nat) (rec : St → Option (Int × Int)) (v : Int × (List Bool) × Int × Int) : roundF (E18 k) (S18 k) Try.f18 p18_0 [] rec (n18_0 v.1 v.2.1 v.2.2.1 v.2.2.2) = impl_CountLasting.s0 k (fun a0 a1 a2 a3 => rec (n18_0 a0 a1 a2 a3)) v.1 v.2.1 v.2.2.1 v.2.2.2 := by
  kernel_rfl
theorem q18_0 (k : Nat) (n : Nat) : ∀ v : Int × (List Bool) × Int × Int, loopF (E18 k) (S18 k) Try.f18 p18_0 [] n (n18_0 v.1 v.2.1 v.2.2.1 v.2.2.2) = impl_CountLasting.l0 k n v.1 v.2.1 v.2.2.1 v.2.2.2 :=
  loopF_eq (E18 k) (S18 k) Try.f18 p18_0 [] (fun v : Int × (List Bool) × Int × Int => n18_0 v.1 v.2.1 v.2.2.1 v.2.2.2) (fun rec v => impl_CountLasting.s0 k (fun a0 a1 a2 a3 => rec (a0, a1, a2, a3)) v.1 v.2.1 v.2.2.1 v.2.2.2) (fun n v => impl_CountLasting.l0 k n v.1 v.2.1 v.2.2.1 v.2.2.2) (fun _ => rfl) (fun _ _ => rfl) (fun rec v => r18_0 k rec v) n
theorem e18 (k : Nat) (x : dens (flatC (S18 k).ps)) : funK (E18 k) (S18 k) Try.f18 x = (S18 k).fn x := by
  have h : funK (E18 k) (S18 k) Try.f18 x = impl_CountLasting.g k (fun a0 a1 a2 a3 => loopF (E18 k) (S18 k) Try.f18 p18_0 [] k (n18_0 a0 a1 a2 a3)) x := by kernel_rfl
  rw [h]
  rw [show (fun a0 a1 a2 a3 => loopF (E18 k) (S18 k) Try.f18 p18_0 [] k (n18_0 a0 a1 a2 a3)) = impl_CountLasting.l0 k k from funext fun a0 => funext fun a1 => funext fun a2 => funext fun a3 => q18_0 k k (a0, a1, a2, a3)]
  rfl
theorem M18 (k : Nat) : Meets Try.prog 18 (S18 k) := meets_of Try.func18 (by kernel_rfl) tbOk (orc_cons (M54 k) (orc_cons (M55 k) orc_nil)) mixOk (fun x y h => (e18 k x).trans h) rfl

/-! laws_eqInt64S: function 25 -/
def laws_eqInt64S.s0 (k : Nat) (r0 : (List Int) → (List Int) → Int → Option (Bool)) (x0 : List Int) (x1 : List Int) (x5 : Int) : Option (Bool) := if x5 < (x0.length : Int) then (if 0 ≤ x5 then (if x5 < (x0.length : Int) then (if 0 ≤ x5 then (if x5 < (x1.length : Int) then (if (rd x0 x5) = (rd x1 x5) then (r0 x0 x1 (wrap64 (x5 + 1))) else (some false)) else (none)) else (none)) else (none)) else (none)) else (some true)
def laws_eqInt64S.l0 (k : Nat) : Nat → (List Int) → (List Int) → Int → Option (Bool)
  | 0, _, _, _ => none
  | n + 1, x0, x1, x2 => laws_eqInt64S.s0 k (laws_eqInt64S.l0 k n) x0 x1 x2
def laws_eqInt64S.g (k : Nat) (r0 : (List Int) → (List Int) → Int → Option (Bool)) (l0 : List Int) (l1 : List Int) : Option (Bool) := if (l0.length : Int) = (l1.length : Int) then (r0 l0 l1 0) else (some false)
def laws_eqInt64S.f (k : Nat) (l0 : List Int) (l1 : List Int) : Option (Bool) := laws_eqInt64S.g k (laws_eqInt64S.l0 k k) l0 l1
def S25 (k : Nat) : Does := ⟨[(false, [.dat (.list (.int .i64))]), (false, [.dat (.list (.int .i64))])], [(false, [.dat .bool])], fun x => laws_eqInt64S.f k x.1 x.2⟩
def E25 (k : Nat) : En := ⟨tb, orcOf [], lvOf [(0, [(0, []), (1, []), (5, [])])], k, 0, lvOf [], []⟩
def n25_0 (x0 : List Int) (x1 : List Int) (x5 : Int) : St := ⟨26, lookA [(0, .dat (.list (.int .i64)) x0), (1, .dat (.list (.int .i64)) x1), (5, .dat (.int .i64) x5)], Go.V.look []⟩
def p25_0 : List Bool := [true, true, false, true, false]
theorem r25_0 (k : Nat) (rec : St → Option (Bool)) (v : (List Int) × (List Int) × Int) : roundF (E25 k) (S25 k) Try.f25 p25_0 [] rec (n25_0 v.1 v.2.1 v.2.2) = laws_eqInt64S.s0 k (fun a0 a1 a2 => rec (n25_0 a0 a1 a2)) v.1 v.2.1 v.2.2 := by
  kernel_rfl
theorem q25_0 (k : Nat) (n : Nat) : ∀ v : (List Int) × (List Int) × Int, loopF (E25 k) (S25 k) Try.f25 p25_0 [] n (n25_0 v.1 v.2.1 v.2.2) = laws_eqInt64S.l0 k n v.1 v.2.1 v.2.2 :=
  loopF_eq (E25 k) (S25 k) Try.f25 p25_0 [] (fun v : (List Int) × (List Int) × Int => n25_0 v.1 v.2.1 v.2.2) (fun rec v => laws_eqInt64S.s0 k (fun a0 a1 a2 => rec (a0, a1, a2)) v.1 v.2.1 v.2.2) (fun n v => laws_eqInt64S.l0 k n v.1 v.2.1 v.2.2) (fun _ => rfl) (fun _ _ => rfl) (fun rec v => r25_0 k rec v) n
theorem e25 (k : Nat) (x : dens (flatC (S25 k).ps)) : funK (E25 k) (S25 k) Try.f25 x = (S25 k).fn x := by
  have h : funK (E25 k) (S25 k) Try.f25 x = laws_eqInt64S.g k (fun a0 a1 a2 => loopF (E25 k) (S25 k) Try.f25 p25_0 [] k (n25_0 a0 a1 a2)) x.1 x.2 := by kernel_rfl
  rw [h]
  rw [show (fun a0 a1 a2 => loopF (E25 k) (S25 k) Try.f25 p25_0 [] k (n25_0 a0 a1 a2)) = laws_eqInt64S.l0 k k from funext fun a0 => funext fun a1 => funext fun a2 => q25_0 k k (a0, a1, a2)]
  rfl
theorem M25 (k : Nat) : Meets Try.prog 25 (S25 k) := meets_of Try.func25 (by kernel_rfl) tbOk orc_nil mixOk (fun x y h => (e25 k x).trans h) rfl

/-! laws_eqTasks: function 19 -/
def laws_eqTasks.f (k : Nat) (l0_0 : List Int) (l1_0 : List Int) : Option (Bool) := (laws_eqInt64S.f k l0_0 l1_0).bind fun t1 => if t1 = true then (some true) else (some false)
def S19 (k : Nat) : Does := ⟨[(true, [.dat (.list (.int .i64))]), (true, [.dat (.list (.int .i64))])], [(false, [.dat .bool])], fun x => laws_eqTasks.f k x.1 x.2⟩
def E19 (k : Nat) : En := ⟨tb, orcOf [(25, S25 k)], lvOf [], k, 0, lvOf [], []⟩
theorem e19 (k : Nat) (x : dens (flatC (S19 k).ps)) : funK (E19 k) (S19 k) Try.f19 x = (S19 k).fn x := by
  kernel_rfl
theorem M19 (k : Nat) : Meets Try.prog 19 (S19 k) := meets_of Try.func19 (by kernel_rfl) tbOk (orc_cons (M25 k) orc_nil) mixOk (fun x y h => (e19 k x).trans h) rfl

/-! laws_FnExactCountLasting: function 3 -/
def laws_FnExactCountLasting.f (k : Nat) (l0_0 : List Int) : Option (Bool) := (laws_szTasks.f l0_0 1048576).bind fun t1 => if t1 < 0 then (some true) else ((laws_toTasks.f k l0_0).bind fun t2 => (spec_CountLasting.f k t2).bind fun t3 => (laws_toTasks.f k l0_0).bind fun t4 => (impl_CountLasting.f k t4).bind fun t5 => if t5.1 = t3.1 then (if t5.2 = t3.2 then ((laws_toTasks.f k l0_0).bind fun t6 => (laws_eqTasks.f k t4 t6).bind fun t7 => if t7 = true then (some true) else (some false)) else (some false)) else (some false))
def S3 (k : Nat) : Does := ⟨[(true, [.dat (.list (.int .i64))])], [(false, [.dat .bool])], fun x => laws_FnExactCountLasting.f k x⟩
def E3 (k : Nat) : En := ⟨tb, orcOf [(15, S15 k), (17, S17 k), (16, S16 k), (18, S18 k), (19, S19 k)], lvOf [], k, 0, lvOf [], []⟩
theorem e3 (k : Nat) (x : dens (flatC (S3 k).ps)) : funK (E3 k) (S3 k) Try.f3 x = (S3 k).fn x := by
  kernel_rfl
theorem M3 (k : Nat) : Meets Try.prog 3 (S3 k) := meets_of Try.func3 (by kernel_rfl) tbOk (orc_cons (M15 k) (orc_cons (M17 k) (orc_cons (M16 k) (orc_cons (M18 k) (orc_cons (M19 k) orc_nil))))) mixOk (fun x y h => (e3 k x).trans h) rfl

/-! spec_l02Can: function 56 -/
def spec_l02Can.f (k : Nat) (l0_0 : List Int) : Option (Bool) := (spec_l02Lasting.f k l0_0).bind fun t1 => (spec_l02Count.f k l0_0).bind fun t2 => if 0 ≤ (wrap64 (t2 - 1)) then (if (wrap64 (t2 - 1)) < (t1.length : Int) then (some (rdOf false t1 (wrap64 (t2 - 1)))) else (none)) else (none)
def S56 (k : Nat) : Does := ⟨[(true, [.dat (.list (.int .i64))])], [(false, [.dat .bool])], fun x => spec_l02Can.f k x⟩
def E56 (k : Nat) : En := ⟨tb, orcOf [(53, S53 k), (76, S76 k)], lvOf [], k, 0, lvOf [], []⟩
theorem e56 (k : Nat) (x : dens (flatC (S56 k).ps)) : funK (E56 k) (S56 k) Try.f56 x = (S56 k).fn x := by
  kernel_rfl
theorem M56 (k : Nat) : Meets Try.prog 56 (S56 k) := meets_of Try.func56 (by kernel_rfl) tbOk (orc_cons (M53 k) (orc_cons (M76 k) orc_nil)) mixOk (fun x y h => (e56 k x).trans h) rfl

/-! spec_CanServe: function 20 -/
def spec_CanServe.f (k : Nat) (l0_0 : List Int) : Option (Bool × Int) := (spec_l02Few.f k l0_0).bind fun t1 => if t1 = 0 then ((spec_l02Can.f k l0_0).bind fun t2 => some (t2, 0)) else (some (false, t1))
def S20 (k : Nat) : Does := ⟨[(true, [.dat (.list (.int .i64))])], [(false, [.dat .bool]), (false, [.dat (.int .i64)])], fun x => spec_CanServe.f k x⟩
def E20 (k : Nat) : En := ⟨tb, orcOf [(52, S52 k), (56, S56 k)], lvOf [], k, 0, lvOf [], []⟩
theorem e20 (k : Nat) (x : dens (flatC (S20 k).ps)) : funK (E20 k) (S20 k) Try.f20 x = (S20 k).fn x := by
  kernel_rfl
theorem M20 (k : Nat) : Meets Try.prog 20 (S20 k) := meets_of Try.func20 (by kernel_rfl) tbOk (orc_cons (M52 k) (orc_cons (M56 k) orc_nil)) mixOk (fun x y h => (e20 k x).trans h) rfl

/-! impl_Tasks_isState: function 59 -/
def impl_Tasks_isState.s0 (k : Nat) (r0 : (List Int) → (List Int) → Int → Int → Option (Bool)) (x2_0 : List Int) (x12 : List Int) (x13 : Int) (x14 : Int) : Option (Bool) := if x14 < x13 then (if 0 ≤ x14 then (if x14 < (x12.length : Int) then (if 0 ≤ x14 then (if x14 < (x2_0.length : Int) then ((impl_within.f (rd x12 x14) 1 (rd x2_0 x14)).bind fun t3 => if t3 = true then (r0 x2_0 x12 x13 (wrap64 (x14 + 1))) else (some false)) else (none)) else (none)) else (none)) else (none)) else (some true)
def impl_Tasks_isState.l0 (k : Nat) : Nat → (List Int) → (List Int) → Int → Int → Option (Bool)
  | 0, _, _, _, _ => none
  | n + 1, x0, x1, x2, x3 => impl_Tasks_isState.s0 k (impl_Tasks_isState.l0 k n) x0 x1 x2 x3
def impl_Tasks_isState.g (k : Nat) (r0 : (List Int) → (List Int) → Int → Int → Option (Bool)) (l0_0 : List Int) (l1 : List Int) : Option (Bool) := (impl_length_int64.f l1).bind fun t1 => (impl_Tasks_many.f l0_0).bind fun t2 => if t1 = t2 then (r0 l0_0 l1 (l1.length : Int) 0) else (some false)
def impl_Tasks_isState.f (k : Nat) (l0_0 : List Int) (l1 : List Int) : Option (Bool) := impl_Tasks_isState.g k (impl_Tasks_isState.l0 k k) l0_0 l1
def S59 (k : Nat) : Does := ⟨[(true, [.dat (.list (.int .i64))]), (false, [.dat (.list (.int .i64))])], [(false, [.dat .bool])], fun x => impl_Tasks_isState.f k x.1 x.2⟩
def E59 (k : Nat) : En := ⟨tb, orcOf [(66, S66 k), (102, S102 k), (104, S104 k)], lvOf [(0, [(2, []), (12, []), (13, []), (14, [])])], k, 0, lvOf [], []⟩
def n59_0 (x2_0 : List Int) (x12 : List Int) (x13 : Int) (x14 : Int) : St := ⟨28, lookA [(2, .box 0 0), (12, .dat (.list (.int .i64)) x12), (13, .dat (.int .i64) x13), (14, .dat (.int .i64) x14)], Go.V.look [(0, .cells [.dat (.list (.int .i64)) x2_0])]⟩
def p59_0 : List Bool := [true, true, false, true, false]
theorem r59_0 (k : Nat) (rec : St → Option (Bool)) (v : (List Int) × (List Int) × Int × Int) : roundF (E59 k) (S59 k) Try.f59 p59_0 [] rec (n59_0 v.1 v.2.1 v.2.2.1 v.2.2.2) = impl_Tasks_isState.s0 k (fun a0 a1 a2 a3 => rec (n59_0 a0 a1 a2 a3)) v.1 v.2.1 v.2.2.1 v.2.2.2 := by
  kernel_rfl
theorem q59_0 (k : Nat) (n : Nat) : ∀ v : (List Int) × (List Int) × Int × Int, loopF (E59 k) (S59 k) Try.f59 p59_0 [] n (n59_0 v.1 v.2.1 v.2.2.1 v.2.2.2) = impl_Tasks_isState.l0 k n v.1 v.2.1 v.2.2.1 v.2.2.2 :=
  loopF_eq (E59 k) (S59 k) Try.f59 p59_0 [] (fun v : (List Int) × (List Int) × Int × Int => n59_0 v.1 v.2.1 v.2.2.1 v.2.2.2) (fun rec v => impl_Tasks_isState.s0 k (fun a0 a1 a2 a3 => rec (a0, a1, a2, a3)) v.1 v.2.1 v.2.2.1 v.2.2.2) (fun n v => impl_Tasks_isState.l0 k n v.1 v.2.1 v.2.2.1 v.2.2.2) (fun _ => rfl) (fun _ _ => rfl) (fun rec v => r59_0 k rec v) n
theorem e59 (k : Nat) (x : dens (flatC (S59 k).ps)) : funK (E59 k) (S59 k) Try.f59 x = (S59 k).fn x := by
  have h : funK (E59 k) (S59 k) Try.f59 x = impl_Tasks_isState.g k (fun a0 a1 a2 a3 => loopF (E59 k) (S59 k) Try.f59 p59_0 [] k (n59_0 a0 a1 a2 a3)) x.1 x.2 := by kernel_rfl
  rw [h]
  rw [show (fun a0 a1 a2 a3 => loopF (E59 k) (S59 k) Try.f59 p59_0 [] k (n59_0 a0 a1 a2 a3)) = impl_Tasks_isState.l0 k k from funext fun a0 => funext fun a1 => funext fun a2 => funext fun a3 => q59_0 k k (a0, a1, a2, a3)]
  rfl
theorem M59 (k : Nat) : Meets Try.prog 59 (S59 k) := meets_of Try.func59 (by kernel_rfl) tbOk (orc_cons (M66 k) (orc_cons (M102 k) (orc_cons (M104 k) orc_nil))) mixOk (fun x y h => (e59 k x).trans h) rfl

/-! impl_IsLasting: function 24 -/
def impl_IsLasting.f (k : Nat) (l0_0 : List Int) (l1 : List Int) : Option (Bool × Int) := (impl_Tasks_isState.f k l0_0 l1).bind fun t1 => (impl_statesCode.f k l0_0 t1).bind fun t2 => if t2 = 0 then ((impl_graphOf.f k l0_0).bind fun t3 => (impl_Tasks_number.f k l0_0 l1).bind fun t4 => if 0 ≤ t4 then (if t4 < (t3.2.2.length : Int) then (some ((rdOf false t3.2.2 t4), 0)) else (none)) else (none)) else (some (false, t2))
def S24 (k : Nat) : Does := ⟨[(true, [.dat (.list (.int .i64))]), (false, [.dat (.list (.int .i64))])], [(false, [.dat .bool]), (false, [.dat (.int .i64)])], fun x => impl_IsLasting.f k x.1 x.2⟩
def E24 (k : Nat) : En := ⟨tb, orcOf [(59, S59 k), (54, S54 k), (55, S55 k), (60, S60 k)], lvOf [], k, 0, lvOf [], []⟩
theorem e24 (k : Nat) (x : dens (flatC (S24 k).ps)) : funK (E24 k) (S24 k) Try.f24 x = (S24 k).fn x := by
  kernel_rfl
theorem M24 (k : Nat) : Meets Try.prog 24 (S24 k) := meets_of Try.func24 (by kernel_rfl) tbOk (orc_cons (M59 k) (orc_cons (M54 k) (orc_cons (M55 k) (orc_cons (M60 k) orc_nil)))) mixOk (fun x y h => (e24 k x).trans h) rfl

/-! impl_CanServe: function 21 -/
def impl_CanServe.f (k : Nat) (l0_0 : List Int) : Option (Bool × Int) := (impl_IsLasting.f k l0_0 l0_0).bind fun t1 => some (t1.1, t1.2)
def S21 (k : Nat) : Does := ⟨[(true, [.dat (.list (.int .i64))])], [(false, [.dat .bool]), (false, [.dat (.int .i64)])], fun x => impl_CanServe.f k x⟩
def E21 (k : Nat) : En := ⟨tb, orcOf [(24, S24 k)], lvOf [], k, 0, lvOf [], []⟩
theorem e21 (k : Nat) (x : dens (flatC (S21 k).ps)) : funK (E21 k) (S21 k) Try.f21 x = (S21 k).fn x := by
  kernel_rfl
theorem M21 (k : Nat) : Meets Try.prog 21 (S21 k) := meets_of Try.func21 (by kernel_rfl) tbOk (orc_cons (M24 k) orc_nil) mixOk (fun x y h => (e21 k x).trans h) rfl

/-! laws_FnExactCanServe: function 4 -/
def laws_FnExactCanServe.f (k : Nat) (l0_0 : List Int) : Option (Bool) := (laws_szTasks.f l0_0 1048576).bind fun t1 => if t1 < 0 then (some true) else ((laws_toTasks.f k l0_0).bind fun t2 => (spec_CanServe.f k t2).bind fun t3 => (laws_toTasks.f k l0_0).bind fun t4 => (impl_CanServe.f k t4).bind fun t5 => if t5.1 = t3.1 then (if t5.2 = t3.2 then ((laws_toTasks.f k l0_0).bind fun t6 => (laws_eqTasks.f k t4 t6).bind fun t7 => if t7 = true then (some true) else (some false)) else (some false)) else (some false))
def S4 (k : Nat) : Does := ⟨[(true, [.dat (.list (.int .i64))])], [(false, [.dat .bool])], fun x => laws_FnExactCanServe.f k x⟩
def E4 (k : Nat) : En := ⟨tb, orcOf [(15, S15 k), (17, S17 k), (20, S20 k), (21, S21 k), (19, S19 k)], lvOf [], k, 0, lvOf [], []⟩
theorem e4 (k : Nat) (x : dens (flatC (S4 k).ps)) : funK (E4 k) (S4 k) Try.f4 x = (S4 k).fn x := by
  kernel_rfl
theorem M4 (k : Nat) : Meets Try.prog 4 (S4 k) := meets_of Try.func4 (by kernel_rfl) tbOk (orc_cons (M15 k) (orc_cons (M17 k) (orc_cons (M20 k) (orc_cons (M21 k) (orc_cons (M19 k) orc_nil))))) mixOk (fun x y h => (e4 k x).trans h) rfl

/-! spec_l02State: function 105 -/
def spec_l02State.s0 (k : Nat) (r0 : (List Int) → (List Int) → Int → Option (Bool)) (x1 : List Int) (x2_0 : List Int) (x5 : Int) : Option (Bool) := if x5 < (x1.length : Int) then (if x5 < (x2_0.length : Int) then (if 0 ≤ x5 then (if x5 < (x1.length : Int) then (if 0 ≤ x5 then (if x5 < (x2_0.length : Int) then ((spec_l01In.f (rd x1 x5) 1 (rd x2_0 x5)).bind fun t1 => if t1 = true then (r0 x1 x2_0 (wrap64 (x5 + 1))) else (some false)) else (none)) else (none)) else (none)) else (none)) else (some (decide ((x1.length : Int) = (x2_0.length : Int))))) else (some (decide ((x1.length : Int) = (x2_0.length : Int))))
def spec_l02State.l0 (k : Nat) : Nat → (List Int) → (List Int) → Int → Option (Bool)
  | 0, _, _, _ => none
  | n + 1, x0, x1, x2 => spec_l02State.s0 k (spec_l02State.l0 k n) x0 x1 x2
def spec_l02State.g (k : Nat) (r0 : (List Int) → (List Int) → Int → Option (Bool)) (l0_0 : List Int) (l1 : List Int) : Option (Bool) := r0 l1 l0_0 0
def spec_l02State.f (k : Nat) (l0_0 : List Int) (l1 : List Int) : Option (Bool) := spec_l02State.g k (spec_l02State.l0 k k) l0_0 l1
def S105 (k : Nat) : Does := ⟨[(true, [.dat (.list (.int .i64))]), (false, [.dat (.list (.int .i64))])], [(false, [.dat .bool])], fun x => spec_l02State.f k x.1 x.2⟩
def E105 (k : Nat) : En := ⟨tb, orcOf [(89, S89 k)], lvOf [(0, [(1, []), (2, []), (5, [])])], k, 0, lvOf [], []⟩
def n105_0 (x1 : List Int) (x2_0 : List Int) (x5 : Int) : St := ⟨36, lookA [(1, .dat (.list (.int .i64)) x1), (2, .box 0 0), (5, .dat (.int .i64) x5)], Go.V.look [(0, .cells [.dat (.list (.int .i64)) x2_0])]⟩
def p105_0 : List Bool := [true, false, true, false]
theorem r105_0 (k : Nat) (rec : St → Option (Bool)) (v : (List Int) × (List Int) × Int) : roundF (E105 k) (S105 k) Try.f105 p105_0 [] rec (n105_0 v.1 v.2.1 v.2.2) = spec_l02State.s0 k (fun a0 a1 a2 => rec (n105_0 a0 a1 a2)) v.1 v.2.1 v.2.2 := by
  kernel_rfl
theorem q105_0 (k : Nat) (n : Nat) : ∀ v : (List Int) × (List Int) × Int, loopF (E105 k) (S105 k) Try.f105 p105_0 [] n (n105_0 v.1 v.2.1 v.2.2) = spec_l02State.l0 k n v.1 v.2.1 v.2.2 :=
  loopF_eq (E105 k) (S105 k) Try.f105 p105_0 [] (fun v : (List Int) × (List Int) × Int => n105_0 v.1 v.2.1 v.2.2) (fun rec v => spec_l02State.s0 k (fun a0 a1 a2 => rec (a0, a1, a2)) v.1 v.2.1 v.2.2) (fun n v => spec_l02State.l0 k n v.1 v.2.1 v.2.2) (fun _ => rfl) (fun _ _ => rfl) (fun rec v => r105_0 k rec v) n
theorem e105 (k : Nat) (x : dens (flatC (S105 k).ps)) : funK (E105 k) (S105 k) Try.f105 x = (S105 k).fn x := by
  have h : funK (E105 k) (S105 k) Try.f105 x = spec_l02State.g k (fun a0 a1 a2 => loopF (E105 k) (S105 k) Try.f105 p105_0 [] k (n105_0 a0 a1 a2)) x.1 x.2 := by kernel_rfl
  rw [h]
  rw [show (fun a0 a1 a2 => loopF (E105 k) (S105 k) Try.f105 p105_0 [] k (n105_0 a0 a1 a2)) = spec_l02State.l0 k k from funext fun a0 => funext fun a1 => funext fun a2 => q105_0 k k (a0, a1, a2)]
  rfl
theorem M105 (k : Nat) : Meets Try.prog 105 (S105 k) := meets_of Try.func105 (by kernel_rfl) tbOk (orc_cons (M89 k) orc_nil) mixOk (fun x y h => (e105 k x).trans h) rfl

/-! spec_l02Code: function 61 -/
def spec_l02Code.f (k : Nat) (l0_0 : List Int) (l1 : List Int) : Option (Int) := (spec_l01Is.f k l0_0).bind fun t1 => if (!decide (t1 = true)) = true then (some 1) else ((spec_l02State.f k l0_0 l1).bind fun t2 => if (!decide (t2 = true)) = true then (some 2) else (some 0))
def S61 (k : Nat) : Does := ⟨[(true, [.dat (.list (.int .i64))]), (false, [.dat (.list (.int .i64))])], [(false, [.dat (.int .i64)])], fun x => spec_l02Code.f k x.1 x.2⟩
def E61 (k : Nat) : En := ⟨tb, orcOf [(88, S88 k), (105, S105 k)], lvOf [], k, 0, lvOf [], []⟩
theorem e61 (k : Nat) (x : dens (flatC (S61 k).ps)) : funK (E61 k) (S61 k) Try.f61 x = (S61 k).fn x := by
  kernel_rfl
theorem M61 (k : Nat) : Meets Try.prog 61 (S61 k) := meets_of Try.func61 (by kernel_rfl) tbOk (orc_cons (M88 k) (orc_cons (M105 k) orc_nil)) mixOk (fun x y h => (e61 k x).trans h) rfl

/-! spec_l02Given: function 57 -/
def spec_l02Given.f (k : Nat) (l0_0 : List Int) (l1 : List Int) : Option (Int) := (spec_l02Code.f k l0_0 l1).bind fun t1 => if t1 = 0 then ((spec_l02Few.f k l0_0).bind fun t2 => some t2) else (some t1)
def S57 (k : Nat) : Does := ⟨[(true, [.dat (.list (.int .i64))]), (false, [.dat (.list (.int .i64))])], [(false, [.dat (.int .i64)])], fun x => spec_l02Given.f k x.1 x.2⟩
def E57 (k : Nat) : En := ⟨tb, orcOf [(61, S61 k), (52, S52 k)], lvOf [], k, 0, lvOf [], []⟩
theorem e57 (k : Nat) (x : dens (flatC (S57 k).ps)) : funK (E57 k) (S57 k) Try.f57 x = (S57 k).fn x := by
  kernel_rfl
theorem M57 (k : Nat) : Meets Try.prog 57 (S57 k) := meets_of Try.func57 (by kernel_rfl) tbOk (orc_cons (M61 k) (orc_cons (M52 k) orc_nil)) mixOk (fun x y h => (e57 k x).trans h) rfl

/-! spec_IsLasting: function 22 -/
def spec_IsLasting.f (k : Nat) (l0_0 : List Int) (l1 : List Int) : Option (Bool × Int) := (spec_l02Given.f k l0_0 l1).bind fun t1 => if t1 = 0 then ((spec_l02Lasting.f k l0_0).bind fun t2 => (spec_l02Number.f k l0_0 l1).bind fun t3 => if 0 ≤ t3 then (if t3 < (t2.length : Int) then (some ((rdOf false t2 t3), 0)) else (none)) else (none)) else (some (false, t1))
def S22 (k : Nat) : Does := ⟨[(true, [.dat (.list (.int .i64))]), (false, [.dat (.list (.int .i64))])], [(false, [.dat .bool]), (false, [.dat (.int .i64)])], fun x => spec_IsLasting.f k x.1 x.2⟩
def E22 (k : Nat) : En := ⟨tb, orcOf [(57, S57 k), (53, S53 k), (58, S58 k)], lvOf [], k, 0, lvOf [], []⟩
theorem e22 (k : Nat) (x : dens (flatC (S22 k).ps)) : funK (E22 k) (S22 k) Try.f22 x = (S22 k).fn x := by
  kernel_rfl
theorem M22 (k : Nat) : Meets Try.prog 22 (S22 k) := meets_of Try.func22 (by kernel_rfl) tbOk (orc_cons (M57 k) (orc_cons (M53 k) (orc_cons (M58 k) orc_nil))) mixOk (fun x y h => (e22 k x).trans h) rfl

/-! laws_FnExactIsLasting: function 5 -/
def laws_FnExactIsLasting.f (k : Nat) (l0_0 : List Int) (l1 : List Int) : Option (Bool) := if 1048576 < (l1.length : Int) then (some true) else ((laws_szTasks.f l0_0 1048576).bind fun t1 => if t1 < 0 then (some true) else ((laws_toTasks.f k l0_0).bind fun t2 => (laws_toInt64S.f k l1).bind fun t3 => (spec_IsLasting.f k t2 t3).bind fun t4 => (laws_toTasks.f k l0_0).bind fun t5 => (laws_toInt64S.f k l1).bind fun t6 => (impl_IsLasting.f k t5 t6).bind fun t7 => if t7.1 = t4.1 then (if t7.2 = t4.2 then ((laws_toTasks.f k l0_0).bind fun t8 => (laws_eqTasks.f k t5 t8).bind fun t9 => if t9 = true then ((laws_toInt64S.f k l1).bind fun t10 => (laws_eqInt64S.f k t6 t10).bind fun t11 => if t11 = true then (some true) else (some false)) else (some false)) else (some false)) else (some false)))
def S5 (k : Nat) : Does := ⟨[(true, [.dat (.list (.int .i64))]), (false, [.dat (.list (.int .i64))])], [(false, [.dat .bool])], fun x => laws_FnExactIsLasting.f k x.1 x.2⟩
def E5 (k : Nat) : En := ⟨tb, orcOf [(15, S15 k), (17, S17 k), (23, S23 k), (22, S22 k), (24, S24 k), (19, S19 k), (25, S25 k)], lvOf [], k, 0, lvOf [], []⟩
theorem e5 (k : Nat) (x : dens (flatC (S5 k).ps)) : funK (E5 k) (S5 k) Try.f5 x = (S5 k).fn x := by
  kernel_rfl
theorem M5 (k : Nat) : Meets Try.prog 5 (S5 k) := meets_of Try.func5 (by kernel_rfl) tbOk (orc_cons (M15 k) (orc_cons (M17 k) (orc_cons (M23 k) (orc_cons (M22 k) (orc_cons (M24 k) (orc_cons (M19 k) (orc_cons (M25 k) orc_nil))))))) mixOk (fun x y h => (e5 k x).trans h) rfl

/-! spec_l02Choices: function 62 -/
def spec_l02Choices.s0 (k : Nat) (r0 : (List Int) → (List Int) → Int → Option (Bool)) (x1 : List Int) (x2_0 : List Int) (x5 : Int) : Option (Bool) := if x5 < (x1.length : Int) then (if 0 ≤ x5 then (if x5 < (x1.length : Int) then ((spec_l01K.f x2_0).bind fun t1 => (spec_l01In.f (rd x1 x5) (-1) (wrap64 (t1 - 1))).bind fun t2 => if t2 = true then (r0 x1 x2_0 (wrap64 (x5 + 1))) else (some false)) else (none)) else (none)) else (some (decide ((x1.length : Int) ≤ 120)))
def spec_l02Choices.l0 (k : Nat) : Nat → (List Int) → (List Int) → Int → Option (Bool)
  | 0, _, _, _ => none
  | n + 1, x0, x1, x2 => spec_l02Choices.s0 k (spec_l02Choices.l0 k n) x0 x1 x2
def spec_l02Choices.g (k : Nat) (r0 : (List Int) → (List Int) → Int → Option (Bool)) (l0_0 : List Int) (l1 : List Int) : Option (Bool) := r0 l1 l0_0 0
def spec_l02Choices.f (k : Nat) (l0_0 : List Int) (l1 : List Int) : Option (Bool) := spec_l02Choices.g k (spec_l02Choices.l0 k k) l0_0 l1
def S62 (k : Nat) : Does := ⟨[(true, [.dat (.list (.int .i64))]), (false, [.dat (.list (.int .i64))])], [(false, [.dat .bool])], fun x => spec_l02Choices.f k x.1 x.2⟩
def E62 (k : Nat) : En := ⟨tb, orcOf [(90, S90 k), (89, S89 k)], lvOf [(0, [(1, []), (2, []), (5, [])])], k, 0, lvOf [], []⟩
def n62_0 (x1 : List Int) (x2_0 : List Int) (x5 : Int) : St := ⟨24, lookA [(1, .dat (.list (.int .i64)) x1), (2, .box 0 0), (5, .dat (.int .i64) x5)], Go.V.look [(0, .cells [.dat (.list (.int .i64)) x2_0])]⟩
def p62_0 : List Bool := [true, false, true, false]
theorem r62_0 (k : Nat) (rec : St → Option (Bool)) (v : (List Int) × (List Int) × Int) : roundF (E62 k) (S62 k) Try.f62 p62_0 [] rec (n62_0 v.1 v.2.1 v.2.2) = spec_l02Choices.s0 k (fun a0 a1 a2 => rec (n62_0 a0 a1 a2)) v.1 v.2.1 v.2.2 := by
  kernel_rfl
theorem q62_0 (k : Nat) (n : Nat) : ∀ v : (List Int) × (List Int) × Int, loopF (E62 k) (S62 k) Try.f62 p62_0 [] n (n62_0 v.1 v.2.1 v.2.2) = spec_l02Choices.l0 k n v.1 v.2.1 v.2.2 :=
  loopF_eq (E62 k) (S62 k) Try.f62 p62_0 [] (fun v : (List Int) × (List Int) × Int => n62_0 v.1 v.2.1 v.2.2) (fun rec v => spec_l02Choices.s0 k (fun a0 a1 a2 => rec (a0, a1, a2)) v.1 v.2.1 v.2.2) (fun n v => spec_l02Choices.l0 k n v.1 v.2.1 v.2.2) (fun _ => rfl) (fun _ _ => rfl) (fun rec v => r62_0 k rec v) n
theorem e62 (k : Nat) (x : dens (flatC (S62 k).ps)) : funK (E62 k) (S62 k) Try.f62 x = (S62 k).fn x := by
  have h : funK (E62 k) (S62 k) Try.f62 x = spec_l02Choices.g k (fun a0 a1 a2 => loopF (E62 k) (S62 k) Try.f62 p62_0 [] k (n62_0 a0 a1 a2)) x.1 x.2 := by kernel_rfl
  rw [h]
  rw [show (fun a0 a1 a2 => loopF (E62 k) (S62 k) Try.f62 p62_0 [] k (n62_0 a0 a1 a2)) = spec_l02Choices.l0 k k from funext fun a0 => funext fun a1 => funext fun a2 => q62_0 k k (a0, a1, a2)]
  rfl
theorem M62 (k : Nat) : Meets Try.prog 62 (S62 k) := meets_of Try.func62 (by kernel_rfl) tbOk (orc_cons (M90 k) (orc_cons (M89 k) orc_nil)) mixOk (fun x y h => (e62 k x).trans h) rfl

/-! spec_FirstKept: function 26 -/
def spec_FirstKept.s0 (k : Nat) (r0 : (List Int) → (List Int) → (List Int) → (List Bool) → Int → Option (Int × Int)) (x1 : List Int) (x2 : List Int) (x3_0 : List Int) (x9 : List Bool) (x10 : Int) : Option (Int × Int) := if x10 < (x2.length : Int) then (if 0 ≤ x10 then (if x10 < (x2.length : Int) then ((spec_l02Step.f k x3_0 x1 (rd x2 x10)).bind fun t6 => if t6.2 = true then ((spec_l02Number.f k x3_0 t6.1).bind fun t7 => if 0 ≤ t7 then (if t7 < (x9.length : Int) then (if (rdOf false x9 t7) = true then (r0 t6.1 x2 x3_0 x9 (wrap64 (x10 + 1))) else (some (x10, 0))) else (none)) else (none)) else (some (x10, 0))) else (none)) else (none)) else (some ((x2.length : Int), 0))
def spec_FirstKept.l0 (k : Nat) : Nat → (List Int) → (List Int) → (List Int) → (List Bool) → Int → Option (Int × Int)
  | 0, _, _, _, _, _ => none
  | n + 1, x0, x1, x2, x3, x4 => spec_FirstKept.s0 k (spec_FirstKept.l0 k n) x0 x1 x2 x3 x4
def spec_FirstKept.g (k : Nat) (r0 : (List Int) → (List Int) → (List Int) → (List Bool) → Int → Option (Int × Int)) (l0_0 : List Int) (l1 : List Int) (l2 : List Int) : Option (Int × Int) := (spec_l02Code.f k l0_0 l1).bind fun t1 => if t1 = 0 then ((spec_l02Choices.f k l0_0 l2).bind fun t2 => if t2 = true then (if t1 = 0 then ((spec_l02Few.f k l0_0).bind fun t3 => if t3 = 0 then ((spec_l02Lasting.f k l0_0).bind fun t4 => (spec_l02Number.f k l0_0 l1).bind fun t5 => if 0 ≤ t5 then (if t5 < (t4.length : Int) then (if (rdOf false t4 t5) = true then (r0 l1 l2 l0_0 t4 0) else (some (0, 5))) else (none)) else (none)) else (some (0, t3))) else (if t1 = 0 then ((spec_l02Lasting.f k l0_0).bind fun t8 => (spec_l02Number.f k l0_0 l1).bind fun t9 => if 0 ≤ t9 then (if t9 < (t8.length : Int) then (if (rdOf false t8 t9) = true then (r0 l1 l2 l0_0 t8 0) else (some (0, 5))) else (none)) else (none)) else (some (0, t1)))) else (some (0, 2))) else (if t1 = 0 then ((spec_l02Few.f k l0_0).bind fun t10 => if t10 = 0 then ((spec_l02Lasting.f k l0_0).bind fun t11 => (spec_l02Number.f k l0_0 l1).bind fun t12 => if 0 ≤ t12 then (if t12 < (t11.length : Int) then (if (rdOf false t11 t12) = true then (r0 l1 l2 l0_0 t11 0) else (some (0, 5))) else (none)) else (none)) else (some (0, t10))) else (if t1 = 0 then ((spec_l02Lasting.f k l0_0).bind fun t13 => (spec_l02Number.f k l0_0 l1).bind fun t14 => if 0 ≤ t14 then (if t14 < (t13.length : Int) then (if (rdOf false t13 t14) = true then (r0 l1 l2 l0_0 t13 0) else (some (0, 5))) else (none)) else (none)) else (some (0, t1))))
def spec_FirstKept.f (k : Nat) (l0_0 : List Int) (l1 : List Int) (l2 : List Int) : Option (Int × Int) := spec_FirstKept.g k (spec_FirstKept.l0 k k) l0_0 l1 l2
def S26 (k : Nat) : Does := ⟨[(true, [.dat (.list (.int .i64))]), (false, [.dat (.list (.int .i64))]), (false, [.dat (.list (.int .i64))])], [(false, [.dat (.int .i64)]), (false, [.dat (.int .i64)])], fun x => spec_FirstKept.f k x.1 x.2.1 x.2.2⟩
def E26 (k : Nat) : En := ⟨tb, orcOf [(61, S61 k), (62, S62 k), (52, S52 k), (53, S53 k), (58, S58 k), (63, S63 k)], lvOf [(0, [(1, [.data (.int .i64)]), (2, []), (3, []), (9, []), (10, [])])], k, 0, lvOf [], []⟩
def n26_0 (x1 : List Int) (x2 : List Int) (x3_0 : List Int) (x9 : List Bool) (x10 : Int) : St := ⟨71, lookA [(1, .dat (.list (.int .i64)) x1), (2, .dat (.list (.int .i64)) x2), (3, .box 0 0), (9, .own 1), (10, .dat (.int .i64) x10)], Go.V.look [(0, .cells [.dat (.list (.int .i64)) x3_0]), (1, .flat 4 .bool x9)]⟩
def p26_0 : List Bool := [true, true, true, true, true, true, true, false, true, false]
theorem r26_0 (k : Nat) (rec : St → Option (Int × Int)) (v : (List Int) × (List Int) × (List Int) × (List Bool) × Int) : roundF (E26 k) (S26 k) Try.f26 p26_0 [] rec (n26_0 v.1 v.2.1 v.2.2.1 v.2.2.2.1 v.2.2.2.2) = spec_FirstKept.s0 k (fun a0 a1 a2 a3 a4 => rec (n26_0 a0 a1 a2 a3 a4)) v.1 v.2.1 v.2.2.1 v.2.2.2.1 v.2.2.2.2 := by
  kernel_rfl
theorem q26_0 (k : Nat) (n : Nat) : ∀ v : (List Int) × (List Int) × (List Int) × (List Bool) × Int, loopF (E26 k) (S26 k) Try.f26 p26_0 [] n (n26_0 v.1 v.2.1 v.2.2.1 v.2.2.2.1 v.2.2.2.2) = spec_FirstKept.l0 k n v.1 v.2.1 v.2.2.1 v.2.2.2.1 v.2.2.2.2 :=
  loopF_eq (E26 k) (S26 k) Try.f26 p26_0 [] (fun v : (List Int) × (List Int) × (List Int) × (List Bool) × Int => n26_0 v.1 v.2.1 v.2.2.1 v.2.2.2.1 v.2.2.2.2) (fun rec v => spec_FirstKept.s0 k (fun a0 a1 a2 a3 a4 => rec (a0, a1, a2, a3, a4)) v.1 v.2.1 v.2.2.1 v.2.2.2.1 v.2.2.2.2) (fun n v => spec_FirstKept.l0 k n v.1 v.2.1 v.2.2.1 v.2.2.2.1 v.2.2.2.2) (fun _ => rfl) (fun _ _ => rfl) (fun rec v => r26_0 k rec v) n
theorem e26 (k : Nat) (x : dens (flatC (S26 k).ps)) : funK (E26 k) (S26 k) Try.f26 x = (S26 k).fn x := by
  have h : funK (E26 k) (S26 k) Try.f26 x = spec_FirstKept.g k (fun a0 a1 a2 a3 a4 => loopF (E26 k) (S26 k) Try.f26 p26_0 [] k (n26_0 a0 a1 a2 a3 a4)) x.1 x.2.1 x.2.2 := by kernel_rfl
  rw [h]
  rw [show (fun a0 a1 a2 a3 a4 => loopF (E26 k) (S26 k) Try.f26 p26_0 [] k (n26_0 a0 a1 a2 a3 a4)) = spec_FirstKept.l0 k k from funext fun a0 => funext fun a1 => funext fun a2 => funext fun a3 => funext fun a4 => q26_0 k k (a0, a1, a2, a3, a4)]
  rfl
theorem M26 (k : Nat) : Meets Try.prog 26 (S26 k) := meets_of Try.func26 (by kernel_rfl) tbOk (orc_cons (M61 k) (orc_cons (M62 k) (orc_cons (M52 k) (orc_cons (M53 k) (orc_cons (M58 k) (orc_cons (M63 k) orc_nil)))))) mixOk (fun x y h => (e26 k x).trans h) rfl

/-! impl_Tasks_isTask: function 91 -/
def impl_Tasks_isTask.f (l0_0 : List Int) (a1 : Int) : Option (Bool) := (impl_Tasks_many.f l0_0).bind fun t1 => (impl_within.f a1 0 (wrap64 (t1 - 1))).bind fun t2 => some t2
def S91 (k : Nat) : Does := ⟨[(true, [.dat (.list (.int .i64))]), (false, [.dat (.int .i64)])], [(false, [.dat .bool])], fun x => impl_Tasks_isTask.f x.1 x.2⟩
def E91 (k : Nat) : En := ⟨tb, orcOf [(102, S102 k), (104, S104 k)], lvOf [], k, 0, lvOf [], []⟩
theorem e91 (k : Nat) (x : dens (flatC (S91 k).ps)) : funK (E91 k) (S91 k) Try.f91 x = (S91 k).fn x := by
  kernel_rfl
theorem M91 (k : Nat) : Meets Try.prog 91 (S91 k) := meets_of Try.func91 (by kernel_rfl) tbOk (orc_cons (M102 k) (orc_cons (M104 k) orc_nil)) mixOk (fun x y h => (e91 k x).trans h) rfl

/-! impl_Tasks_isChoice: function 65 -/
def impl_Tasks_isChoice.f (l0_0 : List Int) (a1 : Int) : Option (Bool) := if a1 = (-1) then (some true) else ((impl_Tasks_isTask.f l0_0 a1).bind fun t1 => some t1)
def S65 (k : Nat) : Does := ⟨[(true, [.dat (.list (.int .i64))]), (false, [.dat (.int .i64)])], [(false, [.dat .bool])], fun x => impl_Tasks_isChoice.f x.1 x.2⟩
def E65 (k : Nat) : En := ⟨tb, orcOf [(91, S91 k)], lvOf [], k, 0, lvOf [], []⟩
theorem e65 (k : Nat) (x : dens (flatC (S65 k).ps)) : funK (E65 k) (S65 k) Try.f65 x = (S65 k).fn x := by
  kernel_rfl
theorem M65 (k : Nat) : Meets Try.prog 65 (S65 k) := meets_of Try.func65 (by kernel_rfl) tbOk (orc_cons (M91 k) orc_nil) mixOk (fun x y h => (e65 k x).trans h) rfl

/-! impl_areAll_int64_1_impl_Tasks_isChoice: function 107 -/
def impl_areAll_int64_1_impl_Tasks_isChoice.f (a0 : Int) (a1 : List Int) : Option (Bool) := (impl_Tasks_isChoice.f a1 a0).bind fun t1 => some (!decide (t1 = true))
def S107_c1048641 (k : Nat) : Does := ⟨[(false, [.dat (.int .i64)]), (false, [.dat (.ptr (.clo 1048641 (.list (.int .i64))))])], [(false, [.dat .bool])], fun x => impl_areAll_int64_1_impl_Tasks_isChoice.f x.1 x.2⟩
def E107_c1048641 (k : Nat) : En := ⟨tb, orcOf [(65, S65 k)], lvOf [], k, 0, lvOf [], []⟩
theorem e107_c1048641 (k : Nat) (x : dens (flatC (S107_c1048641 k).ps)) : funK (E107_c1048641 k) (S107_c1048641 k) Try.f107 x = (S107_c1048641 k).fn x := by
  kernel_rfl
theorem M107_c1048641 (k : Nat) : Meets Try.prog 107 (S107_c1048641 k) := meets_of Try.func107 (by kernel_rfl) tbOk (orc_cons (M65 k) orc_nil) mixOk (fun x y h => (e107_c1048641 k x).trans h) rfl

/-! slices_IndexFunc_int64_int64_impl_areAll_int64_1_impl_Tasks_isChoice: function 117 -/
def slices_IndexFunc_int64_int64_impl_areAll_int64_1_impl_Tasks_isChoice.s0 (k : Nat) (r0 : (List Int) → (List Int) → Int → Int → Option (Int)) (x0 : List Int) (x1 : List Int) (x7 : Int) (x8 : Int) : Option (Int) := if x8 < x7 then (if 0 ≤ x8 then (if x8 < (x0.length : Int) then ((impl_areAll_int64_1_impl_Tasks_isChoice.f (rd x0 x8) x1).bind fun t1 => if t1 = true then (some x8) else (r0 x0 x1 x7 (wrap64 (x8 + 1)))) else (none)) else (none)) else (some (-1))
def slices_IndexFunc_int64_int64_impl_areAll_int64_1_impl_Tasks_isChoice.l0 (k : Nat) : Nat → (List Int) → (List Int) → Int → Int → Option (Int)
  | 0, _, _, _, _ => none
  | n + 1, x0, x1, x2, x3 => slices_IndexFunc_int64_int64_impl_areAll_int64_1_impl_Tasks_isChoice.s0 k (slices_IndexFunc_int64_int64_impl_areAll_int64_1_impl_Tasks_isChoice.l0 k n) x0 x1 x2 x3
def slices_IndexFunc_int64_int64_impl_areAll_int64_1_impl_Tasks_isChoice.g (k : Nat) (r0 : (List Int) → (List Int) → Int → Int → Option (Int)) (l0 : List Int) (a1 : List Int) : Option (Int) := r0 l0 a1 (l0.length : Int) 0
def slices_IndexFunc_int64_int64_impl_areAll_int64_1_impl_Tasks_isChoice.f (k : Nat) (l0 : List Int) (a1 : List Int) : Option (Int) := slices_IndexFunc_int64_int64_impl_areAll_int64_1_impl_Tasks_isChoice.g k (slices_IndexFunc_int64_int64_impl_areAll_int64_1_impl_Tasks_isChoice.l0 k k) l0 a1
def S117_c107c1048641 (k : Nat) : Does := ⟨[(false, [.dat (.list (.int .i64))]), (false, [.dat (.clo 107 (.ptr (.clo 1048641 (.list (.int .i64)))))])], [(false, [.dat (.int .i64)])], fun x => slices_IndexFunc_int64_int64_impl_areAll_int64_1_impl_Tasks_isChoice.f k x.1 x.2⟩
def E117_c107c1048641 (k : Nat) : En := ⟨tb, orcOf [(107, S107_c1048641 k)], lvOf [(0, [(0, []), (1, []), (7, []), (8, [])])], k, 0, lvOf [], []⟩
def n117_c107c1048641_0 (x0 : List Int) (x1 : List Int) (x7 : Int) (x8 : Int) : St := ⟨19, lookA [(0, .dat (.list (.int .i64)) x0), (1, .dat (.clo 107 (.ptr (.clo 1048641 (.list (.int .i64))))) x1), (7, .dat (.int .i64) x7), (8, .dat (.int .i64) x8)], Go.V.look []⟩
def p117_c107c1048641_0 : List Bool := [true, false, true, false]
theorem r117_c107c1048641_0 (k : Nat) (rec : St → Option (Int)) (v : (List Int) × (List Int) × Int × Int) : roundF (E117_c107c1048641 k) (S117_c107c1048641 k) Try.f117 p117_c107c1048641_0 [] rec (n117_c107c1048641_0 v.1 v.2.1 v.2.2.1 v.2.2.2) = slices_IndexFunc_int64_int64_impl_areAll_int64_1_impl_Tasks_isChoice.s0 k (fun a0 a1 a2 a3 => rec (n117_c107c1048641_0 a0 a1 a2 a3)) v.1 v.2.1 v.2.2.1 v.2.2.2 := by
  kernel_rfl
theorem q117_c107c1048641_0 (k : Nat) (n : Nat) : ∀ v : (List Int) × (List Int) × Int × Int, loopF (E117_c107c1048641 k) (S117_c107c1048641 k) Try.f117 p117_c107c1048641_0 [] n (n117_c107c1048641_0 v.1 v.2.1 v.2.2.1 v.2.2.2) = slices_IndexFunc_int64_int64_impl_areAll_int64_1_impl_Tasks_isChoice.l0 k n v.1 v.2.1 v.2.2.1 v.2.2.2 :=
  loopF_eq (E117_c107c1048641 k) (S117_c107c1048641 k) Try.f117 p117_c107c1048641_0 [] (fun v : (List Int) × (List Int) × Int × Int => n117_c107c1048641_0 v.1 v.2.1 v.2.2.1 v.2.2.2) (fun rec v => slices_IndexFunc_int64_int64_impl_areAll_int64_1_impl_Tasks_isChoice.s0 k (fun a0 a1 a2 a3 => rec (a0, a1, a2, a3)) v.1 v.2.1 v.2.2.1 v.2.2.2) (fun n v => slices_IndexFunc_int64_int64_impl_areAll_int64_1_impl_Tasks_isChoice.l0 k n v.1 v.2.1 v.2.2.1 v.2.2.2) (fun _ => rfl) (fun _ _ => rfl) (fun rec v => r117_c107c1048641_0 k rec v) n
theorem e117_c107c1048641 (k : Nat) (x : dens (flatC (S117_c107c1048641 k).ps)) : funK (E117_c107c1048641 k) (S117_c107c1048641 k) Try.f117 x = (S117_c107c1048641 k).fn x := by
  have h : funK (E117_c107c1048641 k) (S117_c107c1048641 k) Try.f117 x = slices_IndexFunc_int64_int64_impl_areAll_int64_1_impl_Tasks_isChoice.g k (fun a0 a1 a2 a3 => loopF (E117_c107c1048641 k) (S117_c107c1048641 k) Try.f117 p117_c107c1048641_0 [] k (n117_c107c1048641_0 a0 a1 a2 a3)) x.1 x.2 := by kernel_rfl
  rw [h]
  rw [show (fun a0 a1 a2 a3 => loopF (E117_c107c1048641 k) (S117_c107c1048641 k) Try.f117 p117_c107c1048641_0 [] k (n117_c107c1048641_0 a0 a1 a2 a3)) = slices_IndexFunc_int64_int64_impl_areAll_int64_1_impl_Tasks_isChoice.l0 k k from funext fun a0 => funext fun a1 => funext fun a2 => funext fun a3 => q117_c107c1048641_0 k k (a0, a1, a2, a3)]
  rfl
theorem M117_c107c1048641 (k : Nat) : Meets Try.prog 117 (S117_c107c1048641 k) := meets_of Try.func117 (by kernel_rfl) tbOk (orc_cons (M107_c1048641 k) orc_nil) mixOk (fun x y h => (e117_c107c1048641 k x).trans h) rfl

/-! slices_ContainsFunc_int64_int64_impl_areAll_int64_1_impl_Tasks_isChoice: function 106 -/
def slices_ContainsFunc_int64_int64_impl_areAll_int64_1_impl_Tasks_isChoice.f (k : Nat) (l0 : List Int) (a1 : List Int) : Option (Bool) := (slices_IndexFunc_int64_int64_impl_areAll_int64_1_impl_Tasks_isChoice.f k l0 a1).bind fun t1 => some (decide (0 ≤ t1))
def S106_c107c1048641 (k : Nat) : Does := ⟨[(false, [.dat (.list (.int .i64))]), (false, [.dat (.clo 107 (.ptr (.clo 1048641 (.list (.int .i64)))))])], [(false, [.dat .bool])], fun x => slices_ContainsFunc_int64_int64_impl_areAll_int64_1_impl_Tasks_isChoice.f k x.1 x.2⟩
def E106_c107c1048641 (k : Nat) : En := ⟨tb, orcOf [(117, S117_c107c1048641 k)], lvOf [], k, 0, lvOf [], []⟩
theorem e106_c107c1048641 (k : Nat) (x : dens (flatC (S106_c107c1048641 k).ps)) : funK (E106_c107c1048641 k) (S106_c107c1048641 k) Try.f106 x = (S106_c107c1048641 k).fn x := by
  kernel_rfl
theorem M106_c107c1048641 (k : Nat) : Meets Try.prog 106 (S106_c107c1048641 k) := meets_of Try.func106 (by kernel_rfl) tbOk (orc_cons (M117_c107c1048641 k) orc_nil) mixOk (fun x y h => (e106_c107c1048641 k x).trans h) rfl

/-! impl_areAll_int64_impl_Tasks_isChoice: function 64 -/
def impl_areAll_int64_impl_Tasks_isChoice.f (k : Nat) (l0 : List Int) (a1 : List Int) : Option (Bool) := (slices_ContainsFunc_int64_int64_impl_areAll_int64_1_impl_Tasks_isChoice.f k l0 a1).bind fun t1 => some (!decide (t1 = true))
def S64_c1048641 (k : Nat) : Does := ⟨[(false, [.dat (.list (.int .i64))]), (false, [.dat (.clo 1048641 (.list (.int .i64)))])], [(false, [.dat .bool])], fun x => impl_areAll_int64_impl_Tasks_isChoice.f k x.1 x.2⟩
def E64_c1048641 (k : Nat) : En := ⟨tb, orcOf [(106, S106_c107c1048641 k)], lvOf [], k, 0, lvOf [], []⟩
theorem e64_c1048641 (k : Nat) (x : dens (flatC (S64_c1048641 k).ps)) : funK (E64_c1048641 k) (S64_c1048641 k) Try.f64 x = (S64_c1048641 k).fn x := by
  kernel_rfl
theorem M64_c1048641 (k : Nat) : Meets Try.prog 64 (S64_c1048641 k) := meets_of Try.func64 (by kernel_rfl) tbOk (orc_cons (M106_c107c1048641 k) orc_nil) mixOk (fun x y h => (e64_c1048641 k x).trans h) rfl

/-! impl_FirstKept: function 27 -/
def impl_FirstKept.s0 (k : Nat) (r0 : (List Int) → ((List Int) × (List (List (Int × Int))) × (List Bool)) → Int → (List Int) → Int → Int → Option (Int × Int)) (x2 : List Int) (x9 : (List Int) × (List (List (Int × Int))) × (List Bool)) (x10 : Int) (x47 : List Int) (x48 : Int) (x49 : Int) : Option (Int × Int) := if x49 < x48 then (if 0 ≤ x49 then (if x49 < (x47.length : Int) then (if 0 ≤ x10 then (if x10 < (x9.2.1.length : Int) then (if (mgI (rdOf ([] : List (Int × Int)) x9.2.1 x10) (rd x47 x49)).isSome = true then (if 0 ≤ ((mgI (rdOf ([] : List (Int × Int)) x9.2.1 x10) (rd x47 x49)).getD 0) then (if ((mgI (rdOf ([] : List (Int × Int)) x9.2.1 x10) (rd x47 x49)).getD 0) < (x9.2.2.length : Int) then (if (rdOf false x9.2.2 ((mgI (rdOf ([] : List (Int × Int)) x9.2.1 x10) (rd x47 x49)).getD 0)) = true then (r0 x2 x9 ((mgI (rdOf ([] : List (Int × Int)) x9.2.1 x10) (rd x47 x49)).getD 0) x47 x48 (wrap64 (x49 + 1))) else (some (x49, 0))) else (none)) else (none)) else (some (x49, 0))) else (none)) else (none)) else (none)) else (none)) else ((impl_length_int64.f x2).bind fun t6 => some (t6, 0))
def impl_FirstKept.l0 (k : Nat) : Nat → (List Int) → ((List Int) × (List (List (Int × Int))) × (List Bool)) → Int → (List Int) → Int → Int → Option (Int × Int)
  | 0, _, _, _, _, _, _ => none
  | n + 1, x0, x1, x2, x3, x4, x5 => impl_FirstKept.s0 k (impl_FirstKept.l0 k n) x0 x1 x2 x3 x4 x5
def impl_FirstKept.g (k : Nat) (r0 : (List Int) → ((List Int) × (List (List (Int × Int))) × (List Bool)) → Int → (List Int) → Int → Int → Option (Int × Int)) (l0_0 : List Int) (l1 : List Int) (l2 : List Int) : Option (Int × Int) := (impl_Tasks_isState.f k l0_0 l1).bind fun t1 => if t1 = true then (if (l2.length : Int) ≤ 120 then ((impl_areAll_int64_impl_Tasks_isChoice.f k l2 l0_0).bind fun t2 => (impl_statesCode.f k l0_0 t2).bind fun t3 => if t3 = 0 then ((impl_graphOf.f k l0_0).bind fun t4 => (impl_Tasks_number.f k l0_0 l1).bind fun t5 => if 0 ≤ t5 then (if t5 < (t4.2.2.length : Int) then (if (rdOf false t4.2.2 t5) = true then (r0 l2 t4 t5 l2 (l2.length : Int) 0) else (some (0, 5))) else (none)) else (none)) else (some (0, t3))) else ((impl_statesCode.f k l0_0 false).bind fun t7 => if t7 = 0 then ((impl_graphOf.f k l0_0).bind fun t8 => (impl_Tasks_number.f k l0_0 l1).bind fun t9 => if 0 ≤ t9 then (if t9 < (t8.2.2.length : Int) then (if (rdOf false t8.2.2 t9) = true then (r0 l2 t8 t9 l2 (l2.length : Int) 0) else (some (0, 5))) else (none)) else (none)) else (some (0, t7)))) else ((impl_statesCode.f k l0_0 false).bind fun t10 => if t10 = 0 then ((impl_graphOf.f k l0_0).bind fun t11 => (impl_Tasks_number.f k l0_0 l1).bind fun t12 => if 0 ≤ t12 then (if t12 < (t11.2.2.length : Int) then (if (rdOf false t11.2.2 t12) = true then (r0 l2 t11 t12 l2 (l2.length : Int) 0) else (some (0, 5))) else (none)) else (none)) else (some (0, t10)))
def impl_FirstKept.f (k : Nat) (l0_0 : List Int) (l1 : List Int) (l2 : List Int) : Option (Int × Int) := impl_FirstKept.g k (impl_FirstKept.l0 k k) l0_0 l1 l2
def S27 (k : Nat) : Does := ⟨[(true, [.dat (.list (.int .i64))]), (false, [.dat (.list (.int .i64))]), (false, [.dat (.list (.int .i64))])], [(false, [.dat (.int .i64)]), (false, [.dat (.int .i64)])], fun x => impl_FirstKept.f k x.1 x.2.1 x.2.2⟩
def E27 (k : Nat) : En := ⟨tb, orcOf [(59, S59 k), (64, S64_c1048641 k), (54, S54 k), (55, S55 k), (60, S60 k), (66, S66 k)], lvOf [(0, [(2, []), (9, []), (10, []), (47, []), (48, []), (49, [])])], k, 0, lvOf [], []⟩
def n27_0 (x2 : List Int) (x9 : (List Int) × (List (List (Int × Int))) × (List Bool)) (x10 : Int) (x47 : List Int) (x48 : Int) (x49 : Int) : St := ⟨83, lookA [(2, .dat (.list (.int .i64)) x2), (9, .dp (.struct (.pair (.struct (.list (.int .i64))) (.pair (.list (.map (.int .i64) (.int .i64))) (.list .bool)))) x9), (10, .dat (.int .i64) x10), (47, .dat (.list (.int .i64)) x47), (48, .dat (.int .i64) x48), (49, .dat (.int .i64) x49)], Go.V.look []⟩
def p27_0 : List Bool := [true, true, true, true, true, false, true, false]
theorem r27_0 (k : Nat) (rec : St → Option (Int × Int)) (v : (List Int) × ((List Int) × (List (List (Int × Int))) × (List Bool)) × Int × (List Int) × Int × Int) : roundF (E27 k) (S27 k) Try.f27 p27_0 [] rec (n27_0 v.1 v.2.1 v.2.2.1 v.2.2.2.1 v.2.2.2.2.1 v.2.2.2.2.2) = impl_FirstKept.s0 k (fun a0 a1 a2 a3 a4 a5 => rec (n27_0 a0 a1 a2 a3 a4 a5)) v.1 v.2.1 v.2.2.1 v.2.2.2.1 v.2.2.2.2.1 v.2.2.2.2.2 := by
  kernel_rfl
theorem q27_0 (k : Nat) (n : Nat) : ∀ v : (List Int) × ((List Int) × (List (List (Int × Int))) × (List Bool)) × Int × (List Int) × Int × Int, loopF (E27 k) (S27 k) Try.f27 p27_0 [] n (n27_0 v.1 v.2.1 v.2.2.1 v.2.2.2.1 v.2.2.2.2.1 v.2.2.2.2.2) = impl_FirstKept.l0 k n v.1 v.2.1 v.2.2.1 v.2.2.2.1 v.2.2.2.2.1 v.2.2.2.2.2 :=
  loopF_eq (E27 k) (S27 k) Try.f27 p27_0 [] (fun v : (List Int) × ((List Int) × (List (List (Int × Int))) × (List Bool)) × Int × (List Int) × Int × Int => n27_0 v.1 v.2.1 v.2.2.1 v.2.2.2.1 v.2.2.2.2.1 v.2.2.2.2.2) (fun rec v => impl_FirstKept.s0 k (fun a0 a1 a2 a3 a4 a5 => rec (a0, a1, a2, a3, a4, a5)) v.1 v.2.1 v.2.2.1 v.2.2.2.1 v.2.2.2.2.1 v.2.2.2.2.2) (fun n v => impl_FirstKept.l0 k n v.1 v.2.1 v.2.2.1 v.2.2.2.1 v.2.2.2.2.1 v.2.2.2.2.2) (fun _ => rfl) (fun _ _ => rfl) (fun rec v => r27_0 k rec v) n
theorem e27 (k : Nat) (x : dens (flatC (S27 k).ps)) : funK (E27 k) (S27 k) Try.f27 x = (S27 k).fn x := by
  have h : funK (E27 k) (S27 k) Try.f27 x = impl_FirstKept.g k (fun a0 a1 a2 a3 a4 a5 => loopF (E27 k) (S27 k) Try.f27 p27_0 [] k (n27_0 a0 a1 a2 a3 a4 a5)) x.1 x.2.1 x.2.2 := by kernel_rfl
  rw [h]
  rw [show (fun a0 a1 a2 a3 a4 a5 => loopF (E27 k) (S27 k) Try.f27 p27_0 [] k (n27_0 a0 a1 a2 a3 a4 a5)) = impl_FirstKept.l0 k k from funext fun a0 => funext fun a1 => funext fun a2 => funext fun a3 => funext fun a4 => funext fun a5 => q27_0 k k (a0, a1, a2, a3, a4, a5)]
  rfl
theorem M27 (k : Nat) : Meets Try.prog 27 (S27 k) := meets_of Try.func27 (by kernel_rfl) tbOk (orc_cons (M59 k) (orc_cons (M64_c1048641 k) (orc_cons (M54 k) (orc_cons (M55 k) (orc_cons (M60 k) (orc_cons (M66 k) orc_nil)))))) mixOk (fun x y h => (e27 k x).trans h) rfl

/-! laws_FnExactFirstKept: function 6 -/
def laws_FnExactFirstKept.f (k : Nat) (l0_0 : List Int) (l1 : List Int) (l2 : List Int) : Option (Bool) := if 1048576 < (l1.length : Int) then (some true) else (if 1048576 < (l2.length : Int) then (some true) else ((laws_szTasks.f l0_0 1048576).bind fun t1 => if t1 < 0 then (some true) else ((laws_toTasks.f k l0_0).bind fun t2 => (laws_toInt64S.f k l1).bind fun t3 => (laws_toInt64S.f k l2).bind fun t4 => (spec_FirstKept.f k t2 t3 t4).bind fun t5 => (laws_toTasks.f k l0_0).bind fun t6 => (laws_toInt64S.f k l1).bind fun t7 => (laws_toInt64S.f k l2).bind fun t8 => (impl_FirstKept.f k t6 t7 t8).bind fun t9 => if t9.1 = t5.1 then (if t9.2 = t5.2 then ((laws_toTasks.f k l0_0).bind fun t10 => (laws_eqTasks.f k t6 t10).bind fun t11 => if t11 = true then ((laws_toInt64S.f k l1).bind fun t12 => (laws_eqInt64S.f k t7 t12).bind fun t13 => if t13 = true then ((laws_toInt64S.f k l2).bind fun t14 => (laws_eqInt64S.f k t8 t14).bind fun t15 => if t15 = true then (some true) else (some false)) else (some false)) else (some false)) else (some false)) else (some false))))
def S6 (k : Nat) : Does := ⟨[(true, [.dat (.list (.int .i64))]), (false, [.dat (.list (.int .i64))]), (false, [.dat (.list (.int .i64))])], [(false, [.dat .bool])], fun x => laws_FnExactFirstKept.f k x.1 x.2.1 x.2.2⟩
def E6 (k : Nat) : En := ⟨tb, orcOf [(15, S15 k), (17, S17 k), (23, S23 k), (26, S26 k), (27, S27 k), (19, S19 k), (25, S25 k)], lvOf [], k, 0, lvOf [], []⟩
theorem e6 (k : Nat) (x : dens (flatC (S6 k).ps)) : funK (E6 k) (S6 k) Try.f6 x = (S6 k).fn x := by
  kernel_rfl
theorem M6 (k : Nat) : Meets Try.prog 6 (S6 k) := meets_of Try.func6 (by kernel_rfl) tbOk (orc_cons (M15 k) (orc_cons (M17 k) (orc_cons (M23 k) (orc_cons (M26 k) (orc_cons (M27 k) (orc_cons (M19 k) (orc_cons (M25 k) orc_nil))))))) mixOk (fun x y h => (e6 k x).trans h) rfl

/-! spec_l01Own: function 67 -/
def spec_l01Own.f (l0 : List Int) : Option ((List Int)) := if 0 + l0.length ≤ 1099511627776 then (some ([] ++ l0)) else (none)
def S67 (k : Nat) : Does := ⟨[(false, [.dat (.list (.int .i64))])], [(false, [.own 2 (.int .i64)])], fun x => spec_l01Own.f x⟩
def E67 (k : Nat) : En := ⟨tb, orcOf [], lvOf [], k, 0, lvOf [], []⟩
theorem e67 (k : Nat) (x : dens (flatC (S67 k).ps)) : funK (E67 k) (S67 k) Try.f67 x = (S67 k).fn x := by
  kernel_rfl
theorem M67 (k : Nat) : Meets Try.prog 67 (S67 k) := meets_of Try.func67 (by kernel_rfl) tbOk orc_nil mixOk (fun x y h => (e67 k x).trans h) rfl

/-! spec_l02Keeping: function 68 -/
def spec_l02Keeping.s0 (k : Nat) (r0 : (List Bool) → (List Int) → (List Int) → (List Int) → Int → Option ((List Int))) (x1 : List Bool) (x2 : List Int) (x3_0 : List Int) (x7 : List Int) (x8 : Int) : Option ((List Int)) := (spec_l01K.f x3_0).bind fun t1 => if x8 < t1 then ((spec_l02Step.f k x3_0 x2 x8).bind fun t2 => if t2.2 = true then ((spec_l02Number.f k x3_0 t2.1).bind fun t3 => if 0 ≤ t3 then (if t3 < (x1.length : Int) then (if (rdOf false x1 t3) = true then (if x7.length + 1 ≤ 1099511627776 then (r0 x1 x2 x3_0 (x7 ++ [x8]) (wrap64 (x8 + 1))) else (none)) else (r0 x1 x2 x3_0 x7 (wrap64 (x8 + 1)))) else (none)) else (none)) else (r0 x1 x2 x3_0 x7 (wrap64 (x8 + 1)))) else (some x7)
def spec_l02Keeping.l0 (k : Nat) : Nat → (List Bool) → (List Int) → (List Int) → (List Int) → Int → Option ((List Int))
  | 0, _, _, _, _, _ => none
  | n + 1, x0, x1, x2, x3, x4 => spec_l02Keeping.s0 k (spec_l02Keeping.l0 k n) x0 x1 x2 x3 x4
def spec_l02Keeping.g (k : Nat) (r0 : (List Bool) → (List Int) → (List Int) → (List Int) → Int → Option ((List Int))) (l0_0 : List Int) (l1 : List Bool) (l2 : List Int) : Option ((List Int)) := r0 l1 l2 l0_0 [] (-1)
def spec_l02Keeping.f (k : Nat) (l0_0 : List Int) (l1 : List Bool) (l2 : List Int) : Option ((List Int)) := spec_l02Keeping.g k (spec_l02Keeping.l0 k k) l0_0 l1 l2
def S68 (k : Nat) : Does := ⟨[(true, [.dat (.list (.int .i64))]), (false, [.dat (.list .bool)]), (false, [.dat (.list (.int .i64))])], [(false, [.own 2 (.int .i64)])], fun x => spec_l02Keeping.f k x.1 x.2.1 x.2.2⟩
def E68 (k : Nat) : En := ⟨tb, orcOf [(90, S90 k), (63, S63 k), (58, S58 k)], lvOf [(0, [(1, []), (2, []), (3, []), (7, []), (8, [])])], k, 0, lvOf [], []⟩
def n68_0 (x1 : List Bool) (x2 : List Int) (x3_0 : List Int) (x7 : List Int) (x8 : Int) : St := ⟨39, lookA [(1, .dat (.list .bool) x1), (2, .dat (.list (.int .i64)) x2), (3, .box 0 0), (7, .own 1), (8, .dat (.int .i64) x8)], Go.V.look [(0, .cells [.dat (.list (.int .i64)) x3_0]), (1, .flat 2 (.int .i64) x7)]⟩
def p68_0 : List Bool := [true, true, false, true, false]
theorem r68_0 (k : Nat) (rec : St → Option ((List Int))) (v : (List Bool) × (List Int) × (List Int) × (List Int) × Int) : roundF (E68 k) (S68 k) Try.f68 p68_0 [] rec (n68_0 v.1 v.2.1 v.2.2.1 v.2.2.2.1 v.2.2.2.2) = spec_l02Keeping.s0 k (fun a0 a1 a2 a3 a4 => rec (n68_0 a0 a1 a2 a3 a4)) v.1 v.2.1 v.2.2.1 v.2.2.2.1 v.2.2.2.2 := by
  kernel_rfl
theorem q68_0 (k : Nat) (n : Nat) : ∀ v : (List Bool) × (List Int) × (List Int) × (List Int) × Int, loopF (E68 k) (S68 k) Try.f68 p68_0 [] n (n68_0 v.1 v.2.1 v.2.2.1 v.2.2.2.1 v.2.2.2.2) = spec_l02Keeping.l0 k n v.1 v.2.1 v.2.2.1 v.2.2.2.1 v.2.2.2.2 :=
  loopF_eq (E68 k) (S68 k) Try.f68 p68_0 [] (fun v : (List Bool) × (List Int) × (List Int) × (List Int) × Int => n68_0 v.1 v.2.1 v.2.2.1 v.2.2.2.1 v.2.2.2.2) (fun rec v => spec_l02Keeping.s0 k (fun a0 a1 a2 a3 a4 => rec (a0, a1, a2, a3, a4)) v.1 v.2.1 v.2.2.1 v.2.2.2.1 v.2.2.2.2) (fun n v => spec_l02Keeping.l0 k n v.1 v.2.1 v.2.2.1 v.2.2.2.1 v.2.2.2.2) (fun _ => rfl) (fun _ _ => rfl) (fun rec v => r68_0 k rec v) n
theorem e68 (k : Nat) (x : dens (flatC (S68 k).ps)) : funK (E68 k) (S68 k) Try.f68 x = (S68 k).fn x := by
  have h : funK (E68 k) (S68 k) Try.f68 x = spec_l02Keeping.g k (fun a0 a1 a2 a3 a4 => loopF (E68 k) (S68 k) Try.f68 p68_0 [] k (n68_0 a0 a1 a2 a3 a4)) x.1 x.2.1 x.2.2 := by kernel_rfl
  rw [h]
  rw [show (fun a0 a1 a2 a3 a4 => loopF (E68 k) (S68 k) Try.f68 p68_0 [] k (n68_0 a0 a1 a2 a3 a4)) = spec_l02Keeping.l0 k k from funext fun a0 => funext fun a1 => funext fun a2 => funext fun a3 => funext fun a4 => q68_0 k k (a0, a1, a2, a3, a4)]
  rfl
theorem M68 (k : Nat) : Meets Try.prog 68 (S68 k) := meets_of Try.func68 (by kernel_rfl) tbOk (orc_cons (M90 k) (orc_cons (M63 k) (orc_cons (M58 k) orc_nil))) mixOk (fun x y h => (e68 k x).trans h) rfl

/-! spec_LeastPlay: function 28 -/
def spec_LeastPlay.s1 (k : Nat) (r1 : (List Int) → (List Bool) → (List Int) → (List Int) → (List Int) → Option ((List Int) × (List Int) × Int)) (x1_0 : List Int) (x6 : List Bool) (x7 : List Int) (x8 : List Int) (x9 : List Int) : Option ((List Int) × (List Int) × Int) := (spec_l02Number.f k x1_0 x8).bind fun t4 => if 0 ≤ t4 then (if t4 < (x7.length : Int) then (if 0 ≤ (rd x7 t4) then (if 0 ≤ (rd x7 t4) then (if (rd x7 t4) ≤ (x9.length : Int) then ((spec_l01Own.f (x9.take (rd x7 t4).toNat)).bind fun t5 => if 0 ≤ (rd x7 t4) then (if (rd x7 t4) ≤ (x9.length : Int) then (if (x9.length : Int) ≤ (x9.length : Int) then ((spec_l01Own.f ((x9.take (x9.length : Int).toNat).drop (rd x7 t4).toNat)).bind fun t6 => some (t5, t6, 0)) else (none)) else (none)) else (none)) else (none)) else (none)) else (if 0 ≤ t4 then (if t4 < (x7.length : Int) then ((spec_l02Keeping.f k x1_0 x6 x8).bind fun t7 => if 0 < (t7.length : Int) then (if x9.length + 1 ≤ 1099511627776 then ((spec_l02Step.f k x1_0 x8 (rd t7 0)).bind fun t8 => r1 x1_0 x6 (x7.set t4.toNat (x9.length : Int)) t8.1 (x9 ++ [(rd t7 0)])) else (none)) else (none)) else (none)) else (none))) else (none)) else (none)
def spec_LeastPlay.l1 (k : Nat) : Nat → (List Int) → (List Bool) → (List Int) → (List Int) → (List Int) → Option ((List Int) × (List Int) × Int)
  | 0, _, _, _, _, _ => none
  | n + 1, x0, x1, x2, x3, x4 => spec_LeastPlay.s1 k (spec_LeastPlay.l1 k n) x0 x1 x2 x3 x4
def spec_LeastPlay.s0 (k : Nat) (r0 : (List Int) → (List Bool) → (List Int) → (List Int) → (List Int) → Int → Int → Option ((List Int) × (List Int) × Int)) (r1 : (List Int) → (List Bool) → (List Int) → (List Int) → (List Int) → Option ((List Int) × (List Int) × Int)) (x1_0 : List Int) (x6 : List Bool) (x7 : List Int) (x8 : List Int) (x9 : List Int) (x36 : Int) (x37 : Int) : Option ((List Int) × (List Int) × Int) := if x37 < x36 then (if 0 ≤ x37 then (if x37 < (x7.length : Int) then (r0 x1_0 x6 (x7.set x37.toNat (-1)) x8 x9 x36 (wrap64 (x37 + 1))) else (none)) else (none)) else (r1 x1_0 x6 x7 x8 x9)
def spec_LeastPlay.l0 (k : Nat) : Nat → (List Int) → (List Bool) → (List Int) → (List Int) → (List Int) → Int → Int → Option ((List Int) × (List Int) × Int)
  | 0, _, _, _, _, _, _, _ => none
  | n + 1, x0, x1, x2, x3, x4, x5, x6 => spec_LeastPlay.s0 k (spec_LeastPlay.l0 k n) (spec_LeastPlay.l1 k k) x0 x1 x2 x3 x4 x5 x6
def spec_LeastPlay.g (k : Nat) (r0 : (List Int) → (List Bool) → (List Int) → (List Int) → (List Int) → Int → Int → Option ((List Int) × (List Int) × Int)) (l0_0 : List Int) : Option ((List Int) × (List Int) × Int) := (spec_l02Few.f k l0_0).bind fun t1 => if t1 = 0 then ((spec_l02Lasting.f k l0_0).bind fun t2 => if 0 ≤ (wrap64 ((t2.length : Int) - 1)) then (if (wrap64 ((t2.length : Int) - 1)) < (t2.length : Int) then (if (rdOf false t2 (wrap64 ((t2.length : Int) - 1))) = true then (if 0 ≤ (t2.length : Int) then (if (t2.length : Int) ≤ (t2.length : Int) then (if (t2.length : Int).toNat ≤ 1099511627776 then ((spec_l01Own.f l0_0).bind fun t3 => r0 l0_0 t2 (List.replicate (t2.length : Int).toNat (0 : Int)) t3 [] ((List.replicate (t2.length : Int).toNat (0 : Int)).length : Int) 0) else (none)) else (none)) else (none)) else (some ([], [], 4))) else (none)) else (none)) else (some ([], [], t1))
def spec_LeastPlay.f (k : Nat) (l0_0 : List Int) : Option ((List Int) × (List Int) × Int) := spec_LeastPlay.g k (spec_LeastPlay.l0 k k) l0_0
def S28 (k : Nat) : Does := ⟨[(true, [.dat (.list (.int .i64))])], [(false, [.own 2 (.int .i64)]), (false, [.own 2 (.int .i64)]), (false, [.dat (.int .i64)])], fun x => spec_LeastPlay.f k x⟩
def E28 (k : Nat) : En := ⟨tb, orcOf [(52, S52 k), (53, S53 k), (67, S67 k), (58, S58 k), (68, S68 k), (63, S63 k)], lvOf [(0, [(1, []), (6, []), (7, []), (8, []), (9, []), (36, []), (37, [])]), (2, [(1, []), (6, []), (7, []), (8, []), (9, [])])], k, 0, lvOf [(16, [(9, [.data (.int .i64)])])], []⟩
def n28_0 (x1_0 : List Int) (x6 : List Bool) (x7 : List Int) (x8 : List Int) (x9 : List Int) (x36 : Int) (x37 : Int) : St := ⟨83, lookA [(1, .box 0 0), (6, .own 1), (7, .own 2), (8, .own 3), (9, .own 4), (36, .dat (.int .i64) x36), (37, .dat (.int .i64) x37)], Go.V.look [(0, .cells [.dat (.list (.int .i64)) x1_0]), (1, .flat 4 .bool x6), (2, .flat 2 (.int .i64) x7), (3, .flat 2 (.int .i64) x8), (4, .flat 2 (.int .i64) x9)]⟩
def p28_0 : List Bool := [true, true, true, true, true, false, true, false]
def n28_1 (x1_0 : List Int) (x6 : List Bool) (x7 : List Int) (x8 : List Int) (x9 : List Int) : St := ⟨83, lookA [(1, .box 0 0), (6, .own 1), (7, .own 2), (8, .own 3), (9, .own 4)], Go.V.look [(0, .cells [.dat (.list (.int .i64)) x1_0]), (1, .flat 4 .bool x6), (2, .flat 2 (.int .i64) x7), (3, .flat 2 (.int .i64) x8), (4, .flat 2 (.int .i64) x9)]⟩
def p28_1 : List Bool := [true, true, true, true, true, true, false]
theorem r28_1 (k : Nat) (rec : St → Option ((List Int) × (List Int) × Int)) (v : (List Int) × (List Bool) × (List Int) × (List Int) × (List Int)) : roundF (E28 k) (S28 k) Try.f28 p28_1 [] rec (n28_1 v.1 v.2.1 v.2.2.1 v.2.2.2.1 v.2.2.2.2) = spec_LeastPlay.s1 k (fun a0 a1 a2 a3 a4 => rec (n28_1 a0 a1 a2 a3 a4)) v.1 v.2.1 v.2.2.1 v.2.2.2.1 v.2.2.2.2 := by
  kernel_rfl
theorem q28_1 (k : Nat) (n : Nat) : ∀ v : (List Int) × (List Bool) × (List Int) × (List Int) × (List Int), loopF (E28 k) (S28 k) Try.f28 p28_1 [] n (n28_1 v.1 v.2.1 v.2.2.1 v.2.2.2.1 v.2.2.2.2) = spec_LeastPlay.l1 k n v.1 v.2.1 v.2.2.1 v.2.2.2.1 v.2.2.2.2 :=
  loopF_eq (E28 k) (S28 k) Try.f28 p28_1 [] (fun v : (List Int) × (List Bool) × (List Int) × (List Int) × (List Int) => n28_1 v.1 v.2.1 v.2.2.1 v.2.2.2.1 v.2.2.2.2) (fun rec v => spec_LeastPlay.s1 k (fun a0 a1 a2 a3 a4 => rec (a0, a1, a2, a3, a4)) v.1 v.2.1 v.2.2.1 v.2.2.2.1 v.2.2.2.2) (fun n v => spec_LeastPlay.l1 k n v.1 v.2.1 v.2.2.1 v.2.2.2.1 v.2.2.2.2) (fun _ => rfl) (fun _ _ => rfl) (fun rec v => r28_1 k rec v) n
theorem r28_0 (k : Nat) (rec : St → Option ((List Int) × (List Int) × Int)) (G1 : (List Int) → (List Bool) → (List Int) → (List Int) → (List Int) → Option ((List Int) × (List Int) × Int)) (h1 : ∀ a0 a1 a2 a3 a4, loopF (E28 k) (S28 k) Try.f28 p28_1 [] k (n28_1 a0 a1 a2 a3 a4) = G1 a0 a1 a2 a3 a4) (v : (List Int) × (List Bool) × (List Int) × (List Int) × (List Int) × Int × Int) : roundF (E28 k) (S28 k) Try.f28 p28_0 [] rec (n28_0 v.1 v.2.1 v.2.2.1 v.2.2.2.1 v.2.2.2.2.1 v.2.2.2.2.2.1 v.2.2.2.2.2.2) = spec_LeastPlay.s0 k (fun a0 a1 a2 a3 a4 a5 a6 => rec (n28_0 a0 a1 a2 a3 a4 a5 a6)) G1 v.1 v.2.1 v.2.2.1 v.2.2.2.1 v.2.2.2.2.1 v.2.2.2.2.2.1 v.2.2.2.2.2.2 := by
  obtain rfl : (fun a0 a1 a2 a3 a4 => loopF (E28 k) (S28 k) Try.f28 p28_1 [] k (n28_1 a0 a1 a2 a3 a4)) = G1 := funext fun a0 => funext fun a1 => funext fun a2 => funext fun a3 => funext fun a4 => h1 a0 a1 a2 a3 a4
  kernel_rfl
theorem q28_0 (k : Nat) (n : Nat) : ∀ v : (List Int) × (List Bool) × (List Int) × (List Int) × (List Int) × Int × Int, loopF (E28 k) (S28 k) Try.f28 p28_0 [] n (n28_0 v.1 v.2.1 v.2.2.1 v.2.2.2.1 v.2.2.2.2.1 v.2.2.2.2.2.1 v.2.2.2.2.2.2) = spec_LeastPlay.l0 k n v.1 v.2.1 v.2.2.1 v.2.2.2.1 v.2.2.2.2.1 v.2.2.2.2.2.1 v.2.2.2.2.2.2 :=
  loopF_eq (E28 k) (S28 k) Try.f28 p28_0 [] (fun v : (List Int) × (List Bool) × (List Int) × (List Int) × (List Int) × Int × Int => n28_0 v.1 v.2.1 v.2.2.1 v.2.2.2.1 v.2.2.2.2.1 v.2.2.2.2.2.1 v.2.2.2.2.2.2) (fun rec v => spec_LeastPlay.s0 k (fun a0 a1 a2 a3 a4 a5 a6 => rec (a0, a1, a2, a3, a4, a5, a6)) (spec_LeastPlay.l1 k k) v.1 v.2.1 v.2.2.1 v.2.2.2.1 v.2.2.2.2.1 v.2.2.2.2.2.1 v.2.2.2.2.2.2) (fun n v => spec_LeastPlay.l0 k n v.1 v.2.1 v.2.2.1 v.2.2.2.1 v.2.2.2.2.1 v.2.2.2.2.2.1 v.2.2.2.2.2.2) (fun _ => rfl) (fun _ _ => rfl) (fun rec v => r28_0 k rec _ (fun a0 a1 a2 a3 a4 => q28_1 k k (a0, a1, a2, a3, a4)) v) n
theorem e28 (k : Nat) (x : dens (flatC (S28 k).ps)) : funK (E28 k) (S28 k) Try.f28 x = (S28 k).fn x := by
  have h : funK (E28 k) (S28 k) Try.f28 x = spec_LeastPlay.g k (fun a0 a1 a2 a3 a4 a5 a6 => loopF (E28 k) (S28 k) Try.f28 p28_0 [] k (n28_0 a0 a1 a2 a3 a4 a5 a6)) x := by kernel_rfl
  rw [h]
  rw [show (fun a0 a1 a2 a3 a4 a5 a6 => loopF (E28 k) (S28 k) Try.f28 p28_0 [] k (n28_0 a0 a1 a2 a3 a4 a5 a6)) = spec_LeastPlay.l0 k k from funext fun a0 => funext fun a1 => funext fun a2 => funext fun a3 => funext fun a4 => funext fun a5 => funext fun a6 => q28_0 k k (a0, a1, a2, a3, a4, a5, a6)]
  rfl
theorem M28 (k : Nat) : Meets Try.prog 28 (S28 k) := meets_of Try.func28 (by kernel_rfl) tbOk (orc_cons (M52 k) (orc_cons (M53 k) (orc_cons (M67 k) (orc_cons (M58 k) (orc_cons (M68 k) (orc_cons (M63 k) orc_nil)))))) mixOk (fun x y h => (e28 k x).trans h) rfl

/-! impl_graph_full: function 70 -/
def impl_graph_full.f (k : Nat) (a0 : (List Int) × (List (List (Int × Int))) × (List Bool)) : Option (Int) := (impl_Tasks_states.f k a0.1).bind fun t1 => some (wrap64 (t1 - 1))
def S70 (k : Nat) : Does := ⟨[(false, [.dat (.ptr (.struct (.pair (.struct (.list (.int .i64))) (.pair (.list (.map (.int .i64) (.int .i64))) (.list .bool)))))])], [(false, [.dat (.int .i64)])], fun x => impl_graph_full.f k x⟩
def E70 (k : Nat) : En := ⟨tb, orcOf [(81, S81 k)], lvOf [], k, 0, lvOf [], []⟩
theorem e70 (k : Nat) (x : dens (flatC (S70 k).ps)) : funK (E70 k) (S70 k) Try.f70 x = (S70 k).fn x := by
  kernel_rfl
theorem M70 (k : Nat) : Meets Try.prog 70 (S70 k) := meets_of Try.func70 (by kernel_rfl) tbOk (orc_cons (M81 k) orc_nil) mixOk (fun x y h => (e70 k x).trans h) rfl

/-! impl_servable: function 69 -/
def impl_servable.f (k : Nat) (l0_0 : List Int) (a1 : Bool) : Option ((Option ((List Int) × (List (List (Int × Int))) × (List Bool))) × Int) := (impl_statesCode.f k l0_0 a1).bind fun t1 => if t1 = 0 then ((impl_graphOf.f k l0_0).bind fun t2 => (impl_graph_full.f k t2).bind fun t3 => if 0 ≤ t3 then (if t3 < (t2.2.2.length : Int) then (if (rdOf false t2.2.2 t3) = true then (some ((some t2), 0)) else (some (none, 4))) else (none)) else (none)) else (some (none, t1))
def S69 (k : Nat) : Does := ⟨[(true, [.dat (.list (.int .i64))]), (false, [.dat .bool])], [(false, [.dat (.optr (.struct (.pair (.struct (.list (.int .i64))) (.pair (.list (.map (.int .i64) (.int .i64))) (.list .bool)))))]), (false, [.dat (.int .i64)])], fun x => impl_servable.f k x.1 x.2⟩
def E69 (k : Nat) : En := ⟨tb, orcOf [(54, S54 k), (55, S55 k), (70, S70 k)], lvOf [], k, 0, lvOf [], []⟩
theorem e69 (k : Nat) (x : dens (flatC (S69 k).ps)) : funK (E69 k) (S69 k) Try.f69 x = (S69 k).fn x := by
  kernel_rfl
theorem M69 (k : Nat) : Meets Try.prog 69 (S69 k) := meets_of Try.func69 (by kernel_rfl) tbOk (orc_cons (M54 k) (orc_cons (M55 k) (orc_cons (M70 k) orc_nil))) mixOk (fun x y h => (e69 k x).trans h) rfl

/-! impl_LeastPlay: function 29 -/
def impl_LeastPlay.s0 (k : Nat) (r0 : (Option ((List Int) × (List (List (Int × Int))) × (List Bool))) → (List (Int × Int)) → (List Int) → Int → Option ((List Int) × (List Int) × Int)) (x5 : Option ((List Int) × (List (List (Int × Int))) × (List Bool))) (x7 : List (Int × Int)) (x8 : List Int) (x9 : Int) : Option ((List Int) × (List Int) × Int) := if (mgI x7 x9).isSome = true then (if 0 ≤ ((mgI x7 x9).getD 0) then (if ((mgI x7 x9).getD 0) ≤ (x8.length : Int) then ((slices_Clone_int64_int64.f (x8.take ((mgI x7 x9).getD 0).toNat)).bind fun t4 => if 0 ≤ ((mgI x7 x9).getD 0) then (if ((mgI x7 x9).getD 0) ≤ (x8.length : Int) then (if (x8.length : Int) ≤ (x8.length : Int) then ((slices_Clone_int64_int64.f ((x8.take (x8.length : Int).toNat).drop ((mgI x7 x9).getD 0).toNat)).bind fun t5 => some (t4, t5, 0)) else (none)) else (none)) else (none)) else (none)) else (none)) else ((x5).bind fun u6 => (impl_graph_keeping.f k u6 x9).bind fun t7 => if 0 < (t7.length : Int) then (if x8.length + 1 ≤ 1099511627776 then ((x5).bind fun u8 => if 0 ≤ x9 then (if x9 < (u8.2.1.length : Int) then (r0 x5 (mpI x7 x9 (x8.length : Int)) (x8 ++ [(rd t7 0)]) ((mgI (rdOf ([] : List (Int × Int)) u8.2.1 x9) (rd t7 0)).getD 0)) else (none)) else (none)) else (none)) else (none))
def impl_LeastPlay.l0 (k : Nat) : Nat → (Option ((List Int) × (List (List (Int × Int))) × (List Bool))) → (List (Int × Int)) → (List Int) → Int → Option ((List Int) × (List Int) × Int)
  | 0, _, _, _, _ => none
  | n + 1, x0, x1, x2, x3 => impl_LeastPlay.s0 k (impl_LeastPlay.l0 k n) x0 x1 x2 x3
def impl_LeastPlay.g (k : Nat) (r0 : (Option ((List Int) × (List (List (Int × Int))) × (List Bool))) → (List (Int × Int)) → (List Int) → Int → Option ((List Int) × (List Int) × Int)) (l0_0 : List Int) : Option ((List Int) × (List Int) × Int) := (impl_servable.f k l0_0 true).bind fun t1 => if t1.2 = 0 then ((t1.1).bind fun u2 => (impl_graph_full.f k u2).bind fun t3 => r0 t1.1 [] [] t3) else (some ([], [], t1.2))
def impl_LeastPlay.f (k : Nat) (l0_0 : List Int) : Option ((List Int) × (List Int) × Int) := impl_LeastPlay.g k (impl_LeastPlay.l0 k k) l0_0
def S29 (k : Nat) : Does := ⟨[(true, [.dat (.list (.int .i64))])], [(false, [.own 2 (.int .i64)]), (false, [.own 2 (.int .i64)]), (false, [.dat (.int .i64)])], fun x => impl_LeastPlay.f k x⟩
def E29 (k : Nat) : En := ⟨tb, orcOf [(69, S69 k), (70, S70 k), (71, S71 k), (72, S72 k)], lvOf [(0, [(5, []), (7, []), (8, [.nil 2 (.int .i64)]), (9, [])])], k, 0, lvOf [(9, [(8, [.data (.int .i64)])])], []⟩
def n29_0 (x5 : Option ((List Int) × (List (List (Int × Int))) × (List Bool))) (x7 : List (Int × Int)) (x8 : List Int) (x9 : Int) : St := ⟨61, lookA [(5, .dat (.optr (.struct (.pair (.struct (.list (.int .i64))) (.pair (.list (.map (.int .i64) (.int .i64))) (.list .bool))))) x5), (7, .om 0), (8, .own 1), (9, .dat (.int .i64) x9)], Go.V.look [(0, .mp (.int .i64) (.int .i64) x7), (1, .flat 2 (.int .i64) x8)]⟩
def p29_0 : List Bool := [true, true, true, true, true, true, false]
theorem r29_0 (k : Nat) (rec : St → Option ((List Int) × (List Int) × Int)) (v : (Option ((List Int) × (List (List (Int × Int))) × (List Bool))) × (List (Int × Int)) × (List Int) × Int) : roundF (E29 k) (S29 k) Try.f29 p29_0 [] rec (n29_0 v.1 v.2.1 v.2.2.1 v.2.2.2) = impl_LeastPlay.s0 k (fun a0 a1 a2 a3 => rec (n29_0 a0 a1 a2 a3)) v.1 v.2.1 v.2.2.1 v.2.2.2 := by
  kernel_rfl
theorem q29_0 (k : Nat) (n : Nat) : ∀ v : (Option ((List Int) × (List (List (Int × Int))) × (List Bool))) × (List (Int × Int)) × (List Int) × Int, loopF (E29 k) (S29 k) Try.f29 p29_0 [] n (n29_0 v.1 v.2.1 v.2.2.1 v.2.2.2) = impl_LeastPlay.l0 k n v.1 v.2.1 v.2.2.1 v.2.2.2 :=
  loopF_eq (E29 k) (S29 k) Try.f29 p29_0 [] (fun v : (Option ((List Int) × (List (List (Int × Int))) × (List Bool))) × (List (Int × Int)) × (List Int) × Int => n29_0 v.1 v.2.1 v.2.2.1 v.2.2.2) (fun rec v => impl_LeastPlay.s0 k (fun a0 a1 a2 a3 => rec (a0, a1, a2, a3)) v.1 v.2.1 v.2.2.1 v.2.2.2) (fun n v => impl_LeastPlay.l0 k n v.1 v.2.1 v.2.2.1 v.2.2.2) (fun _ => rfl) (fun _ _ => rfl) (fun rec v => r29_0 k rec v) n
theorem e29 (k : Nat) (x : dens (flatC (S29 k).ps)) : funK (E29 k) (S29 k) Try.f29 x = (S29 k).fn x := by
  have h : funK (E29 k) (S29 k) Try.f29 x = impl_LeastPlay.g k (fun a0 a1 a2 a3 => loopF (E29 k) (S29 k) Try.f29 p29_0 [] k (n29_0 a0 a1 a2 a3)) x := by kernel_rfl
  rw [h]
  rw [show (fun a0 a1 a2 a3 => loopF (E29 k) (S29 k) Try.f29 p29_0 [] k (n29_0 a0 a1 a2 a3)) = impl_LeastPlay.l0 k k from funext fun a0 => funext fun a1 => funext fun a2 => funext fun a3 => q29_0 k k (a0, a1, a2, a3)]
  rfl
theorem M29 (k : Nat) : Meets Try.prog 29 (S29 k) := meets_of Try.func29 (by kernel_rfl) tbOk (orc_cons (M69 k) (orc_cons (M70 k) (orc_cons (M71 k) (orc_cons (M72 k) orc_nil)))) mixOk (fun x y h => (e29 k x).trans h) rfl

/-! laws_markInt64S: function 31 -/
def laws_markInt64S.s0 (k : Nat) (r0 : (List Int) → Int → Int → Option (Int × (List Int))) (x0 : List Int) (x1 : Int) (x5 : Int) : Option (Int × (List Int)) := if x5 < (x0.length : Int) then (if 0 ≤ x5 then (if x5 < (x0.length : Int) then (r0 (x0.set x5.toNat x1) (wrap64 (x1 + 1)) (wrap64 (x5 + 1))) else (none)) else (none)) else (some (x1, x0))
def laws_markInt64S.l0 (k : Nat) : Nat → (List Int) → Int → Int → Option (Int × (List Int))
  | 0, _, _, _ => none
  | n + 1, x0, x1, x2 => laws_markInt64S.s0 k (laws_markInt64S.l0 k n) x0 x1 x2
def laws_markInt64S.g (k : Nat) (r0 : (List Int) → Int → Int → Option (Int × (List Int))) (l0 : List Int) (a1 : Int) : Option (Int × (List Int)) := r0 l0 a1 0
def laws_markInt64S.f (k : Nat) (l0 : List Int) (a1 : Int) : Option (Int × (List Int)) := laws_markInt64S.g k (laws_markInt64S.l0 k k) l0 a1
def S31 (k : Nat) : Does := ⟨[(false, [.own 2 (.int .i64)]), (false, [.dat (.int .i64)])], [(false, [.dat (.int .i64)])], fun x => laws_markInt64S.f k x.1 x.2⟩
def E31 (k : Nat) : En := ⟨tb, orcOf [], lvOf [(0, [(0, []), (1, []), (5, [])])], k, 1, lvOf [], []⟩
def n31_0 (x0 : List Int) (x1 : Int) (x5 : Int) : St := ⟨19, lookA [(0, .own 0), (1, .dat (.int .i64) x1), (5, .dat (.int .i64) x5)], Go.V.look [(0, .flat 2 (.int .i64) x0)]⟩
def p31_0 : List Bool := [true, false, true, false]
theorem r31_0 (k : Nat) (rec : St → Option (Int × (List Int))) (v : (List Int) × Int × Int) : roundF (E31 k) (S31 k) Try.f31 p31_0 [] rec (n31_0 v.1 v.2.1 v.2.2) = laws_markInt64S.s0 k (fun a0 a1 a2 => rec (n31_0 a0 a1 a2)) v.1 v.2.1 v.2.2 := by
  kernel_rfl
theorem q31_0 (k : Nat) (n : Nat) : ∀ v : (List Int) × Int × Int, loopF (E31 k) (S31 k) Try.f31 p31_0 [] n (n31_0 v.1 v.2.1 v.2.2) = laws_markInt64S.l0 k n v.1 v.2.1 v.2.2 :=
  loopF_eq (E31 k) (S31 k) Try.f31 p31_0 [] (fun v : (List Int) × Int × Int => n31_0 v.1 v.2.1 v.2.2) (fun rec v => laws_markInt64S.s0 k (fun a0 a1 a2 => rec (a0, a1, a2)) v.1 v.2.1 v.2.2) (fun n v => laws_markInt64S.l0 k n v.1 v.2.1 v.2.2) (fun _ => rfl) (fun _ _ => rfl) (fun rec v => r31_0 k rec v) n
theorem e31 (k : Nat) (x : dens (flatC (S31 k).ps)) : funK (E31 k) (S31 k) Try.f31 x = (S31 k).fn x := by
  have h : funK (E31 k) (S31 k) Try.f31 x = laws_markInt64S.g k (fun a0 a1 a2 => loopF (E31 k) (S31 k) Try.f31 p31_0 [] k (n31_0 a0 a1 a2)) x.1 x.2 := by kernel_rfl
  rw [h]
  rw [show (fun a0 a1 a2 => loopF (E31 k) (S31 k) Try.f31 p31_0 [] k (n31_0 a0 a1 a2)) = laws_markInt64S.l0 k k from funext fun a0 => funext fun a1 => funext fun a2 => q31_0 k k (a0, a1, a2)]
  rfl
theorem M31 (k : Nat) : Meets Try.prog 31 (S31 k) := meets_of Try.func31 (by kernel_rfl) tbOk orc_nil mixOk (fun x y h => (e31 k x).trans h) rfl

/-! laws_markTasks: function 30 -/
def laws_markTasks.f (k : Nat) (l0_0 : List Int) (a1 : Int) : Option (Int × (List Int)) := (laws_markInt64S.f k l0_0 a1).bind fun t1 => some (t1.1, t1.2)
def S30 (k : Nat) : Does := ⟨[(true, [.own 2 (.int .i64)]), (false, [.dat (.int .i64)])], [(false, [.dat (.int .i64)])], fun x => laws_markTasks.f k x.1 x.2⟩
def E30 (k : Nat) : En := ⟨tb, orcOf [(31, S31 k)], lvOf [], k, 1, lvOf [], []⟩
theorem e30 (k : Nat) (x : dens (flatC (S30 k).ps)) : funK (E30 k) (S30 k) Try.f30 x = (S30 k).fn x := by
  kernel_rfl
theorem M30 (k : Nat) : Meets Try.prog 30 (S30 k) := meets_of Try.func30 (by kernel_rfl) tbOk (orc_cons (M31 k) orc_nil) mixOk (fun x y h => (e30 k x).trans h) rfl

/-! laws_heldInt64S: function 32 -/
def laws_heldInt64S.s0 (k : Nat) (r0 : (List Int) → Int → Int → Option (Int)) (x0 : List Int) (x1 : Int) (x5 : Int) : Option (Int) := if x5 < (x0.length : Int) then (if 0 ≤ x5 then (if x5 < (x0.length : Int) then (if (rd x0 x5) = x1 then (r0 x0 (wrap64 (x1 + 1)) (wrap64 (x5 + 1))) else (some (-1))) else (none)) else (none)) else (some x1)
def laws_heldInt64S.l0 (k : Nat) : Nat → (List Int) → Int → Int → Option (Int)
  | 0, _, _, _ => none
  | n + 1, x0, x1, x2 => laws_heldInt64S.s0 k (laws_heldInt64S.l0 k n) x0 x1 x2
def laws_heldInt64S.g (k : Nat) (r0 : (List Int) → Int → Int → Option (Int)) (l0 : List Int) (a1 : Int) : Option (Int) := r0 l0 a1 0
def laws_heldInt64S.f (k : Nat) (l0 : List Int) (a1 : Int) : Option (Int) := laws_heldInt64S.g k (laws_heldInt64S.l0 k k) l0 a1
def S32 (k : Nat) : Does := ⟨[(false, [.dat (.list (.int .i64))]), (false, [.dat (.int .i64)])], [(false, [.dat (.int .i64)])], fun x => laws_heldInt64S.f k x.1 x.2⟩
def E32 (k : Nat) : En := ⟨tb, orcOf [], lvOf [(0, [(0, []), (1, []), (5, [])])], k, 0, lvOf [], []⟩
def n32_0 (x0 : List Int) (x1 : Int) (x5 : Int) : St := ⟨21, lookA [(0, .dat (.list (.int .i64)) x0), (1, .dat (.int .i64) x1), (5, .dat (.int .i64) x5)], Go.V.look []⟩
def p32_0 : List Bool := [true, false, true, false]
theorem r32_0 (k : Nat) (rec : St → Option (Int)) (v : (List Int) × Int × Int) : roundF (E32 k) (S32 k) Try.f32 p32_0 [] rec (n32_0 v.1 v.2.1 v.2.2) = laws_heldInt64S.s0 k (fun a0 a1 a2 => rec (n32_0 a0 a1 a2)) v.1 v.2.1 v.2.2 := by
  kernel_rfl
theorem q32_0 (k : Nat) (n : Nat) : ∀ v : (List Int) × Int × Int, loopF (E32 k) (S32 k) Try.f32 p32_0 [] n (n32_0 v.1 v.2.1 v.2.2) = laws_heldInt64S.l0 k n v.1 v.2.1 v.2.2 :=
  loopF_eq (E32 k) (S32 k) Try.f32 p32_0 [] (fun v : (List Int) × Int × Int => n32_0 v.1 v.2.1 v.2.2) (fun rec v => laws_heldInt64S.s0 k (fun a0 a1 a2 => rec (a0, a1, a2)) v.1 v.2.1 v.2.2) (fun n v => laws_heldInt64S.l0 k n v.1 v.2.1 v.2.2) (fun _ => rfl) (fun _ _ => rfl) (fun rec v => r32_0 k rec v) n
theorem e32 (k : Nat) (x : dens (flatC (S32 k).ps)) : funK (E32 k) (S32 k) Try.f32 x = (S32 k).fn x := by
  have h : funK (E32 k) (S32 k) Try.f32 x = laws_heldInt64S.g k (fun a0 a1 a2 => loopF (E32 k) (S32 k) Try.f32 p32_0 [] k (n32_0 a0 a1 a2)) x.1 x.2 := by kernel_rfl
  rw [h]
  rw [show (fun a0 a1 a2 => loopF (E32 k) (S32 k) Try.f32 p32_0 [] k (n32_0 a0 a1 a2)) = laws_heldInt64S.l0 k k from funext fun a0 => funext fun a1 => funext fun a2 => q32_0 k k (a0, a1, a2)]
  rfl
theorem M32 (k : Nat) : Meets Try.prog 32 (S32 k) := meets_of Try.func32 (by kernel_rfl) tbOk orc_nil mixOk (fun x y h => (e32 k x).trans h) rfl

/-! laws_FnExactLeastPlay: function 7 -/
def laws_FnExactLeastPlay.f (k : Nat) (l0_0 : List Int) : Option (Bool) := (laws_szTasks.f l0_0 1048576).bind fun t1 => if t1 < 0 then (some true) else ((laws_toTasks.f k l0_0).bind fun t2 => (spec_LeastPlay.f k t2).bind fun t3 => (laws_toTasks.f k l0_0).bind fun t4 => (impl_LeastPlay.f k t4).bind fun t5 => (laws_eqInt64S.f k t5.1 t3.1).bind fun t6 => if t6 = true then ((laws_eqInt64S.f k t5.2.1 t3.2.1).bind fun t7 => if t7 = true then (if t5.2.2 = t3.2.2 then ((laws_toTasks.f k l0_0).bind fun t8 => (laws_eqTasks.f k t4 t8).bind fun t9 => if t9 = true then ((laws_markTasks.f k t4 1).bind fun t10 => if t10.1 < 0 then (some false) else ((laws_eqInt64S.f k t5.1 t3.1).bind fun t11 => if t11 = true then ((laws_eqInt64S.f k t5.2.1 t3.2.1).bind fun t12 => if t12 = true then (if t5.2.2 = t3.2.2 then ((laws_markInt64S.f k t5.1 1).bind fun t13 => (laws_markInt64S.f k t5.2.1 t13.1).bind fun t14 => (laws_heldInt64S.f k t13.2 1).bind fun t15 => if t15 < 0 then (some false) else ((laws_heldInt64S.f k t14.2 t15).bind fun t16 => if t16 < 0 then (some false) else (if t16 = t14.1 then ((laws_toTasks.f k l0_0).bind fun t17 => (impl_LeastPlay.f k t17).bind fun t18 => (laws_eqInt64S.f k t18.1 t3.1).bind fun t19 => if t19 = true then ((laws_eqInt64S.f k t18.2.1 t3.2.1).bind fun t20 => if t20 = true then (if t18.2.2 = t3.2.2 then ((laws_heldInt64S.f k t13.2 1).bind fun t21 => if t21 < 0 then (some false) else ((laws_heldInt64S.f k t14.2 t21).bind fun t22 => if t22 < 0 then (some false) else (if t22 = t14.1 then (some true) else (some false)))) else (some false)) else (some false)) else (some false)) else (some false)))) else (some false)) else (some false)) else (some false))) else (some false)) else (some false)) else (some false)) else (some false))
def S7 (k : Nat) : Does := ⟨[(true, [.dat (.list (.int .i64))])], [(false, [.dat .bool])], fun x => laws_FnExactLeastPlay.f k x⟩
def E7 (k : Nat) : En := ⟨tb, orcOf [(15, S15 k), (17, S17 k), (28, S28 k), (29, S29 k), (25, S25 k), (19, S19 k), (30, S30 k), (31, S31 k), (32, S32 k)], lvOf [], k, 0, lvOf [], []⟩
theorem e7 (k : Nat) (x : dens (flatC (S7 k).ps)) : funK (E7 k) (S7 k) Try.f7 x = (S7 k).fn x := by
  kernel_rfl
theorem M7 (k : Nat) : Meets Try.prog 7 (S7 k) := meets_of Try.func7 (by kernel_rfl) tbOk (orc_cons (M15 k) (orc_cons (M17 k) (orc_cons (M28 k) (orc_cons (M29 k) (orc_cons (M25 k) (orc_cons (M19 k) (orc_cons (M30 k) (orc_cons (M31 k) (orc_cons (M32 k) orc_nil))))))))) mixOk (fun x y h => (e7 k x).trans h) rfl

/-! spec_KeepingChoices: function 33 -/
def spec_KeepingChoices.f (k : Nat) (l0_0 : List Int) (l1 : List Int) : Option ((List Int) × Int) := (spec_l02Given.f k l0_0 l1).bind fun t1 => if t1 = 0 then ((spec_l02Lasting.f k l0_0).bind fun t2 => (spec_l02Number.f k l0_0 l1).bind fun t3 => if 0 ≤ t3 then (if t3 < (t2.length : Int) then (if (rdOf false t2 t3) = true then ((spec_l02Keeping.f k l0_0 t2 l1).bind fun t4 => some (t4, 0)) else (some ([], 5))) else (none)) else (none)) else (some ([], t1))
def S33 (k : Nat) : Does := ⟨[(true, [.dat (.list (.int .i64))]), (false, [.dat (.list (.int .i64))])], [(false, [.own 2 (.int .i64)]), (false, [.dat (.int .i64)])], fun x => spec_KeepingChoices.f k x.1 x.2⟩
def E33 (k : Nat) : En := ⟨tb, orcOf [(57, S57 k), (53, S53 k), (58, S58 k), (68, S68 k)], lvOf [], k, 0, lvOf [], []⟩
theorem e33 (k : Nat) (x : dens (flatC (S33 k).ps)) : funK (E33 k) (S33 k) Try.f33 x = (S33 k).fn x := by
  kernel_rfl
theorem M33 (k : Nat) : Meets Try.prog 33 (S33 k) := meets_of Try.func33 (by kernel_rfl) tbOk (orc_cons (M57 k) (orc_cons (M53 k) (orc_cons (M58 k) (orc_cons (M68 k) orc_nil)))) mixOk (fun x y h => (e33 k x).trans h) rfl

/-! impl_KeepingChoices: function 34 -/
def impl_KeepingChoices.f (k : Nat) (l0_0 : List Int) (l1 : List Int) : Option ((List Int) × Int) := (impl_Tasks_isState.f k l0_0 l1).bind fun t1 => (impl_statesCode.f k l0_0 t1).bind fun t2 => if t2 = 0 then ((impl_graphOf.f k l0_0).bind fun t3 => (impl_Tasks_number.f k l0_0 l1).bind fun t4 => if 0 ≤ t4 then (if t4 < (t3.2.2.length : Int) then (if (rdOf false t3.2.2 t4) = true then ((impl_Tasks_number.f k l0_0 l1).bind fun t5 => (impl_graph_keeping.f k t3 t5).bind fun t6 => some (t6, 0)) else (some ([], 5))) else (none)) else (none)) else (some ([], t2))
def S34 (k : Nat) : Does := ⟨[(true, [.dat (.list (.int .i64))]), (false, [.dat (.list (.int .i64))])], [(false, [.own 2 (.int .i64)]), (false, [.dat (.int .i64)])], fun x => impl_KeepingChoices.f k x.1 x.2⟩
def E34 (k : Nat) : En := ⟨tb, orcOf [(59, S59 k), (54, S54 k), (55, S55 k), (60, S60 k), (72, S72 k)], lvOf [], k, 0, lvOf [], []⟩
theorem e34 (k : Nat) (x : dens (flatC (S34 k).ps)) : funK (E34 k) (S34 k) Try.f34 x = (S34 k).fn x := by
  kernel_rfl
theorem M34 (k : Nat) : Meets Try.prog 34 (S34 k) := meets_of Try.func34 (by kernel_rfl) tbOk (orc_cons (M59 k) (orc_cons (M54 k) (orc_cons (M55 k) (orc_cons (M60 k) (orc_cons (M72 k) orc_nil))))) mixOk (fun x y h => (e34 k x).trans h) rfl

/-! laws_FnExactKeepingChoices: function 8 -/
def laws_FnExactKeepingChoices.f (k : Nat) (l0_0 : List Int) (l1 : List Int) : Option (Bool) := if 1048576 < (l1.length : Int) then (some true) else ((laws_szTasks.f l0_0 1048576).bind fun t1 => if t1 < 0 then (some true) else ((laws_toTasks.f k l0_0).bind fun t2 => (laws_toInt64S.f k l1).bind fun t3 => (spec_KeepingChoices.f k t2 t3).bind fun t4 => (laws_toTasks.f k l0_0).bind fun t5 => (laws_toInt64S.f k l1).bind fun t6 => (impl_KeepingChoices.f k t5 t6).bind fun t7 => (laws_eqInt64S.f k t7.1 t4.1).bind fun t8 => if t8 = true then (if t7.2 = t4.2 then ((laws_toTasks.f k l0_0).bind fun t9 => (laws_eqTasks.f k t5 t9).bind fun t10 => if t10 = true then ((laws_toInt64S.f k l1).bind fun t11 => (laws_eqInt64S.f k t6 t11).bind fun t12 => if t12 = true then ((laws_markTasks.f k t5 1).bind fun t13 => (laws_markInt64S.f k t6 t13.1).bind fun t14 => if t14.1 < 0 then (some false) else ((laws_eqInt64S.f k t7.1 t4.1).bind fun t15 => if t15 = true then (if t7.2 = t4.2 then ((laws_markInt64S.f k t7.1 1).bind fun t16 => (laws_heldInt64S.f k t16.2 1).bind fun t17 => if t17 < 0 then (some false) else (if t17 = t16.1 then ((laws_toTasks.f k l0_0).bind fun t18 => (laws_toInt64S.f k l1).bind fun t19 => (impl_KeepingChoices.f k t18 t19).bind fun t20 => (laws_eqInt64S.f k t20.1 t4.1).bind fun t21 => if t21 = true then (if t20.2 = t4.2 then ((laws_heldInt64S.f k t16.2 1).bind fun t22 => if t22 < 0 then (some false) else (if t22 = t16.1 then (some true) else (some false))) else (some false)) else (some false)) else (some false))) else (some false)) else (some false))) else (some false)) else (some false)) else (some false)) else (some false)))
def S8 (k : Nat) : Does := ⟨[(true, [.dat (.list (.int .i64))]), (false, [.dat (.list (.int .i64))])], [(false, [.dat .bool])], fun x => laws_FnExactKeepingChoices.f k x.1 x.2⟩
def E8 (k : Nat) : En := ⟨tb, orcOf [(15, S15 k), (17, S17 k), (23, S23 k), (33, S33 k), (34, S34 k), (25, S25 k), (19, S19 k), (30, S30 k), (31, S31 k), (32, S32 k)], lvOf [], k, 0, lvOf [], []⟩
theorem e8 (k : Nat) (x : dens (flatC (S8 k).ps)) : funK (E8 k) (S8 k) Try.f8 x = (S8 k).fn x := by
  kernel_rfl
theorem M8 (k : Nat) : Meets Try.prog 8 (S8 k) := meets_of Try.func8 (by kernel_rfl) tbOk (orc_cons (M15 k) (orc_cons (M17 k) (orc_cons (M23 k) (orc_cons (M33 k) (orc_cons (M34 k) (orc_cons (M25 k) (orc_cons (M19 k) (orc_cons (M30 k) (orc_cons (M31 k) (orc_cons (M32 k) orc_nil)))))))))) mixOk (fun x y h => (e8 k x).trans h) rfl

/-! laws_szGarden: function 35 -/
def laws_szGarden.f (l0_0 : List Int) (a1 : Int) : Option (Int) := (laws_szInt64S.f l0_0 a1).bind fun t1 => if t1 < 0 then (some (-1)) else (some t1)
def S35 (k : Nat) : Does := ⟨[(true, [.dat (.list (.int .i64))]), (false, [.dat (.int .i64)])], [(false, [.dat (.int .i64)])], fun x => laws_szGarden.f x.1 x.2⟩
def E35 (k : Nat) : En := ⟨tb, orcOf [(51, S51 k)], lvOf [], k, 0, lvOf [], []⟩
theorem e35 (k : Nat) (x : dens (flatC (S35 k).ps)) : funK (E35 k) (S35 k) Try.f35 x = (S35 k).fn x := by
  kernel_rfl
theorem M35 (k : Nat) : Meets Try.prog 35 (S35 k) := meets_of Try.func35 (by kernel_rfl) tbOk (orc_cons (M51 k) orc_nil) mixOk (fun x y h => (e35 k x).trans h) rfl

/-! laws_toGarden: function 37 -/
def laws_toGarden.f (k : Nat) (l0_0 : List Int) : Option ((List Int)) := (laws_toInt64S.f k l0_0).bind fun t1 => some t1
def S37 (k : Nat) : Does := ⟨[(true, [.dat (.list (.int .i64))])], [(true, [.own 2 (.int .i64)])], fun x => laws_toGarden.f k x⟩
def E37 (k : Nat) : En := ⟨tb, orcOf [(23, S23 k)], lvOf [], k, 0, lvOf [], []⟩
theorem e37 (k : Nat) (x : dens (flatC (S37 k).ps)) : funK (E37 k) (S37 k) Try.f37 x = (S37 k).fn x := by
  kernel_rfl
theorem M37 (k : Nat) : Meets Try.prog 37 (S37 k) := meets_of Try.func37 (by kernel_rfl) tbOk (orc_cons (M23 k) orc_nil) mixOk (fun x y h => (e37 k x).trans h) rfl

/-! spec_l06Is: function 73 -/
def spec_l06Is.s0 (k : Nat) (r0 : (List Int) → Int → Option (Bool)) (x1_0 : List Int) (x3 : Int) : Option (Bool) := if x3 < (x1_0.length : Int) then (if 0 ≤ x3 then (if x3 < (x1_0.length : Int) then ((spec_l01In.f (rd x1_0 x3) 1 20).bind fun t1 => if t1 = true then (r0 x1_0 (wrap64 (x3 + 1))) else (some false)) else (none)) else (none)) else (if 0 < (x1_0.length : Int) then (some (decide ((x1_0.length : Int) ≤ 8))) else (some false))
def spec_l06Is.l0 (k : Nat) : Nat → (List Int) → Int → Option (Bool)
  | 0, _, _ => none
  | n + 1, x0, x1 => spec_l06Is.s0 k (spec_l06Is.l0 k n) x0 x1
def spec_l06Is.g (k : Nat) (r0 : (List Int) → Int → Option (Bool)) (l0_0 : List Int) : Option (Bool) := r0 l0_0 0
def spec_l06Is.f (k : Nat) (l0_0 : List Int) : Option (Bool) := spec_l06Is.g k (spec_l06Is.l0 k k) l0_0
def S73 (k : Nat) : Does := ⟨[(true, [.dat (.list (.int .i64))])], [(false, [.dat .bool])], fun x => spec_l06Is.f k x⟩
def E73 (k : Nat) : En := ⟨tb, orcOf [(89, S89 k)], lvOf [(0, [(1, []), (3, [])])], k, 0, lvOf [], []⟩
def n73_0 (x1_0 : List Int) (x3 : Int) : St := ⟨28, lookA [(1, .box 0 0), (3, .dat (.int .i64) x3)], Go.V.look [(0, .cells [.dat (.list (.int .i64)) x1_0])]⟩
def p73_0 : List Bool := [true, false, true, false]
theorem r73_0 (k : Nat) (rec : St → Option (Bool)) (v : (List Int) × Int) : roundF (E73 k) (S73 k) Try.f73 p73_0 [] rec (n73_0 v.1 v.2) = spec_l06Is.s0 k (fun a0 a1 => rec (n73_0 a0 a1)) v.1 v.2 := by
  kernel_rfl
theorem q73_0 (k : Nat) (n : Nat) : ∀ v : (List Int) × Int, loopF (E73 k) (S73 k) Try.f73 p73_0 [] n (n73_0 v.1 v.2) = spec_l06Is.l0 k n v.1 v.2 :=
  loopF_eq (E73 k) (S73 k) Try.f73 p73_0 [] (fun v : (List Int) × Int => n73_0 v.1 v.2) (fun rec v => spec_l06Is.s0 k (fun a0 a1 => rec (a0, a1)) v.1 v.2) (fun n v => spec_l06Is.l0 k n v.1 v.2) (fun _ => rfl) (fun _ _ => rfl) (fun rec v => r73_0 k rec v) n
theorem e73 (k : Nat) (x : dens (flatC (S73 k).ps)) : funK (E73 k) (S73 k) Try.f73 x = (S73 k).fn x := by
  have h : funK (E73 k) (S73 k) Try.f73 x = spec_l06Is.g k (fun a0 a1 => loopF (E73 k) (S73 k) Try.f73 p73_0 [] k (n73_0 a0 a1)) x := by kernel_rfl
  rw [h]
  rw [show (fun a0 a1 => loopF (E73 k) (S73 k) Try.f73 p73_0 [] k (n73_0 a0 a1)) = spec_l06Is.l0 k k from funext fun a0 => funext fun a1 => q73_0 k k (a0, a1)]
  rfl
theorem M73 (k : Nat) : Meets Try.prog 73 (S73 k) := meets_of Try.func73 (by kernel_rfl) tbOk (orc_cons (M89 k) orc_nil) mixOk (fun x y h => (e73 k x).trans h) rfl

/-! spec_l06Sum: function 74 -/
def spec_l06Sum.s0 (k : Nat) (r0 : (List Int) → Int → Int → Int → Option (Int × Int)) (x1_0 : List Int) (x4 : Int) (x5 : Int) (x6 : Int) : Option (Int × Int) := if x6 < (x1_0.length : Int) then (if 0 ≤ x6 then (if x6 < (x1_0.length : Int) then (if 0 ≤ x6 then (if x6 < (x1_0.length : Int) then (r0 x1_0 (wrap64 (x4 + (rd x1_0 x6))) (maxV x5 (rd x1_0 x6)) (wrap64 (x6 + 1))) else (none)) else (none)) else (none)) else (none)) else (some (x4, x5))
def spec_l06Sum.l0 (k : Nat) : Nat → (List Int) → Int → Int → Int → Option (Int × Int)
  | 0, _, _, _, _ => none
  | n + 1, x0, x1, x2, x3 => spec_l06Sum.s0 k (spec_l06Sum.l0 k n) x0 x1 x2 x3
def spec_l06Sum.g (k : Nat) (r0 : (List Int) → Int → Int → Int → Option (Int × Int)) (l0_0 : List Int) : Option (Int × Int) := r0 l0_0 0 0 0
def spec_l06Sum.f (k : Nat) (l0_0 : List Int) : Option (Int × Int) := spec_l06Sum.g k (spec_l06Sum.l0 k k) l0_0
def S74 (k : Nat) : Does := ⟨[(true, [.dat (.list (.int .i64))])], [(false, [.dat (.int .i64)]), (false, [.dat (.int .i64)])], fun x => spec_l06Sum.f k x⟩
def E74 (k : Nat) : En := ⟨tb, orcOf [], lvOf [(0, [(1, []), (4, []), (5, []), (6, [])])], k, 0, lvOf [], []⟩
def n74_0 (x1_0 : List Int) (x4 : Int) (x5 : Int) (x6 : Int) : St := ⟨30, lookA [(1, .box 0 0), (4, .dat (.int .i64) x4), (5, .dat (.int .i64) x5), (6, .dat (.int .i64) x6)], Go.V.look [(0, .cells [.dat (.list (.int .i64)) x1_0])]⟩
def p74_0 : List Bool := [true, true, false, true, false]
theorem r74_0 (k : Nat) (rec : St → Option (Int × Int)) (v : (List Int) × Int × Int × Int) : roundF (E74 k) (S74 k) Try.f74 p74_0 [] rec (n74_0 v.1 v.2.1 v.2.2.1 v.2.2.2) = spec_l06Sum.s0 k (fun a0 a1 a2 a3 => rec (n74_0 a0 a1 a2 a3)) v.1 v.2.1 v.2.2.1 v.2.2.2 := by
  kernel_rfl
theorem q74_0 (k : Nat) (n : Nat) : ∀ v : (List Int) × Int × Int × Int, loopF (E74 k) (S74 k) Try.f74 p74_0 [] n (n74_0 v.1 v.2.1 v.2.2.1 v.2.2.2) = spec_l06Sum.l0 k n v.1 v.2.1 v.2.2.1 v.2.2.2 :=
  loopF_eq (E74 k) (S74 k) Try.f74 p74_0 [] (fun v : (List Int) × Int × Int × Int => n74_0 v.1 v.2.1 v.2.2.1 v.2.2.2) (fun rec v => spec_l06Sum.s0 k (fun a0 a1 a2 a3 => rec (a0, a1, a2, a3)) v.1 v.2.1 v.2.2.1 v.2.2.2) (fun n v => spec_l06Sum.l0 k n v.1 v.2.1 v.2.2.1 v.2.2.2) (fun _ => rfl) (fun _ _ => rfl) (fun rec v => r74_0 k rec v) n
theorem e74 (k : Nat) (x : dens (flatC (S74 k).ps)) : funK (E74 k) (S74 k) Try.f74 x = (S74 k).fn x := by
  have h : funK (E74 k) (S74 k) Try.f74 x = spec_l06Sum.g k (fun a0 a1 a2 a3 => loopF (E74 k) (S74 k) Try.f74 p74_0 [] k (n74_0 a0 a1 a2 a3)) x := by kernel_rfl
  rw [h]
  rw [show (fun a0 a1 a2 a3 => loopF (E74 k) (S74 k) Try.f74 p74_0 [] k (n74_0 a0 a1 a2 a3)) = spec_l06Sum.l0 k k from funext fun a0 => funext fun a1 => funext fun a2 => funext fun a3 => q74_0 k k (a0, a1, a2, a3)]
  rfl
theorem M74 (k : Nat) : Meets Try.prog 74 (S74 k) := meets_of Try.func74 (by kernel_rfl) tbOk orc_nil mixOk (fun x y h => (e74 k x).trans h) rfl

/-! spec_l06Tasks: function 75 -/
def spec_l06Tasks.s0 (k : Nat) (r0 : Int → (List Int) → (List Int) → Int → Option ((List Int) × Bool)) (x1 : Int) (x2_0 : List Int) (x6_0 : List Int) (x7 : Int) : Option ((List Int) × Bool) := if x7 < (x2_0.length : Int) then (if 0 ≤ x7 then (if x7 < (x2_0.length : Int) then (if (rd x2_0 x7) = 0 then (none) else (if 40 < (wrap64 (Int.tdiv x1 (rd x2_0 x7))) then (some ([], false)) else (if x6_0.length + 1 ≤ 1099511627776 then (r0 x1 x2_0 (x6_0 ++ [(wrap64 (Int.tdiv x1 (rd x2_0 x7)))]) (wrap64 (x7 + 1))) else (none)))) else (none)) else (none)) else (some (x6_0, true))
def spec_l06Tasks.l0 (k : Nat) : Nat → Int → (List Int) → (List Int) → Int → Option ((List Int) × Bool)
  | 0, _, _, _, _ => none
  | n + 1, x0, x1, x2, x3 => spec_l06Tasks.s0 k (spec_l06Tasks.l0 k n) x0 x1 x2 x3
def spec_l06Tasks.g (k : Nat) (r0 : Int → (List Int) → (List Int) → Int → Option ((List Int) × Bool)) (l0_0 : List Int) (a1 : Int) : Option ((List Int) × Bool) := r0 a1 l0_0 [] 0
def spec_l06Tasks.f (k : Nat) (l0_0 : List Int) (a1 : Int) : Option ((List Int) × Bool) := spec_l06Tasks.g k (spec_l06Tasks.l0 k k) l0_0 a1
def S75 (k : Nat) : Does := ⟨[(true, [.dat (.list (.int .i64))]), (false, [.dat (.int .i64)])], [(true, [.own 2 (.int .i64)]), (false, [.dat .bool])], fun x => spec_l06Tasks.f k x.1 x.2⟩
def E75 (k : Nat) : En := ⟨tb, orcOf [], lvOf [(0, [(1, []), (2, []), (4, []), (6, []), (7, [])])], k, 0, lvOf [], []⟩
def n75_0 (x1 : Int) (x2_0 : List Int) (x6_0 : List Int) (x7 : Int) : St := ⟨35, lookA [(1, .dat (.int .i64) x1), (2, .box 0 0), (4, .box 1 0), (6, .box 2 0), (7, .dat (.int .i64) x7)], Go.V.look [(0, .cells [.dat (.list (.int .i64)) x2_0]), (1, .cells [.nil]), (2, .cells [.own 3]), (3, .flat 2 (.int .i64) x6_0)]⟩
def p75_0 : List Bool := [true, true, false, true, false]
theorem r75_0 (k : Nat) (rec : St → Option ((List Int) × Bool)) (v : Int × (List Int) × (List Int) × Int) : roundF (E75 k) (S75 k) Try.f75 p75_0 [] rec (n75_0 v.1 v.2.1 v.2.2.1 v.2.2.2) = spec_l06Tasks.s0 k (fun a0 a1 a2 a3 => rec (n75_0 a0 a1 a2 a3)) v.1 v.2.1 v.2.2.1 v.2.2.2 := by
  kernel_rfl
theorem q75_0 (k : Nat) (n : Nat) : ∀ v : Int × (List Int) × (List Int) × Int, loopF (E75 k) (S75 k) Try.f75 p75_0 [] n (n75_0 v.1 v.2.1 v.2.2.1 v.2.2.2) = spec_l06Tasks.l0 k n v.1 v.2.1 v.2.2.1 v.2.2.2 :=
  loopF_eq (E75 k) (S75 k) Try.f75 p75_0 [] (fun v : Int × (List Int) × (List Int) × Int => n75_0 v.1 v.2.1 v.2.2.1 v.2.2.2) (fun rec v => spec_l06Tasks.s0 k (fun a0 a1 a2 a3 => rec (a0, a1, a2, a3)) v.1 v.2.1 v.2.2.1 v.2.2.2) (fun n v => spec_l06Tasks.l0 k n v.1 v.2.1 v.2.2.1 v.2.2.2) (fun _ => rfl) (fun _ _ => rfl) (fun rec v => r75_0 k rec v) n
theorem e75 (k : Nat) (x : dens (flatC (S75 k).ps)) : funK (E75 k) (S75 k) Try.f75 x = (S75 k).fn x := by
  have h : funK (E75 k) (S75 k) Try.f75 x = spec_l06Tasks.g k (fun a0 a1 a2 a3 => loopF (E75 k) (S75 k) Try.f75 p75_0 [] k (n75_0 a0 a1 a2 a3)) x.1 x.2 := by kernel_rfl
  rw [h]
  rw [show (fun a0 a1 a2 a3 => loopF (E75 k) (S75 k) Try.f75 p75_0 [] k (n75_0 a0 a1 a2 a3)) = spec_l06Tasks.l0 k k from funext fun a0 => funext fun a1 => funext fun a2 => funext fun a3 => q75_0 k k (a0, a1, a2, a3)]
  rfl
theorem M75 (k : Nat) : Meets Try.prog 75 (S75 k) := meets_of Try.func75 (by kernel_rfl) tbOk orc_nil mixOk (fun x y h => (e75 k x).trans h) rfl

/-! spec_LeastTower: function 36 -/
def spec_LeastTower.s0 (k : Nat) (r0 : (List Int) → Int → Option (Int × Int)) (x1_0 : List Int) (x4 : Int) : Option (Int × Int) := (spec_l06Tasks.f k x1_0 x4).bind fun t3 => if t3.2 = true then ((spec_l02Count.f k t3.1).bind fun t4 => if 4000 < t4 then (some (0, 3)) else ((spec_l02Can.f k t3.1).bind fun t5 => if t5 = true then (some (x4, 0)) else (r0 x1_0 (wrap64 (x4 + 1))))) else (some (0, 3))
def spec_LeastTower.l0 (k : Nat) : Nat → (List Int) → Int → Option (Int × Int)
  | 0, _, _ => none
  | n + 1, x0, x1 => spec_LeastTower.s0 k (spec_LeastTower.l0 k n) x0 x1
def spec_LeastTower.g (k : Nat) (r0 : (List Int) → Int → Option (Int × Int)) (l0_0 : List Int) : Option (Int × Int) := (spec_l06Is.f k l0_0).bind fun t1 => if t1 = true then ((spec_l06Sum.f k l0_0).bind fun t2 => r0 l0_0 t2.1) else (some (0, 1))
def spec_LeastTower.f (k : Nat) (l0_0 : List Int) : Option (Int × Int) := spec_LeastTower.g k (spec_LeastTower.l0 k k) l0_0
def S36 (k : Nat) : Does := ⟨[(true, [.dat (.list (.int .i64))])], [(false, [.dat (.int .i64)]), (false, [.dat (.int .i64)])], fun x => spec_LeastTower.f k x⟩
def E36 (k : Nat) : En := ⟨tb, orcOf [(73, S73 k), (74, S74 k), (75, S75 k), (76, S76 k), (56, S56 k)], lvOf [(0, [(1, []), (4, [])])], k, 0, lvOf [], []⟩
def n36_0 (x1_0 : List Int) (x4 : Int) : St := ⟨34, lookA [(1, .box 0 0), (4, .dat (.int .i64) x4)], Go.V.look [(0, .cells [.dat (.list (.int .i64)) x1_0])]⟩
def p36_0 : List Bool := [true, true, true, false]
theorem r36_0 (k : Nat) (rec : St → Option (Int × Int)) (v : (List Int) × Int) : roundF (E36 k) (S36 k) Try.f36 p36_0 [] rec (n36_0 v.1 v.2) = spec_LeastTower.s0 k (fun a0 a1 => rec (n36_0 a0 a1)) v.1 v.2 := by
  kernel_rfl
theorem q36_0 (k : Nat) (n : Nat) : ∀ v : (List Int) × Int, loopF (E36 k) (S36 k) Try.f36 p36_0 [] n (n36_0 v.1 v.2) = spec_LeastTower.l0 k n v.1 v.2 :=
  loopF_eq (E36 k) (S36 k) Try.f36 p36_0 [] (fun v : (List Int) × Int => n36_0 v.1 v.2) (fun rec v => spec_LeastTower.s0 k (fun a0 a1 => rec (a0, a1)) v.1 v.2) (fun n v => spec_LeastTower.l0 k n v.1 v.2) (fun _ => rfl) (fun _ _ => rfl) (fun rec v => r36_0 k rec v) n
theorem e36 (k : Nat) (x : dens (flatC (S36 k).ps)) : funK (E36 k) (S36 k) Try.f36 x = (S36 k).fn x := by
  have h : funK (E36 k) (S36 k) Try.f36 x = spec_LeastTower.g k (fun a0 a1 => loopF (E36 k) (S36 k) Try.f36 p36_0 [] k (n36_0 a0 a1)) x := by kernel_rfl
  rw [h]
  rw [show (fun a0 a1 => loopF (E36 k) (S36 k) Try.f36 p36_0 [] k (n36_0 a0 a1)) = spec_LeastTower.l0 k k from funext fun a0 => funext fun a1 => q36_0 k k (a0, a1)]
  rfl
theorem M36 (k : Nat) : Meets Try.prog 36 (S36 k) := meets_of Try.func36 (by kernel_rfl) tbOk (orc_cons (M73 k) (orc_cons (M74 k) (orc_cons (M75 k) (orc_cons (M76 k) (orc_cons (M56 k) orc_nil))))) mixOk (fun x y h => (e36 k x).trans h) rfl

/-! impl_IsGarden_1: function 118 -/
def impl_IsGarden_1.f (a0 : Int) : Option (Bool) := (impl_within.f a0 1 20).bind fun t1 => some t1
def S118 (k : Nat) : Does := ⟨[(false, [.dat (.int .i64)])], [(false, [.dat .bool])], fun x => impl_IsGarden_1.f x⟩
def E118 (k : Nat) : En := ⟨tb, orcOf [(104, S104 k)], lvOf [], k, 0, lvOf [], []⟩
theorem e118 (k : Nat) (x : dens (flatC (S118 k).ps)) : funK (E118 k) (S118 k) Try.f118 x = (S118 k).fn x := by
  kernel_rfl
theorem M118 (k : Nat) : Meets Try.prog 118 (S118 k) := meets_of Try.func118 (by kernel_rfl) tbOk (orc_cons (M104 k) orc_nil) mixOk (fun x y h => (e118 k x).trans h) rfl

/-! impl_areAll_int64_1_impl_IsGarden_1: function 107 -/
def impl_areAll_int64_1_impl_IsGarden_1.f (a0 : Int) (a1 : Unit) : Option (Bool) := (impl_IsGarden_1.f a0).bind fun t1 => some (!decide (t1 = true))
def S107_c118 (k : Nat) : Does := ⟨[(false, [.dat (.int .i64)]), (false, [.dat (.ptr (.clo 118 .unit))])], [(false, [.dat .bool])], fun x => impl_areAll_int64_1_impl_IsGarden_1.f x.1 x.2⟩
def E107_c118 (k : Nat) : En := ⟨tb, orcOf [(118, S118 k)], lvOf [], k, 0, lvOf [], []⟩
theorem e107_c118 (k : Nat) (x : dens (flatC (S107_c118 k).ps)) : funK (E107_c118 k) (S107_c118 k) Try.f107 x = (S107_c118 k).fn x := by
  kernel_rfl
theorem M107_c118 (k : Nat) : Meets Try.prog 107 (S107_c118 k) := meets_of Try.func107 (by kernel_rfl) tbOk (orc_cons (M118 k) orc_nil) mixOk (fun x y h => (e107_c118 k x).trans h) rfl

/-! slices_IndexFunc_int64_int64_impl_areAll_int64_1_impl_IsGarden_1: function 117 -/
def slices_IndexFunc_int64_int64_impl_areAll_int64_1_impl_IsGarden_1.s0 (k : Nat) (r0 : (List Int) → Unit → Int → Int → Option (Int)) (x0 : List Int) (x1 : Unit) (x7 : Int) (x8 : Int) : Option (Int) := if x8 < x7 then (if 0 ≤ x8 then (if x8 < (x0.length : Int) then ((impl_areAll_int64_1_impl_IsGarden_1.f (rd x0 x8) x1).bind fun t1 => if t1 = true then (some x8) else (r0 x0 x1 x7 (wrap64 (x8 + 1)))) else (none)) else (none)) else (some (-1))
def slices_IndexFunc_int64_int64_impl_areAll_int64_1_impl_IsGarden_1.l0 (k : Nat) : Nat → (List Int) → Unit → Int → Int → Option (Int)
  | 0, _, _, _, _ => none
  | n + 1, x0, x1, x2, x3 => slices_IndexFunc_int64_int64_impl_areAll_int64_1_impl_IsGarden_1.s0 k (slices_IndexFunc_int64_int64_impl_areAll_int64_1_impl_IsGarden_1.l0 k n) x0 x1 x2 x3
def slices_IndexFunc_int64_int64_impl_areAll_int64_1_impl_IsGarden_1.g (k : Nat) (r0 : (List Int) → Unit → Int → Int → Option (Int)) (l0 : List Int) (a1 : Unit) : Option (Int) := r0 l0 a1 (l0.length : Int) 0
def slices_IndexFunc_int64_int64_impl_areAll_int64_1_impl_IsGarden_1.f (k : Nat) (l0 : List Int) (a1 : Unit) : Option (Int) := slices_IndexFunc_int64_int64_impl_areAll_int64_1_impl_IsGarden_1.g k (slices_IndexFunc_int64_int64_impl_areAll_int64_1_impl_IsGarden_1.l0 k k) l0 a1
def S117_c107c118 (k : Nat) : Does := ⟨[(false, [.dat (.list (.int .i64))]), (false, [.dat (.clo 107 (.ptr (.clo 118 .unit)))])], [(false, [.dat (.int .i64)])], fun x => slices_IndexFunc_int64_int64_impl_areAll_int64_1_impl_IsGarden_1.f k x.1 x.2⟩
def E117_c107c118 (k : Nat) : En := ⟨tb, orcOf [(107, S107_c118 k)], lvOf [(0, [(0, []), (1, []), (7, []), (8, [])])], k, 0, lvOf [], []⟩
def n117_c107c118_0 (x0 : List Int) (x1 : Unit) (x7 : Int) (x8 : Int) : St := ⟨19, lookA [(0, .dat (.list (.int .i64)) x0), (1, .dat (.clo 107 (.ptr (.clo 118 .unit))) x1), (7, .dat (.int .i64) x7), (8, .dat (.int .i64) x8)], Go.V.look []⟩
def p117_c107c118_0 : List Bool := [true, false, true, false]
theorem r117_c107c118_0 (k : Nat) (rec : St → Option (Int)) (v : (List Int) × Unit × Int × Int) : roundF (E117_c107c118 k) (S117_c107c118 k) Try.f117 p117_c107c118_0 [] rec (n117_c107c118_0 v.1 v.2.1 v.2.2.1 v.2.2.2) = slices_IndexFunc_int64_int64_impl_areAll_int64_1_impl_IsGarden_1.s0 k (fun a0 a1 a2 a3 => rec (n117_c107c118_0 a0 a1 a2 a3)) v.1 v.2.1 v.2.2.1 v.2.2.2 := by
  kernel_rfl
theorem q117_c107c118_0 (k : Nat) (n : Nat) : ∀ v : (List Int) × Unit × Int × Int, loopF (E117_c107c118 k) (S117_c107c118 k) Try.f117 p117_c107c118_0 [] n (n117_c107c118_0 v.1 v.2.1 v.2.2.1 v.2.2.2) = slices_IndexFunc_int64_int64_impl_areAll_int64_1_impl_IsGarden_1.l0 k n v.1 v.2.1 v.2.2.1 v.2.2.2 :=
  loopF_eq (E117_c107c118 k) (S117_c107c118 k) Try.f117 p117_c107c118_0 [] (fun v : (List Int) × Unit × Int × Int => n117_c107c118_0 v.1 v.2.1 v.2.2.1 v.2.2.2) (fun rec v => slices_IndexFunc_int64_int64_impl_areAll_int64_1_impl_IsGarden_1.s0 k (fun a0 a1 a2 a3 => rec (a0, a1, a2, a3)) v.1 v.2.1 v.2.2.1 v.2.2.2) (fun n v => slices_IndexFunc_int64_int64_impl_areAll_int64_1_impl_IsGarden_1.l0 k n v.1 v.2.1 v.2.2.1 v.2.2.2) (fun _ => rfl) (fun _ _ => rfl) (fun rec v => r117_c107c118_0 k rec v) n
theorem e117_c107c118 (k : Nat) (x : dens (flatC (S117_c107c118 k).ps)) : funK (E117_c107c118 k) (S117_c107c118 k) Try.f117 x = (S117_c107c118 k).fn x := by
  have h : funK (E117_c107c118 k) (S117_c107c118 k) Try.f117 x = slices_IndexFunc_int64_int64_impl_areAll_int64_1_impl_IsGarden_1.g k (fun a0 a1 a2 a3 => loopF (E117_c107c118 k) (S117_c107c118 k) Try.f117 p117_c107c118_0 [] k (n117_c107c118_0 a0 a1 a2 a3)) x.1 x.2 := by kernel_rfl
  rw [h]
  rw [show (fun a0 a1 a2 a3 => loopF (E117_c107c118 k) (S117_c107c118 k) Try.f117 p117_c107c118_0 [] k (n117_c107c118_0 a0 a1 a2 a3)) = slices_IndexFunc_int64_int64_impl_areAll_int64_1_impl_IsGarden_1.l0 k k from funext fun a0 => funext fun a1 => funext fun a2 => funext fun a3 => q117_c107c118_0 k k (a0, a1, a2, a3)]
  rfl
theorem M117_c107c118 (k : Nat) : Meets Try.prog 117 (S117_c107c118 k) := meets_of Try.func117 (by kernel_rfl) tbOk (orc_cons (M107_c118 k) orc_nil) mixOk (fun x y h => (e117_c107c118 k x).trans h) rfl

/-! slices_ContainsFunc_int64_int64_impl_areAll_int64_1_impl_IsGarden_1: function 106 -/
def slices_ContainsFunc_int64_int64_impl_areAll_int64_1_impl_IsGarden_1.f (k : Nat) (l0 : List Int) (a1 : Unit) : Option (Bool) := (slices_IndexFunc_int64_int64_impl_areAll_int64_1_impl_IsGarden_1.f k l0 a1).bind fun t1 => some (decide (0 ≤ t1))
def S106_c107c118 (k : Nat) : Does := ⟨[(false, [.dat (.list (.int .i64))]), (false, [.dat (.clo 107 (.ptr (.clo 118 .unit)))])], [(false, [.dat .bool])], fun x => slices_ContainsFunc_int64_int64_impl_areAll_int64_1_impl_IsGarden_1.f k x.1 x.2⟩
def E106_c107c118 (k : Nat) : En := ⟨tb, orcOf [(117, S117_c107c118 k)], lvOf [], k, 0, lvOf [], []⟩
theorem e106_c107c118 (k : Nat) (x : dens (flatC (S106_c107c118 k).ps)) : funK (E106_c107c118 k) (S106_c107c118 k) Try.f106 x = (S106_c107c118 k).fn x := by
  kernel_rfl
theorem M106_c107c118 (k : Nat) : Meets Try.prog 106 (S106_c107c118 k) := meets_of Try.func106 (by kernel_rfl) tbOk (orc_cons (M117_c107c118 k) orc_nil) mixOk (fun x y h => (e106_c107c118 k x).trans h) rfl

/-! impl_areAll_int64_impl_IsGarden_1: function 64 -/
def impl_areAll_int64_impl_IsGarden_1.f (k : Nat) (l0 : List Int) (a1 : Unit) : Option (Bool) := (slices_ContainsFunc_int64_int64_impl_areAll_int64_1_impl_IsGarden_1.f k l0 a1).bind fun t1 => some (!decide (t1 = true))
def S64_c118 (k : Nat) : Does := ⟨[(false, [.dat (.list (.int .i64))]), (false, [.dat (.clo 118 .unit)])], [(false, [.dat .bool])], fun x => impl_areAll_int64_impl_IsGarden_1.f k x.1 x.2⟩
def E64_c118 (k : Nat) : En := ⟨tb, orcOf [(106, S106_c107c118 k)], lvOf [], k, 0, lvOf [], []⟩
theorem e64_c118 (k : Nat) (x : dens (flatC (S64_c118 k).ps)) : funK (E64_c118 k) (S64_c118 k) Try.f64 x = (S64_c118 k).fn x := by
  kernel_rfl
theorem M64_c118 (k : Nat) : Meets Try.prog 64 (S64_c118 k) := meets_of Try.func64 (by kernel_rfl) tbOk (orc_cons (M106_c107c118 k) orc_nil) mixOk (fun x y h => (e64_c118 k x).trans h) rfl

/-! impl_IsGarden: function 108 -/
def impl_IsGarden.f (k : Nat) (l0_0 : List Int) : Option (Bool) := (impl_length_int64.f l0_0).bind fun t1 => (impl_within.f t1 1 8).bind fun t2 => if t2 = true then ((impl_areAll_int64_impl_IsGarden_1.f k l0_0 ()).bind fun t3 => some t3) else (some false)
def S108 (k : Nat) : Does := ⟨[(true, [.dat (.list (.int .i64))])], [(false, [.dat .bool])], fun x => impl_IsGarden.f k x⟩
def E108 (k : Nat) : En := ⟨tb, orcOf [(66, S66 k), (104, S104 k), (64, S64_c118 k)], lvOf [], k, 0, lvOf [], []⟩
theorem e108 (k : Nat) (x : dens (flatC (S108 k).ps)) : funK (E108 k) (S108 k) Try.f108 x = (S108 k).fn x := by
  kernel_rfl
theorem M108 (k : Nat) : Meets Try.prog 108 (S108 k) := meets_of Try.func108 (by kernel_rfl) tbOk (orc_cons (M66 k) (orc_cons (M104 k) (orc_cons (M64_c118 k) orc_nil))) mixOk (fun x y h => (e108 k x).trans h) rfl

/-! impl_gardenCode: function 77 -/
def impl_gardenCode.f (k : Nat) (l0_0 : List Int) (a1 : Bool) : Option (Int) := (impl_IsGarden.f k l0_0).bind fun t1 => if (!decide (t1 = true)) = true then (some 1) else (if (!decide (a1 = true)) = true then (some 2) else (some 0))
def S77 (k : Nat) : Does := ⟨[(true, [.dat (.list (.int .i64))]), (false, [.dat .bool])], [(false, [.dat (.int .i64)])], fun x => impl_gardenCode.f k x.1 x.2⟩
def E77 (k : Nat) : En := ⟨tb, orcOf [(108, S108 k)], lvOf [], k, 0, lvOf [], []⟩
theorem e77 (k : Nat) (x : dens (flatC (S77 k).ps)) : funK (E77 k) (S77 k) Try.f77 x = (S77 k).fn x := by
  kernel_rfl
theorem M77 (k : Nat) : Meets Try.prog 77 (S77 k) := meets_of Try.func77 (by kernel_rfl) tbOk (orc_cons (M108 k) orc_nil) mixOk (fun x y h => (e77 k x).trans h) rfl

/-! impl_Garden_sum: function 78 -/
def impl_Garden_sum.s0 (k : Nat) (r0 : Int → (List Int) → Int → Int → Option (Int)) (x3 : Int) (x7 : List Int) (x8 : Int) (x9 : Int) : Option (Int) := if x9 < x8 then (if 0 ≤ x9 then (if x9 < (x7.length : Int) then (r0 (wrap64 (x3 + (rd x7 x9))) x7 x8 (wrap64 (x9 + 1))) else (none)) else (none)) else (some x3)
def impl_Garden_sum.l0 (k : Nat) : Nat → Int → (List Int) → Int → Int → Option (Int)
  | 0, _, _, _, _ => none
  | n + 1, x0, x1, x2, x3 => impl_Garden_sum.s0 k (impl_Garden_sum.l0 k n) x0 x1 x2 x3
def impl_Garden_sum.g (k : Nat) (r0 : Int → (List Int) → Int → Int → Option (Int)) (l0_0 : List Int) : Option (Int) := r0 0 l0_0 (l0_0.length : Int) 0
def impl_Garden_sum.f (k : Nat) (l0_0 : List Int) : Option (Int) := impl_Garden_sum.g k (impl_Garden_sum.l0 k k) l0_0
def S78 (k : Nat) : Does := ⟨[(true, [.dat (.list (.int .i64))])], [(false, [.dat (.int .i64)])], fun x => impl_Garden_sum.f k x⟩
def E78 (k : Nat) : En := ⟨tb, orcOf [], lvOf [(0, [(3, []), (7, []), (8, []), (9, [])])], k, 0, lvOf [], []⟩
def n78_0 (x3 : Int) (x7 : List Int) (x8 : Int) (x9 : Int) : St := ⟨18, lookA [(3, .dat (.int .i64) x3), (7, .dat (.list (.int .i64)) x7), (8, .dat (.int .i64) x8), (9, .dat (.int .i64) x9)], Go.V.look []⟩
def p78_0 : List Bool := [true, true, false, true, false]
theorem r78_0 (k : Nat) (rec : St → Option (Int)) (v : Int × (List Int) × Int × Int) : roundF (E78 k) (S78 k) Try.f78 p78_0 [] rec (n78_0 v.1 v.2.1 v.2.2.1 v.2.2.2) = impl_Garden_sum.s0 k (fun a0 a1 a2 a3 => rec (n78_0 a0 a1 a2 a3)) v.1 v.2.1 v.2.2.1 v.2.2.2 := by
  kernel_rfl
theorem q78_0 (k : Nat) (n : Nat) : ∀ v : Int × (List Int) × Int × Int, loopF (E78 k) (S78 k) Try.f78 p78_0 [] n (n78_0 v.1 v.2.1 v.2.2.1 v.2.2.2) = impl_Garden_sum.l0 k n v.1 v.2.1 v.2.2.1 v.2.2.2 :=
  loopF_eq (E78 k) (S78 k) Try.f78 p78_0 [] (fun v : Int × (List Int) × Int × Int => n78_0 v.1 v.2.1 v.2.2.1 v.2.2.2) (fun rec v => impl_Garden_sum.s0 k (fun a0 a1 a2 a3 => rec (a0, a1, a2, a3)) v.1 v.2.1 v.2.2.1 v.2.2.2) (fun n v => impl_Garden_sum.l0 k n v.1 v.2.1 v.2.2.1 v.2.2.2) (fun _ => rfl) (fun _ _ => rfl) (fun rec v => r78_0 k rec v) n
theorem e78 (k : Nat) (x : dens (flatC (S78 k).ps)) : funK (E78 k) (S78 k) Try.f78 x = (S78 k).fn x := by
  have h : funK (E78 k) (S78 k) Try.f78 x = impl_Garden_sum.g k (fun a0 a1 a2 a3 => loopF (E78 k) (S78 k) Try.f78 p78_0 [] k (n78_0 a0 a1 a2 a3)) x := by kernel_rfl
  rw [h]
  rw [show (fun a0 a1 a2 a3 => loopF (E78 k) (S78 k) Try.f78 p78_0 [] k (n78_0 a0 a1 a2 a3)) = impl_Garden_sum.l0 k k from funext fun a0 => funext fun a1 => funext fun a2 => funext fun a3 => q78_0 k k (a0, a1, a2, a3)]
  rfl
theorem M78 (k : Nat) : Meets Try.prog 78 (S78 k) := meets_of Try.func78 (by kernel_rfl) tbOk orc_nil mixOk (fun x y h => (e78 k x).trans h) rfl

/-! impl_Garden_tasks: function 79 -/
def impl_Garden_tasks.s0 (k : Nat) (r0 : Int → (List Int) → (List Int) → Int → Int → Option ((List Int))) (x1 : Int) (x5_0 : List Int) (x9 : List Int) (x10 : Int) (x11 : Int) : Option ((List Int)) := if x11 < x10 then (if 0 ≤ x11 then (if x11 < (x9.length : Int) then (if (rd x9 x11) = 0 then (none) else (if x5_0.length + 1 ≤ 1099511627776 then (r0 x1 (x5_0 ++ [(wrap64 (Int.tdiv x1 (rd x9 x11)))]) x9 x10 (wrap64 (x11 + 1))) else (none))) else (none)) else (none)) else (some x5_0)
def impl_Garden_tasks.l0 (k : Nat) : Nat → Int → (List Int) → (List Int) → Int → Int → Option ((List Int))
  | 0, _, _, _, _, _ => none
  | n + 1, x0, x1, x2, x3, x4 => impl_Garden_tasks.s0 k (impl_Garden_tasks.l0 k n) x0 x1 x2 x3 x4
def impl_Garden_tasks.g (k : Nat) (r0 : Int → (List Int) → (List Int) → Int → Int → Option ((List Int))) (l0_0 : List Int) (a1 : Int) : Option ((List Int)) := r0 a1 [] l0_0 (l0_0.length : Int) 0
def impl_Garden_tasks.f (k : Nat) (l0_0 : List Int) (a1 : Int) : Option ((List Int)) := impl_Garden_tasks.g k (impl_Garden_tasks.l0 k k) l0_0 a1
def S79 (k : Nat) : Does := ⟨[(true, [.dat (.list (.int .i64))]), (false, [.dat (.int .i64)])], [(true, [.own 2 (.int .i64)])], fun x => impl_Garden_tasks.f k x.1 x.2⟩
def E79 (k : Nat) : En := ⟨tb, orcOf [], lvOf [(0, [(1, []), (4, []), (5, [.cell 0 2 (.int .i64)]), (9, []), (10, []), (11, [])])], k, 0, lvOf [], []⟩
def n79_0 (x1 : Int) (x5_0 : List Int) (x9 : List Int) (x10 : Int) (x11 : Int) : St := ⟨25, lookA [(1, .dat (.int .i64) x1), (4, .box 0 0), (5, .box 1 0), (9, .dat (.list (.int .i64)) x9), (10, .dat (.int .i64) x10), (11, .dat (.int .i64) x11)], Go.V.look [(0, .cells [.nil]), (1, .cells [.own 2]), (2, .flat 2 (.int .i64) x5_0)]⟩
def p79_0 : List Bool := [true, true, false, true, false]
theorem r79_0 (k : Nat) (rec : St → Option ((List Int))) (v : Int × (List Int) × (List Int) × Int × Int) : roundF (E79 k) (S79 k) Try.f79 p79_0 [] rec (n79_0 v.1 v.2.1 v.2.2.1 v.2.2.2.1 v.2.2.2.2) = impl_Garden_tasks.s0 k (fun a0 a1 a2 a3 a4 => rec (n79_0 a0 a1 a2 a3 a4)) v.1 v.2.1 v.2.2.1 v.2.2.2.1 v.2.2.2.2 := by
  kernel_rfl
theorem q79_0 (k : Nat) (n : Nat) : ∀ v : Int × (List Int) × (List Int) × Int × Int, loopF (E79 k) (S79 k) Try.f79 p79_0 [] n (n79_0 v.1 v.2.1 v.2.2.1 v.2.2.2.1 v.2.2.2.2) = impl_Garden_tasks.l0 k n v.1 v.2.1 v.2.2.1 v.2.2.2.1 v.2.2.2.2 :=
  loopF_eq (E79 k) (S79 k) Try.f79 p79_0 [] (fun v : Int × (List Int) × (List Int) × Int × Int => n79_0 v.1 v.2.1 v.2.2.1 v.2.2.2.1 v.2.2.2.2) (fun rec v => impl_Garden_tasks.s0 k (fun a0 a1 a2 a3 a4 => rec (a0, a1, a2, a3, a4)) v.1 v.2.1 v.2.2.1 v.2.2.2.1 v.2.2.2.2) (fun n v => impl_Garden_tasks.l0 k n v.1 v.2.1 v.2.2.1 v.2.2.2.1 v.2.2.2.2) (fun _ => rfl) (fun _ _ => rfl) (fun rec v => r79_0 k rec v) n
theorem e79 (k : Nat) (x : dens (flatC (S79 k).ps)) : funK (E79 k) (S79 k) Try.f79 x = (S79 k).fn x := by
  have h : funK (E79 k) (S79 k) Try.f79 x = impl_Garden_tasks.g k (fun a0 a1 a2 a3 a4 => loopF (E79 k) (S79 k) Try.f79 p79_0 [] k (n79_0 a0 a1 a2 a3 a4)) x.1 x.2 := by kernel_rfl
  rw [h]
  rw [show (fun a0 a1 a2 a3 a4 => loopF (E79 k) (S79 k) Try.f79 p79_0 [] k (n79_0 a0 a1 a2 a3 a4)) = impl_Garden_tasks.l0 k k from funext fun a0 => funext fun a1 => funext fun a2 => funext fun a3 => funext fun a4 => q79_0 k k (a0, a1, a2, a3, a4)]
  rfl
theorem M79 (k : Nat) : Meets Try.prog 79 (S79 k) := meets_of Try.func79 (by kernel_rfl) tbOk orc_nil mixOk (fun x y h => (e79 k x).trans h) rfl

/-! impl_LeastTower: function 38 -/
def impl_LeastTower.s0 (k : Nat) (r0 : (List Int) → Int → Option (Int × Int)) (x1_0 : List Int) (x5 : Int) : Option (Int × Int) := (impl_Garden_tasks.f k x1_0 x5).bind fun t3 => (impl_IsTasks.f k t3).bind fun t4 => if t4 = true then ((impl_Tasks_states.f k t3).bind fun t5 => if 4000 < t5 then (some (0, 3)) else ((impl_CanServe.f k t3).bind fun t6 => if t6.1 = true then (some (x5, 0)) else (r0 x1_0 (wrap64 (x5 + 1))))) else (some (0, 3))
def impl_LeastTower.l0 (k : Nat) : Nat → (List Int) → Int → Option (Int × Int)
  | 0, _, _ => none
  | n + 1, x0, x1 => impl_LeastTower.s0 k (impl_LeastTower.l0 k n) x0 x1
def impl_LeastTower.g (k : Nat) (r0 : (List Int) → Int → Option (Int × Int)) (l0_0 : List Int) : Option (Int × Int) := (impl_gardenCode.f k l0_0 true).bind fun t1 => if t1 = 0 then ((impl_Garden_sum.f k l0_0).bind fun t2 => r0 l0_0 t2) else (some (0, t1))
def impl_LeastTower.f (k : Nat) (l0_0 : List Int) : Option (Int × Int) := impl_LeastTower.g k (impl_LeastTower.l0 k k) l0_0
def S38 (k : Nat) : Does := ⟨[(true, [.dat (.list (.int .i64))])], [(false, [.dat (.int .i64)]), (false, [.dat (.int .i64)])], fun x => impl_LeastTower.f k x⟩
def E38 (k : Nat) : En := ⟨tb, orcOf [(77, S77 k), (78, S78 k), (79, S79 k), (80, S80 k), (81, S81 k), (21, S21 k)], lvOf [(0, [(1, []), (5, [])])], k, 0, lvOf [], []⟩
def n38_0 (x1_0 : List Int) (x5 : Int) : St := ⟨36, lookA [(1, .box 0 0), (5, .dat (.int .i64) x5)], Go.V.look [(0, .cells [.dat (.list (.int .i64)) x1_0])]⟩
def p38_0 : List Bool := [true, true, true, false]
theorem r38_0 (k : Nat) (rec : St → Option (Int × Int)) (v : (List Int) × Int) : roundF (E38 k) (S38 k) Try.f38 p38_0 [] rec (n38_0 v.1 v.2) = impl_LeastTower.s0 k (fun a0 a1 => rec (n38_0 a0 a1)) v.1 v.2 := by
  kernel_rfl
theorem q38_0 (k : Nat) (n : Nat) : ∀ v : (List Int) × Int, loopF (E38 k) (S38 k) Try.f38 p38_0 [] n (n38_0 v.1 v.2) = impl_LeastTower.l0 k n v.1 v.2 :=
  loopF_eq (E38 k) (S38 k) Try.f38 p38_0 [] (fun v : (List Int) × Int => n38_0 v.1 v.2) (fun rec v => impl_LeastTower.s0 k (fun a0 a1 => rec (a0, a1)) v.1 v.2) (fun n v => impl_LeastTower.l0 k n v.1 v.2) (fun _ => rfl) (fun _ _ => rfl) (fun rec v => r38_0 k rec v) n
theorem e38 (k : Nat) (x : dens (flatC (S38 k).ps)) : funK (E38 k) (S38 k) Try.f38 x = (S38 k).fn x := by
  have h : funK (E38 k) (S38 k) Try.f38 x = impl_LeastTower.g k (fun a0 a1 => loopF (E38 k) (S38 k) Try.f38 p38_0 [] k (n38_0 a0 a1)) x := by kernel_rfl
  rw [h]
  rw [show (fun a0 a1 => loopF (E38 k) (S38 k) Try.f38 p38_0 [] k (n38_0 a0 a1)) = impl_LeastTower.l0 k k from funext fun a0 => funext fun a1 => q38_0 k k (a0, a1)]
  rfl
theorem M38 (k : Nat) : Meets Try.prog 38 (S38 k) := meets_of Try.func38 (by kernel_rfl) tbOk (orc_cons (M77 k) (orc_cons (M78 k) (orc_cons (M79 k) (orc_cons (M80 k) (orc_cons (M81 k) (orc_cons (M21 k) orc_nil)))))) mixOk (fun x y h => (e38 k x).trans h) rfl

/-! laws_eqGarden: function 39 -/
def laws_eqGarden.f (k : Nat) (l0_0 : List Int) (l1_0 : List Int) : Option (Bool) := (laws_eqInt64S.f k l0_0 l1_0).bind fun t1 => if t1 = true then (some true) else (some false)
def S39 (k : Nat) : Does := ⟨[(true, [.dat (.list (.int .i64))]), (true, [.dat (.list (.int .i64))])], [(false, [.dat .bool])], fun x => laws_eqGarden.f k x.1 x.2⟩
def E39 (k : Nat) : En := ⟨tb, orcOf [(25, S25 k)], lvOf [], k, 0, lvOf [], []⟩
theorem e39 (k : Nat) (x : dens (flatC (S39 k).ps)) : funK (E39 k) (S39 k) Try.f39 x = (S39 k).fn x := by
  kernel_rfl
theorem M39 (k : Nat) : Meets Try.prog 39 (S39 k) := meets_of Try.func39 (by kernel_rfl) tbOk (orc_cons (M25 k) orc_nil) mixOk (fun x y h => (e39 k x).trans h) rfl

/-! laws_FnExactLeastTower: function 9 -/
def laws_FnExactLeastTower.f (k : Nat) (l0_0 : List Int) : Option (Bool) := (laws_szGarden.f l0_0 1048576).bind fun t1 => if t1 < 0 then (some true) else ((laws_toGarden.f k l0_0).bind fun t2 => (spec_LeastTower.f k t2).bind fun t3 => (laws_toGarden.f k l0_0).bind fun t4 => (impl_LeastTower.f k t4).bind fun t5 => if t5.1 = t3.1 then (if t5.2 = t3.2 then ((laws_toGarden.f k l0_0).bind fun t6 => (laws_eqGarden.f k t4 t6).bind fun t7 => if t7 = true then (some true) else (some false)) else (some false)) else (some false))
def S9 (k : Nat) : Does := ⟨[(true, [.dat (.list (.int .i64))])], [(false, [.dat .bool])], fun x => laws_FnExactLeastTower.f k x⟩
def E9 (k : Nat) : En := ⟨tb, orcOf [(35, S35 k), (37, S37 k), (36, S36 k), (38, S38 k), (39, S39 k)], lvOf [], k, 0, lvOf [], []⟩
theorem e9 (k : Nat) (x : dens (flatC (S9 k).ps)) : funK (E9 k) (S9 k) Try.f9 x = (S9 k).fn x := by
  kernel_rfl
theorem M9 (k : Nat) : Meets Try.prog 9 (S9 k) := meets_of Try.func9 (by kernel_rfl) tbOk (orc_cons (M35 k) (orc_cons (M37 k) (orc_cons (M36 k) (orc_cons (M38 k) (orc_cons (M39 k) orc_nil))))) mixOk (fun x y h => (e9 k x).trans h) rfl

/-! spec_l02Back: function 83 -/
def spec_l02Back.s2 (k : Nat) (r1 : (List Bool) → Int → (List Int) → (List Bool) → (List Int) → Int → (List Int) → Int → Option (Int)) (r2 : (List Bool) → Int → (List Int) → (List Bool) → (List Int) → Int → (List Int) → Int → (List Int) → Int → Option (Int)) (x1 : List Bool) (x2 : Int) (x3_0 : List Int) (x7 : List Bool) (x8 : List Int) (x9 : Int) (x10 : List Int) (x11 : Int) (x12 : List Int) (x13 : Int) : Option (Int) := (spec_l01K.f x3_0).bind fun t2 => if x13 < t2 then ((spec_l02Step.f k x3_0 x12 x13).bind fun t3 => if t3.2 = true then ((spec_l02Number.f k x3_0 t3.1).bind fun t4 => if t4 = x2 then (some x9) else (if 0 ≤ t4 then (if t4 < (x1.length : Int) then (if (rdOf false x1 t4) = true then (if 0 ≤ t4 then (if t4 < (x7.length : Int) then (if (rdOf false x7 t4) = true then (r2 x1 x2 x3_0 x7 x8 x9 x10 x11 x12 (wrap64 (x13 + 1))) else (if 0 ≤ t4 then (if t4 < (x7.length : Int) then (if x10.length + 1 ≤ 1099511627776 then (r2 x1 x2 x3_0 (x7.set t4.toNat true) x8 x9 (x10 ++ [t4]) x11 x12 (wrap64 (x13 + 1))) else (none)) else (none)) else (none))) else (none)) else (none)) else (r2 x1 x2 x3_0 x7 x8 x9 x10 x11 x12 (wrap64 (x13 + 1)))) else (none)) else (none))) else (r2 x1 x2 x3_0 x7 x8 x9 x10 x11 x12 (wrap64 (x13 + 1)))) else (r1 x1 x2 x3_0 x7 x8 x9 x10 (wrap64 (x11 + 1)))
def spec_l02Back.l2 (k : Nat) (r0 : (List Bool) → Int → (List Int) → (List Bool) → (List Int) → Int → Option (Int)) (r1 : (List Bool) → Int → (List Int) → (List Bool) → (List Int) → Int → (List Int) → Int → Option (Int)) : Nat → (List Bool) → Int → (List Int) → (List Bool) → (List Int) → Int → (List Int) → Int → (List Int) → Int → Option (Int)
  | 0, _, _, _, _, _, _, _, _, _, _ => none
  | n + 1, x0, x1, x2, x3, x4, x5, x6, x7, x8, x9 => spec_l02Back.s2 k r1 (spec_l02Back.l2 k r0 r1 n) x0 x1 x2 x3 x4 x5 x6 x7 x8 x9
def spec_l02Back.s1 (k : Nat) (r0 : (List Bool) → Int → (List Int) → (List Bool) → (List Int) → Int → Option (Int)) (r1 : (List Bool) → Int → (List Int) → (List Bool) → (List Int) → Int → (List Int) → Int → Option (Int)) (r2 : (List Bool) → Int → (List Int) → (List Bool) → (List Int) → Int → (List Int) → Int → (List Int) → Int → Option (Int)) (x1 : List Bool) (x2 : Int) (x3_0 : List Int) (x7 : List Bool) (x8 : List Int) (x9 : Int) (x10 : List Int) (x11 : Int) : Option (Int) := if x11 < (x8.length : Int) then (if 0 ≤ x11 then (if x11 < (x8.length : Int) then ((spec_l02Of.f k x3_0 (rd x8 x11)).bind fun t1 => r2 x1 x2 x3_0 x7 x8 x9 x10 x11 t1 (-1)) else (none)) else (none)) else (r0 x1 x2 x3_0 x7 x10 (wrap64 (x9 + 1)))
def spec_l02Back.l1 (k : Nat) (r0 : (List Bool) → Int → (List Int) → (List Bool) → (List Int) → Int → Option (Int)) : Nat → (List Bool) → Int → (List Int) → (List Bool) → (List Int) → Int → (List Int) → Int → Option (Int)
  | 0, _, _, _, _, _, _, _, _ => none
  | n + 1, x0, x1, x2, x3, x4, x5, x6, x7 => spec_l02Back.s1 k r0 (spec_l02Back.l1 k r0 n) (spec_l02Back.l2 k r0 (spec_l02Back.l1 k r0 n) k) x0 x1 x2 x3 x4 x5 x6 x7
def spec_l02Back.s0 (k : Nat) (r0 : (List Bool) → Int → (List Int) → (List Bool) → (List Int) → Int → Option (Int)) (r1 : (List Bool) → Int → (List Int) → (List Bool) → (List Int) → Int → (List Int) → Int → Option (Int)) (x1 : List Bool) (x2 : Int) (x3_0 : List Int) (x7 : List Bool) (x8 : List Int) (x9 : Int) : Option (Int) := if 0 < (x8.length : Int) then (r1 x1 x2 x3_0 x7 x8 x9 [] 0) else (some 0)
def spec_l02Back.l0 (k : Nat) : Nat → (List Bool) → Int → (List Int) → (List Bool) → (List Int) → Int → Option (Int)
  | 0, _, _, _, _, _, _ => none
  | n + 1, x0, x1, x2, x3, x4, x5 => spec_l02Back.s0 k (spec_l02Back.l0 k n) (spec_l02Back.l1 k (spec_l02Back.l0 k n) k) x0 x1 x2 x3 x4 x5
def spec_l02Back.g (k : Nat) (r0 : (List Bool) → Int → (List Int) → (List Bool) → (List Int) → Int → Option (Int)) (l0_0 : List Int) (l1 : List Bool) (a2 : Int) : Option (Int) := if 0 ≤ (l1.length : Int) then (if (l1.length : Int) ≤ (l1.length : Int) then (if (l1.length : Int).toNat ≤ 1099511627776 then (r0 l1 a2 l0_0 (List.replicate (l1.length : Int).toNat (false : Bool)) [a2] 1) else (none)) else (none)) else (none)
def spec_l02Back.f (k : Nat) (l0_0 : List Int) (l1 : List Bool) (a2 : Int) : Option (Int) := spec_l02Back.g k (spec_l02Back.l0 k k) l0_0 l1 a2
def S83 (k : Nat) : Does := ⟨[(true, [.dat (.list (.int .i64))]), (false, [.dat (.list .bool)]), (false, [.dat (.int .i64)])], [(false, [.dat (.int .i64)])], fun x => spec_l02Back.f k x.1 x.2.1 x.2.2⟩
def E83 (k : Nat) : En := ⟨tb, orcOf [(82, S82 k), (90, S90 k), (63, S63 k), (58, S58 k)], lvOf [(0, [(1, []), (2, []), (3, []), (7, []), (8, []), (9, [])]), (2, [(1, []), (2, []), (3, []), (7, []), (8, []), (9, []), (10, []), (11, [])]), (4, [(1, []), (2, []), (3, []), (7, []), (8, []), (9, []), (10, []), (11, []), (12, []), (13, [])])], k, 0, lvOf [], []⟩
def n83_0 (x1 : List Bool) (x2 : Int) (x3_0 : List Int) (x7 : List Bool) (x8 : List Int) (x9 : Int) : St := ⟨81, lookA [(1, .dat (.list .bool) x1), (2, .dat (.int .i64) x2), (3, .box 0 0), (7, .own 1), (8, .own 2), (9, .dat (.int .i64) x9)], Go.V.look [(0, .cells [.dat (.list (.int .i64)) x3_0]), (1, .flat 4 .bool x7), (2, .flat 2 (.int .i64) x8)]⟩
def p83_0 : List Bool := [true, true, false, true, false]
def n83_1 (x1 : List Bool) (x2 : Int) (x3_0 : List Int) (x7 : List Bool) (x8 : List Int) (x9 : Int) (x10 : List Int) (x11 : Int) : St := ⟨81, lookA [(1, .dat (.list .bool) x1), (2, .dat (.int .i64) x2), (3, .box 0 0), (7, .own 1), (8, .own 2), (9, .dat (.int .i64) x9), (10, .own 3), (11, .dat (.int .i64) x11)], Go.V.look [(0, .cells [.dat (.list (.int .i64)) x3_0]), (1, .flat 4 .bool x7), (2, .flat 2 (.int .i64) x8), (3, .flat 2 (.int .i64) x10)]⟩
def p83_1 : List Bool := [true, true, false, true, false, false, true, false, false, true, false, true, false]
def n83_2 (x1 : List Bool) (x2 : Int) (x3_0 : List Int) (x7 : List Bool) (x8 : List Int) (x9 : Int) (x10 : List Int) (x11 : Int) (x12 : List Int) (x13 : Int) : St := ⟨81, lookA [(1, .dat (.list .bool) x1), (2, .dat (.int .i64) x2), (3, .box 0 0), (7, .own 1), (8, .own 2), (9, .dat (.int .i64) x9), (10, .own 3), (11, .dat (.int .i64) x11), (12, .own 4), (13, .dat (.int .i64) x13)], Go.V.look [(0, .cells [.dat (.list (.int .i64)) x3_0]), (1, .flat 4 .bool x7), (2, .flat 2 (.int .i64) x8), (3, .flat 2 (.int .i64) x10), (4, .flat 2 (.int .i64) x12)]⟩
def p83_2 : List Bool := [true, true, false, true, false, false, true, false, false, true, false, true, false, false, true, false, false, true, true, false]
theorem r83_2 (k : Nat) (R0 : St → Option (Int)) (R1 : St → Option (Int)) (rec : St → Option (Int)) (v : (List Bool) × Int × (List Int) × (List Bool) × (List Int) × Int × (List Int) × Int × (List Int) × Int) : roundF (E83 k) (S83 k) Try.f83 p83_2 [R0, R1] rec (n83_2 v.1 v.2.1 v.2.2.1 v.2.2.2.1 v.2.2.2.2.1 v.2.2.2.2.2.1 v.2.2.2.2.2.2.1 v.2.2.2.2.2.2.2.1 v.2.2.2.2.2.2.2.2.1 v.2.2.2.2.2.2.2.2.2) = spec_l02Back.s2 k (fun a0 a1 a2 a3 a4 a5 a6 a7 => R1 (n83_1 a0 a1 a2 a3 a4 a5 a6 a7)) (fun a0 a1 a2 a3 a4 a5 a6 a7 a8 a9 => rec (n83_2 a0 a1 a2 a3 a4 a5 a6 a7 a8 a9)) v.1 v.2.1 v.2.2.1 v.2.2.2.1 v.2.2.2.2.1 v.2.2.2.2.2.1 v.2.2.2.2.2.2.1 v.2.2.2.2.2.2.2.1 v.2.2.2.2.2.2.2.2.1 v.2.2.2.2.2.2.2.2.2 := by
  kernel_rfl
theorem q83_2 (k : Nat) (R0 : St → Option (Int)) (R1 : St → Option (Int)) (n : Nat) : ∀ v : (List Bool) × Int × (List Int) × (List Bool) × (List Int) × Int × (List Int) × Int × (List Int) × Int, loopF (E83 k) (S83 k) Try.f83 p83_2 [R0, R1] n (n83_2 v.1 v.2.1 v.2.2.1 v.2.2.2.1 v.2.2.2.2.1 v.2.2.2.2.2.1 v.2.2.2.2.2.2.1 v.2.2.2.2.2.2.2.1 v.2.2.2.2.2.2.2.2.1 v.2.2.2.2.2.2.2.2.2) = spec_l02Back.l2 k (fun a0 a1 a2 a3 a4 a5 => R0 (n83_0 a0 a1 a2 a3 a4 a5)) (fun a0 a1 a2 a3 a4 a5 a6 a7 => R1 (n83_1 a0 a1 a2 a3 a4 a5 a6 a7)) n v.1 v.2.1 v.2.2.1 v.2.2.2.1 v.2.2.2.2.1 v.2.2.2.2.2.1 v.2.2.2.2.2.2.1 v.2.2.2.2.2.2.2.1 v.2.2.2.2.2.2.2.2.1 v.2.2.2.2.2.2.2.2.2 :=
  loopF_eq (E83 k) (S83 k) Try.f83 p83_2 [R0, R1] (fun v : (List Bool) × Int × (List Int) × (List Bool) × (List Int) × Int × (List Int) × Int × (List Int) × Int => n83_2 v.1 v.2.1 v.2.2.1 v.2.2.2.1 v.2.2.2.2.1 v.2.2.2.2.2.1 v.2.2.2.2.2.2.1 v.2.2.2.2.2.2.2.1 v.2.2.2.2.2.2.2.2.1 v.2.2.2.2.2.2.2.2.2) (fun rec v => spec_l02Back.s2 k (fun a0 a1 a2 a3 a4 a5 a6 a7 => R1 (n83_1 a0 a1 a2 a3 a4 a5 a6 a7)) (fun a0 a1 a2 a3 a4 a5 a6 a7 a8 a9 => rec (a0, a1, a2, a3, a4, a5, a6, a7, a8, a9)) v.1 v.2.1 v.2.2.1 v.2.2.2.1 v.2.2.2.2.1 v.2.2.2.2.2.1 v.2.2.2.2.2.2.1 v.2.2.2.2.2.2.2.1 v.2.2.2.2.2.2.2.2.1 v.2.2.2.2.2.2.2.2.2) (fun n v => spec_l02Back.l2 k (fun a0 a1 a2 a3 a4 a5 => R0 (n83_0 a0 a1 a2 a3 a4 a5)) (fun a0 a1 a2 a3 a4 a5 a6 a7 => R1 (n83_1 a0 a1 a2 a3 a4 a5 a6 a7)) n v.1 v.2.1 v.2.2.1 v.2.2.2.1 v.2.2.2.2.1 v.2.2.2.2.2.1 v.2.2.2.2.2.2.1 v.2.2.2.2.2.2.2.1 v.2.2.2.2.2.2.2.2.1 v.2.2.2.2.2.2.2.2.2) (fun _ => rfl) (fun _ _ => rfl) (fun rec v => r83_2 k R0 R1 rec v) n
theorem r83_1 (k : Nat) (R0 : St → Option (Int)) (rec : St → Option (Int)) (G2 : (List Bool) → Int → (List Int) → (List Bool) → (List Int) → Int → (List Int) → Int → (List Int) → Int → Option (Int)) (h2 : ∀ a0 a1 a2 a3 a4 a5 a6 a7 a8 a9, loopF (E83 k) (S83 k) Try.f83 p83_2 [R0, rec] k (n83_2 a0 a1 a2 a3 a4 a5 a6 a7 a8 a9) = G2 a0 a1 a2 a3 a4 a5 a6 a7 a8 a9) (v : (List Bool) × Int × (List Int) × (List Bool) × (List Int) × Int × (List Int) × Int) : roundF (E83 k) (S83 k) Try.f83 p83_1 [R0] rec (n83_1 v.1 v.2.1 v.2.2.1 v.2.2.2.1 v.2.2.2.2.1 v.2.2.2.2.2.1 v.2.2.2.2.2.2.1 v.2.2.2.2.2.2.2) = spec_l02Back.s1 k (fun a0 a1 a2 a3 a4 a5 => R0 (n83_0 a0 a1 a2 a3 a4 a5)) (fun a0 a1 a2 a3 a4 a5 a6 a7 => rec (n83_1 a0 a1 a2 a3 a4 a5 a6 a7)) G2 v.1 v.2.1 v.2.2.1 v.2.2.2.1 v.2.2.2.2.1 v.2.2.2.2.2.1 v.2.2.2.2.2.2.1 v.2.2.2.2.2.2.2 := by
  obtain rfl : (fun a0 a1 a2 a3 a4 a5 a6 a7 a8 a9 => loopF (E83 k) (S83 k) Try.f83 p83_2 [R0, rec] k (n83_2 a0 a1 a2 a3 a4 a5 a6 a7 a8 a9)) = G2 := funext fun a0 => funext fun a1 => funext fun a2 => funext fun a3 => funext fun a4 => funext fun a5 => funext fun a6 => funext fun a7 => funext fun a8 => funext fun a9 => h2 a0 a1 a2 a3 a4 a5 a6 a7 a8 a9
  kernel_rfl
theorem q83_1 (k : Nat) (R0 : St → Option (Int)) (n : Nat) : ∀ v : (List Bool) × Int × (List Int) × (List Bool) × (List Int) × Int × (List Int) × Int, loopF (E83 k) (S83 k) Try.f83 p83_1 [R0] n (n83_1 v.1 v.2.1 v.2.2.1 v.2.2.2.1 v.2.2.2.2.1 v.2.2.2.2.2.1 v.2.2.2.2.2.2.1 v.2.2.2.2.2.2.2) = spec_l02Back.l1 k (fun a0 a1 a2 a3 a4 a5 => R0 (n83_0 a0 a1 a2 a3 a4 a5)) n v.1 v.2.1 v.2.2.1 v.2.2.2.1 v.2.2.2.2.1 v.2.2.2.2.2.1 v.2.2.2.2.2.2.1 v.2.2.2.2.2.2.2 :=
  loopF_eq (E83 k) (S83 k) Try.f83 p83_1 [R0] (fun v : (List Bool) × Int × (List Int) × (List Bool) × (List Int) × Int × (List Int) × Int => n83_1 v.1 v.2.1 v.2.2.1 v.2.2.2.1 v.2.2.2.2.1 v.2.2.2.2.2.1 v.2.2.2.2.2.2.1 v.2.2.2.2.2.2.2) (fun rec v => spec_l02Back.s1 k (fun a0 a1 a2 a3 a4 a5 => R0 (n83_0 a0 a1 a2 a3 a4 a5)) (fun a0 a1 a2 a3 a4 a5 a6 a7 => rec (a0, a1, a2, a3, a4, a5, a6, a7)) (spec_l02Back.l2 k (fun a0 a1 a2 a3 a4 a5 => R0 (n83_0 a0 a1 a2 a3 a4 a5)) (fun a0 a1 a2 a3 a4 a5 a6 a7 => rec (a0, a1, a2, a3, a4, a5, a6, a7)) k) v.1 v.2.1 v.2.2.1 v.2.2.2.1 v.2.2.2.2.1 v.2.2.2.2.2.1 v.2.2.2.2.2.2.1 v.2.2.2.2.2.2.2) (fun n v => spec_l02Back.l1 k (fun a0 a1 a2 a3 a4 a5 => R0 (n83_0 a0 a1 a2 a3 a4 a5)) n v.1 v.2.1 v.2.2.1 v.2.2.2.1 v.2.2.2.2.1 v.2.2.2.2.2.1 v.2.2.2.2.2.2.1 v.2.2.2.2.2.2.2) (fun _ => rfl) (fun _ _ => rfl) (fun rec v => r83_1 k R0 rec _ (fun a0 a1 a2 a3 a4 a5 a6 a7 a8 a9 => q83_2 k R0 rec k (a0, a1, a2, a3, a4, a5, a6, a7, a8, a9)) v) n
theorem r83_0 (k : Nat) (rec : St → Option (Int)) (G1 : (List Bool) → Int → (List Int) → (List Bool) → (List Int) → Int → (List Int) → Int → Option (Int)) (h1 : ∀ a0 a1 a2 a3 a4 a5 a6 a7, loopF (E83 k) (S83 k) Try.f83 p83_1 [rec] k (n83_1 a0 a1 a2 a3 a4 a5 a6 a7) = G1 a0 a1 a2 a3 a4 a5 a6 a7) (v : (List Bool) × Int × (List Int) × (List Bool) × (List Int) × Int) : roundF (E83 k) (S83 k) Try.f83 p83_0 [] rec (n83_0 v.1 v.2.1 v.2.2.1 v.2.2.2.1 v.2.2.2.2.1 v.2.2.2.2.2) = spec_l02Back.s0 k (fun a0 a1 a2 a3 a4 a5 => rec (n83_0 a0 a1 a2 a3 a4 a5)) G1 v.1 v.2.1 v.2.2.1 v.2.2.2.1 v.2.2.2.2.1 v.2.2.2.2.2 := by
  obtain rfl : (fun a0 a1 a2 a3 a4 a5 a6 a7 => loopF (E83 k) (S83 k) Try.f83 p83_1 [rec] k (n83_1 a0 a1 a2 a3 a4 a5 a6 a7)) = G1 := funext fun a0 => funext fun a1 => funext fun a2 => funext fun a3 => funext fun a4 => funext fun a5 => funext fun a6 => funext fun a7 => h1 a0 a1 a2 a3 a4 a5 a6 a7
  kernel_rfl
theorem q83_0 (k : Nat) (n : Nat) : ∀ v : (List Bool) × Int × (List Int) × (List Bool) × (List Int) × Int, loopF (E83 k) (S83 k) Try.f83 p83_0 [] n (n83_0 v.1 v.2.1 v.2.2.1 v.2.2.2.1 v.2.2.2.2.1 v.2.2.2.2.2) = spec_l02Back.l0 k n v.1 v.2.1 v.2.2.1 v.2.2.2.1 v.2.2.2.2.1 v.2.2.2.2.2 :=
  loopF_eq (E83 k) (S83 k) Try.f83 p83_0 [] (fun v : (List Bool) × Int × (List Int) × (List Bool) × (List Int) × Int => n83_0 v.1 v.2.1 v.2.2.1 v.2.2.2.1 v.2.2.2.2.1 v.2.2.2.2.2) (fun rec v => spec_l02Back.s0 k (fun a0 a1 a2 a3 a4 a5 => rec (a0, a1, a2, a3, a4, a5)) (spec_l02Back.l1 k (fun a0 a1 a2 a3 a4 a5 => rec (a0, a1, a2, a3, a4, a5)) k) v.1 v.2.1 v.2.2.1 v.2.2.2.1 v.2.2.2.2.1 v.2.2.2.2.2) (fun n v => spec_l02Back.l0 k n v.1 v.2.1 v.2.2.1 v.2.2.2.1 v.2.2.2.2.1 v.2.2.2.2.2) (fun _ => rfl) (fun _ _ => rfl) (fun rec v => r83_0 k rec _ (fun a0 a1 a2 a3 a4 a5 a6 a7 => q83_1 k rec k (a0, a1, a2, a3, a4, a5, a6, a7)) v) n
theorem e83 (k : Nat) (x : dens (flatC (S83 k).ps)) : funK (E83 k) (S83 k) Try.f83 x = (S83 k).fn x := by
  have h : funK (E83 k) (S83 k) Try.f83 x = spec_l02Back.g k (fun a0 a1 a2 a3 a4 a5 => loopF (E83 k) (S83 k) Try.f83 p83_0 [] k (n83_0 a0 a1 a2 a3 a4 a5)) x.1 x.2.1 x.2.2 := by kernel_rfl
  rw [h]
  rw [show (fun a0 a1 a2 a3 a4 a5 => loopF (E83 k) (S83 k) Try.f83 p83_0 [] k (n83_0 a0 a1 a2 a3 a4 a5)) = spec_l02Back.l0 k k from funext fun a0 => funext fun a1 => funext fun a2 => funext fun a3 => funext fun a4 => funext fun a5 => q83_0 k k (a0, a1, a2, a3, a4, a5)]
  rfl
theorem M83 (k : Nat) : Meets Try.prog 83 (S83 k) := meets_of Try.func83 (by kernel_rfl) tbOk (orc_cons (M82 k) (orc_cons (M90 k) (orc_cons (M63 k) (orc_cons (M58 k) orc_nil)))) mixOk (fun x y h => (e83 k x).trans h) rfl

/-! spec_FewestSlots: function 40 -/
def spec_FewestSlots.s0 (k : Nat) (r0 : (List Int) → (List Bool) → Int → Int → Option (Int × Int)) (x1_0 : List Int) (x5 : List Bool) (x6 : Int) (x7 : Int) : Option (Int × Int) := if x7 < (x5.length : Int) then (if 0 ≤ x7 then (if x7 < (x5.length : Int) then (if (rdOf false x5 x7) = true then ((spec_l02Of.f k x1_0 x7).bind fun t3 => if 0 < (t3.length : Int) then (if 0 < (x1_0.length : Int) then (if (rd t3 0) = (rd x1_0 0) then ((spec_l02Back.f k x1_0 x5 x7).bind fun t4 => if 0 < t4 then (if x6 = 0 then (r0 x1_0 x5 t4 (wrap64 (x7 + 1))) else (if t4 < x6 then (r0 x1_0 x5 t4 (wrap64 (x7 + 1))) else (r0 x1_0 x5 x6 (wrap64 (x7 + 1))))) else (r0 x1_0 x5 x6 (wrap64 (x7 + 1)))) else (r0 x1_0 x5 x6 (wrap64 (x7 + 1)))) else (none)) else (none)) else (r0 x1_0 x5 x6 (wrap64 (x7 + 1)))) else (none)) else (none)) else (some (x6, 0))
def spec_FewestSlots.l0 (k : Nat) : Nat → (List Int) → (List Bool) → Int → Int → Option (Int × Int)
  | 0, _, _, _, _ => none
  | n + 1, x0, x1, x2, x3 => spec_FewestSlots.s0 k (spec_FewestSlots.l0 k n) x0 x1 x2 x3
def spec_FewestSlots.g (k : Nat) (r0 : (List Int) → (List Bool) → Int → Int → Option (Int × Int)) (l0_0 : List Int) : Option (Int × Int) := (spec_l02Few.f k l0_0).bind fun t1 => if t1 = 0 then ((spec_l02Lasting.f k l0_0).bind fun t2 => if 0 ≤ (wrap64 ((t2.length : Int) - 1)) then (if (wrap64 ((t2.length : Int) - 1)) < (t2.length : Int) then (if (rdOf false t2 (wrap64 ((t2.length : Int) - 1))) = true then (r0 l0_0 t2 0 0) else (some (0, 4))) else (none)) else (none)) else (some (0, t1))
def spec_FewestSlots.f (k : Nat) (l0_0 : List Int) : Option (Int × Int) := spec_FewestSlots.g k (spec_FewestSlots.l0 k k) l0_0
def S40 (k : Nat) : Does := ⟨[(true, [.dat (.list (.int .i64))])], [(false, [.dat (.int .i64)]), (false, [.dat (.int .i64)])], fun x => spec_FewestSlots.f k x⟩
def E40 (k : Nat) : En := ⟨tb, orcOf [(52, S52 k), (53, S53 k), (82, S82 k), (83, S83 k)], lvOf [(0, [(1, []), (5, []), (6, []), (7, [])])], k, 0, lvOf [], []⟩
def n40_0 (x1_0 : List Int) (x5 : List Bool) (x6 : Int) (x7 : Int) : St := ⟨63, lookA [(1, .box 0 0), (5, .own 1), (6, .dat (.int .i64) x6), (7, .dat (.int .i64) x7)], Go.V.look [(0, .cells [.dat (.list (.int .i64)) x1_0]), (1, .flat 4 .bool x5)]⟩
def p40_0 : List Bool := [true, true, true, true, false, true, false]
theorem r40_0 (k : Nat) (rec : St → Option (Int × Int)) (v : (List Int) × (List Bool) × Int × Int) : roundF (E40 k) (S40 k) Try.f40 p40_0 [] rec (n40_0 v.1 v.2.1 v.2.2.1 v.2.2.2) = spec_FewestSlots.s0 k (fun a0 a1 a2 a3 => rec (n40_0 a0 a1 a2 a3)) v.1 v.2.1 v.2.2.1 v.2.2.2 := by
  kernel_rfl
theorem q40_0 (k : Nat) (n : Nat) : ∀ v : (List Int) × (List Bool) × Int × Int, loopF (E40 k) (S40 k) Try.f40 p40_0 [] n (n40_0 v.1 v.2.1 v.2.2.1 v.2.2.2) = spec_FewestSlots.l0 k n v.1 v.2.1 v.2.2.1 v.2.2.2 :=
  loopF_eq (E40 k) (S40 k) Try.f40 p40_0 [] (fun v : (List Int) × (List Bool) × Int × Int => n40_0 v.1 v.2.1 v.2.2.1 v.2.2.2) (fun rec v => spec_FewestSlots.s0 k (fun a0 a1 a2 a3 => rec (a0, a1, a2, a3)) v.1 v.2.1 v.2.2.1 v.2.2.2) (fun n v => spec_FewestSlots.l0 k n v.1 v.2.1 v.2.2.1 v.2.2.2) (fun _ => rfl) (fun _ _ => rfl) (fun rec v => r40_0 k rec v) n
theorem e40 (k : Nat) (x : dens (flatC (S40 k).ps)) : funK (E40 k) (S40 k) Try.f40 x = (S40 k).fn x := by
  have h : funK (E40 k) (S40 k) Try.f40 x = spec_FewestSlots.g k (fun a0 a1 a2 a3 => loopF (E40 k) (S40 k) Try.f40 p40_0 [] k (n40_0 a0 a1 a2 a3)) x := by kernel_rfl
  rw [h]
  rw [show (fun a0 a1 a2 a3 => loopF (E40 k) (S40 k) Try.f40 p40_0 [] k (n40_0 a0 a1 a2 a3)) = spec_FewestSlots.l0 k k from funext fun a0 => funext fun a1 => funext fun a2 => funext fun a3 => q40_0 k k (a0, a1, a2, a3)]
  rfl
theorem M40 (k : Nat) : Meets Try.prog 40 (S40 k) := meets_of Try.func40 (by kernel_rfl) tbOk (orc_cons (M52 k) (orc_cons (M53 k) (orc_cons (M82 k) (orc_cons (M83 k) orc_nil)))) mixOk (fun x y h => (e40 k x).trans h) rfl

/-! slices_Max_int64_int64: function 85 -/
def slices_Max_int64_int64.s0 (k : Nat) (r0 : (List Int) → Int → Int → Option (Int)) (x0 : List Int) (x3 : Int) (x4 : Int) : Option (Int) := if x4 < (x0.length : Int) then (if 0 ≤ x4 then (if x4 < (x0.length : Int) then (r0 x0 (maxV x3 (rd x0 x4)) (wrap64 (x4 + 1))) else (none)) else (none)) else (some x3)
def slices_Max_int64_int64.l0 (k : Nat) : Nat → (List Int) → Int → Int → Option (Int)
  | 0, _, _, _ => none
  | n + 1, x0, x1, x2 => slices_Max_int64_int64.s0 k (slices_Max_int64_int64.l0 k n) x0 x1 x2
def slices_Max_int64_int64.g (k : Nat) (r0 : (List Int) → Int → Int → Option (Int)) (l0 : List Int) : Option (Int) := if (l0.length : Int) < 1 then (none) else (if 0 < (l0.length : Int) then (r0 l0 (rd l0 0) 1) else (none))
def slices_Max_int64_int64.f (k : Nat) (l0 : List Int) : Option (Int) := slices_Max_int64_int64.g k (slices_Max_int64_int64.l0 k k) l0
def S85 (k : Nat) : Does := ⟨[(false, [.dat (.list (.int .i64))])], [(false, [.dat (.int .i64)])], fun x => slices_Max_int64_int64.f k x⟩
def E85 (k : Nat) : En := ⟨tb, orcOf [], lvOf [(0, [(0, []), (3, []), (4, [])])], k, 0, lvOf [], []⟩
def n85_0 (x0 : List Int) (x3 : Int) (x4 : Int) : St := ⟨25, lookA [(0, .dat (.list (.int .i64)) x0), (3, .dat (.int .i64) x3), (4, .dat (.int .i64) x4)], Go.V.look []⟩
def p85_0 : List Bool := [true, true, true, false, true, false]
theorem r85_0 (k : Nat) (rec : St → Option (Int)) (v : (List Int) × Int × Int) : roundF (E85 k) (S85 k) Try.f85 p85_0 [] rec (n85_0 v.1 v.2.1 v.2.2) = slices_Max_int64_int64.s0 k (fun a0 a1 a2 => rec (n85_0 a0 a1 a2)) v.1 v.2.1 v.2.2 := by
  kernel_rfl
theorem q85_0 (k : Nat) (n : Nat) : ∀ v : (List Int) × Int × Int, loopF (E85 k) (S85 k) Try.f85 p85_0 [] n (n85_0 v.1 v.2.1 v.2.2) = slices_Max_int64_int64.l0 k n v.1 v.2.1 v.2.2 :=
  loopF_eq (E85 k) (S85 k) Try.f85 p85_0 [] (fun v : (List Int) × Int × Int => n85_0 v.1 v.2.1 v.2.2) (fun rec v => slices_Max_int64_int64.s0 k (fun a0 a1 a2 => rec (a0, a1, a2)) v.1 v.2.1 v.2.2) (fun n v => slices_Max_int64_int64.l0 k n v.1 v.2.1 v.2.2) (fun _ => rfl) (fun _ _ => rfl) (fun rec v => r85_0 k rec v) n
theorem e85 (k : Nat) (x : dens (flatC (S85 k).ps)) : funK (E85 k) (S85 k) Try.f85 x = (S85 k).fn x := by
  have h : funK (E85 k) (S85 k) Try.f85 x = slices_Max_int64_int64.g k (fun a0 a1 a2 => loopF (E85 k) (S85 k) Try.f85 p85_0 [] k (n85_0 a0 a1 a2)) x := by kernel_rfl
  rw [h]
  rw [show (fun a0 a1 a2 => loopF (E85 k) (S85 k) Try.f85 p85_0 [] k (n85_0 a0 a1 a2)) = slices_Max_int64_int64.l0 k k from funext fun a0 => funext fun a1 => funext fun a2 => q85_0 k k (a0, a1, a2)]
  rfl
theorem M85 (k : Nat) : Meets Try.prog 85 (S85 k) := meets_of Try.func85 (by kernel_rfl) tbOk orc_nil mixOk (fun x y h => (e85 k x).trans h) rfl

/-! slices_Index_int64_int64: function 84 -/
def slices_Index_int64_int64.s0 (k : Nat) (r0 : (List Int) → Int → Int → Int → Option (Int)) (x0 : List Int) (x1 : Int) (x7 : Int) (x8 : Int) : Option (Int) := if x8 < x7 then (if 0 ≤ x8 then (if x8 < (x0.length : Int) then (if x1 = (rd x0 x8) then (some x8) else (r0 x0 x1 x7 (wrap64 (x8 + 1)))) else (none)) else (none)) else (some (-1))
def slices_Index_int64_int64.l0 (k : Nat) : Nat → (List Int) → Int → Int → Int → Option (Int)
  | 0, _, _, _, _ => none
  | n + 1, x0, x1, x2, x3 => slices_Index_int64_int64.s0 k (slices_Index_int64_int64.l0 k n) x0 x1 x2 x3
def slices_Index_int64_int64.g (k : Nat) (r0 : (List Int) → Int → Int → Int → Option (Int)) (l0 : List Int) (a1 : Int) : Option (Int) := r0 l0 a1 (l0.length : Int) 0
def slices_Index_int64_int64.f (k : Nat) (l0 : List Int) (a1 : Int) : Option (Int) := slices_Index_int64_int64.g k (slices_Index_int64_int64.l0 k k) l0 a1
def S84 (k : Nat) : Does := ⟨[(false, [.dat (.list (.int .i64))]), (false, [.dat (.int .i64)])], [(false, [.dat (.int .i64)])], fun x => slices_Index_int64_int64.f k x.1 x.2⟩
def E84 (k : Nat) : En := ⟨tb, orcOf [], lvOf [(0, [(0, []), (1, []), (7, []), (8, [])])], k, 0, lvOf [], []⟩
def n84_0 (x0 : List Int) (x1 : Int) (x7 : Int) (x8 : Int) : St := ⟨19, lookA [(0, .dat (.list (.int .i64)) x0), (1, .dat (.int .i64) x1), (7, .dat (.int .i64) x7), (8, .dat (.int .i64) x8)], Go.V.look []⟩
def p84_0 : List Bool := [true, false, true, false]
theorem r84_0 (k : Nat) (rec : St → Option (Int)) (v : (List Int) × Int × Int × Int) : roundF (E84 k) (S84 k) Try.f84 p84_0 [] rec (n84_0 v.1 v.2.1 v.2.2.1 v.2.2.2) = slices_Index_int64_int64.s0 k (fun a0 a1 a2 a3 => rec (n84_0 a0 a1 a2 a3)) v.1 v.2.1 v.2.2.1 v.2.2.2 := by
  kernel_rfl
theorem q84_0 (k : Nat) (n : Nat) : ∀ v : (List Int) × Int × Int × Int, loopF (E84 k) (S84 k) Try.f84 p84_0 [] n (n84_0 v.1 v.2.1 v.2.2.1 v.2.2.2) = slices_Index_int64_int64.l0 k n v.1 v.2.1 v.2.2.1 v.2.2.2 :=
  loopF_eq (E84 k) (S84 k) Try.f84 p84_0 [] (fun v : (List Int) × Int × Int × Int => n84_0 v.1 v.2.1 v.2.2.1 v.2.2.2) (fun rec v => slices_Index_int64_int64.s0 k (fun a0 a1 a2 a3 => rec (a0, a1, a2, a3)) v.1 v.2.1 v.2.2.1 v.2.2.2) (fun n v => slices_Index_int64_int64.l0 k n v.1 v.2.1 v.2.2.1 v.2.2.2) (fun _ => rfl) (fun _ _ => rfl) (fun rec v => r84_0 k rec v) n
theorem e84 (k : Nat) (x : dens (flatC (S84 k).ps)) : funK (E84 k) (S84 k) Try.f84 x = (S84 k).fn x := by
  have h : funK (E84 k) (S84 k) Try.f84 x = slices_Index_int64_int64.g k (fun a0 a1 a2 a3 => loopF (E84 k) (S84 k) Try.f84 p84_0 [] k (n84_0 a0 a1 a2 a3)) x.1 x.2 := by kernel_rfl
  rw [h]
  rw [show (fun a0 a1 a2 a3 => loopF (E84 k) (S84 k) Try.f84 p84_0 [] k (n84_0 a0 a1 a2 a3)) = slices_Index_int64_int64.l0 k k from funext fun a0 => funext fun a1 => funext fun a2 => funext fun a3 => q84_0 k k (a0, a1, a2, a3)]
  rfl
theorem M84 (k : Nat) : Meets Try.prog 84 (S84 k) := meets_of Try.func84 (by kernel_rfl) tbOk orc_nil mixOk (fun x y h => (e84 k x).trans h) rfl

/-! impl_graph_back: function 87 -/
def impl_graph_back.s1 (k : Nat) (r0 : ((List Int) × (List (List (Int × Int))) × (List Bool)) → Int → (List (Int × Int)) → (List Int) → Option (Int)) (r1 : ((List Int) × (List (List (Int × Int))) × (List Bool)) → Int → (List (Int × Int)) → (List Int) → Int → (List Int) → Int → Int → Option (Int)) (x0 : (List Int) × (List (List (Int × Int))) × (List Bool)) (x1 : Int) (x5 : List (Int × Int)) (x6 : List Int) (x7 : Int) (x28 : List Int) (x29 : Int) (x30 : Int) : Option (Int) := if x30 < x29 then (if 0 ≤ x30 then (if x30 < (x28.length : Int) then (if 0 ≤ x7 then (if x7 < (x0.2.1.length : Int) then (if ((mgI (rdOf ([] : List (Int × Int)) x0.2.1 x7) (rd x28 x30)).getD 0) = x1 then (some (wrap64 (((mgI x5 x7).getD 0) + 1))) else (if (mgI x5 ((mgI (rdOf ([] : List (Int × Int)) x0.2.1 x7) (rd x28 x30)).getD 0)).isSome = true then (r1 x0 x1 x5 x6 x7 x28 x29 (wrap64 (x30 + 1))) else (if x6.length + 1 ≤ 1099511627776 then (r1 x0 x1 (mpI x5 ((mgI (rdOf ([] : List (Int × Int)) x0.2.1 x7) (rd x28 x30)).getD 0) (wrap64 (((mgI x5 x7).getD 0) + 1))) (x6 ++ [((mgI (rdOf ([] : List (Int × Int)) x0.2.1 x7) (rd x28 x30)).getD 0)]) x7 x28 x29 (wrap64 (x30 + 1))) else (none)))) else (none)) else (none)) else (none)) else (none)) else (if 1 ≤ (x6.length : Int) then (if (x6.length : Int) ≤ (x6.length : Int) then (r0 x0 x1 x5 (x6.drop (1 : Int).toNat)) else (none)) else (none))
def impl_graph_back.l1 (k : Nat) (r0 : ((List Int) × (List (List (Int × Int))) × (List Bool)) → Int → (List (Int × Int)) → (List Int) → Option (Int)) : Nat → ((List Int) × (List (List (Int × Int))) × (List Bool)) → Int → (List (Int × Int)) → (List Int) → Int → (List Int) → Int → Int → Option (Int)
  | 0, _, _, _, _, _, _, _, _ => none
  | n + 1, x0, x1, x2, x3, x4, x5, x6, x7 => impl_graph_back.s1 k r0 (impl_graph_back.l1 k r0 n) x0 x1 x2 x3 x4 x5 x6 x7
def impl_graph_back.s0 (k : Nat) (r0 : ((List Int) × (List (List (Int × Int))) × (List Bool)) → Int → (List (Int × Int)) → (List Int) → Option (Int)) (r1 : ((List Int) × (List (List (Int × Int))) × (List Bool)) → Int → (List (Int × Int)) → (List Int) → Int → (List Int) → Int → Int → Option (Int)) (x0 : (List Int) × (List (List (Int × Int))) × (List Bool)) (x1 : Int) (x5 : List (Int × Int)) (x6 : List Int) : Option (Int) := if 0 < (x6.length : Int) then (if 0 < (x6.length : Int) then ((impl_graph_keeping.f k x0 (rd x6 0)).bind fun t1 => r1 x0 x1 x5 x6 (rd x6 0) t1 (t1.length : Int) 0) else (none)) else (some 0)
def impl_graph_back.l0 (k : Nat) : Nat → ((List Int) × (List (List (Int × Int))) × (List Bool)) → Int → (List (Int × Int)) → (List Int) → Option (Int)
  | 0, _, _, _, _ => none
  | n + 1, x0, x1, x2, x3 => impl_graph_back.s0 k (impl_graph_back.l0 k n) (impl_graph_back.l1 k (impl_graph_back.l0 k n) k) x0 x1 x2 x3
def impl_graph_back.g (k : Nat) (r0 : ((List Int) × (List (List (Int × Int))) × (List Bool)) → Int → (List (Int × Int)) → (List Int) → Option (Int)) (a0 : (List Int) × (List (List (Int × Int))) × (List Bool)) (a1 : Int) : Option (Int) := r0 a0 a1 (mpI [] a1 0) [a1]
def impl_graph_back.f (k : Nat) (a0 : (List Int) × (List (List (Int × Int))) × (List Bool)) (a1 : Int) : Option (Int) := impl_graph_back.g k (impl_graph_back.l0 k k) a0 a1
def S87 (k : Nat) : Does := ⟨[(false, [.dat (.ptr (.struct (.pair (.struct (.list (.int .i64))) (.pair (.list (.map (.int .i64) (.int .i64))) (.list .bool)))))]), (false, [.dat (.int .i64)])], [(false, [.dat (.int .i64)])], fun x => impl_graph_back.f k x.1 x.2⟩
def E87 (k : Nat) : En := ⟨tb, orcOf [(72, S72 k)], lvOf [(0, [(0, []), (1, []), (5, []), (6, [.que])]), (2, [(0, []), (1, []), (5, []), (6, []), (7, []), (28, []), (29, []), (30, [])])], k, 0, lvOf [], []⟩
def n87_0 (x0 : (List Int) × (List (List (Int × Int))) × (List Bool)) (x1 : Int) (x5 : List (Int × Int)) (x6 : List Int) : St := ⟨69, lookA [(0, .dp (.struct (.pair (.struct (.list (.int .i64))) (.pair (.list (.map (.int .i64) (.int .i64))) (.list .bool)))) x0), (1, .dat (.int .i64) x1), (5, .om 0), (6, .own 1)], Go.V.look [(0, .mp (.int .i64) (.int .i64) x5), (1, .que 2 (.int .i64) x6)]⟩
def p87_0 : List Bool := [true, true, false, true, false]
def n87_1 (x0 : (List Int) × (List (List (Int × Int))) × (List Bool)) (x1 : Int) (x5 : List (Int × Int)) (x6 : List Int) (x7 : Int) (x28 : List Int) (x29 : Int) (x30 : Int) : St := ⟨69, lookA [(0, .dp (.struct (.pair (.struct (.list (.int .i64))) (.pair (.list (.map (.int .i64) (.int .i64))) (.list .bool)))) x0), (1, .dat (.int .i64) x1), (5, .om 0), (6, .own 1), (7, .dat (.int .i64) x7), (28, .own 2), (29, .dat (.int .i64) x29), (30, .dat (.int .i64) x30)], Go.V.look [(0, .mp (.int .i64) (.int .i64) x5), (1, .que 2 (.int .i64) x6), (2, .flat 2 (.int .i64) x28)]⟩
def p87_1 : List Bool := [true, true, false, true, false, false, true, false, false, true, true, false]
theorem r87_1 (k : Nat) (R0 : St → Option (Int)) (rec : St → Option (Int)) (v : ((List Int) × (List (List (Int × Int))) × (List Bool)) × Int × (List (Int × Int)) × (List Int) × Int × (List Int) × Int × Int) : roundF (E87 k) (S87 k) Try.f87 p87_1 [R0] rec (n87_1 v.1 v.2.1 v.2.2.1 v.2.2.2.1 v.2.2.2.2.1 v.2.2.2.2.2.1 v.2.2.2.2.2.2.1 v.2.2.2.2.2.2.2) = impl_graph_back.s1 k (fun a0 a1 a2 a3 => R0 (n87_0 a0 a1 a2 a3)) (fun a0 a1 a2 a3 a4 a5 a6 a7 => rec (n87_1 a0 a1 a2 a3 a4 a5 a6 a7)) v.1 v.2.1 v.2.2.1 v.2.2.2.1 v.2.2.2.2.1 v.2.2.2.2.2.1 v.2.2.2.2.2.2.1 v.2.2.2.2.2.2.2 := by
  kernel_rfl
theorem q87_1 (k : Nat) (R0 : St → Option (Int)) (n : Nat) : ∀ v : ((List Int) × (List (List (Int × Int))) × (List Bool)) × Int × (List (Int × Int)) × (List Int) × Int × (List Int) × Int × Int, loopF (E87 k) (S87 k) Try.f87 p87_1 [R0] n (n87_1 v.1 v.2.1 v.2.2.1 v.2.2.2.1 v.2.2.2.2.1 v.2.2.2.2.2.1 v.2.2.2.2.2.2.1 v.2.2.2.2.2.2.2) = impl_graph_back.l1 k (fun a0 a1 a2 a3 => R0 (n87_0 a0 a1 a2 a3)) n v.1 v.2.1 v.2.2.1 v.2.2.2.1 v.2.2.2.2.1 v.2.2.2.2.2.1 v.2.2.2.2.2.2.1 v.2.2.2.2.2.2.2 :=
  loopF_eq (E87 k) (S87 k) Try.f87 p87_1 [R0] (fun v : ((List Int) × (List (List (Int × Int))) × (List Bool)) × Int × (List (Int × Int)) × (List Int) × Int × (List Int) × Int × Int => n87_1 v.1 v.2.1 v.2.2.1 v.2.2.2.1 v.2.2.2.2.1 v.2.2.2.2.2.1 v.2.2.2.2.2.2.1 v.2.2.2.2.2.2.2) (fun rec v => impl_graph_back.s1 k (fun a0 a1 a2 a3 => R0 (n87_0 a0 a1 a2 a3)) (fun a0 a1 a2 a3 a4 a5 a6 a7 => rec (a0, a1, a2, a3, a4, a5, a6, a7)) v.1 v.2.1 v.2.2.1 v.2.2.2.1 v.2.2.2.2.1 v.2.2.2.2.2.1 v.2.2.2.2.2.2.1 v.2.2.2.2.2.2.2) (fun n v => impl_graph_back.l1 k (fun a0 a1 a2 a3 => R0 (n87_0 a0 a1 a2 a3)) n v.1 v.2.1 v.2.2.1 v.2.2.2.1 v.2.2.2.2.1 v.2.2.2.2.2.1 v.2.2.2.2.2.2.1 v.2.2.2.2.2.2.2) (fun _ => rfl) (fun _ _ => rfl) (fun rec v => r87_1 k R0 rec v) n
theorem r87_0 (k : Nat) (rec : St → Option (Int)) (G1 : ((List Int) × (List (List (Int × Int))) × (List Bool)) → Int → (List (Int × Int)) → (List Int) → Int → (List Int) → Int → Int → Option (Int)) (h1 : ∀ a0 a1 a2 a3 a4 a5 a6 a7, loopF (E87 k) (S87 k) Try.f87 p87_1 [rec] k (n87_1 a0 a1 a2 a3 a4 a5 a6 a7) = G1 a0 a1 a2 a3 a4 a5 a6 a7) (v : ((List Int) × (List (List (Int × Int))) × (List Bool)) × Int × (List (Int × Int)) × (List Int)) : roundF (E87 k) (S87 k) Try.f87 p87_0 [] rec (n87_0 v.1 v.2.1 v.2.2.1 v.2.2.2) = impl_graph_back.s0 k (fun a0 a1 a2 a3 => rec (n87_0 a0 a1 a2 a3)) G1 v.1 v.2.1 v.2.2.1 v.2.2.2 := by
  obtain rfl : (fun a0 a1 a2 a3 a4 a5 a6 a7 => loopF (E87 k) (S87 k) Try.f87 p87_1 [rec] k (n87_1 a0 a1 a2 a3 a4 a5 a6 a7)) = G1 := funext fun a0 => funext fun a1 => funext fun a2 => funext fun a3 => funext fun a4 => funext fun a5 => funext fun a6 => funext fun a7 => h1 a0 a1 a2 a3 a4 a5 a6 a7
  kernel_rfl
theorem q87_0 (k : Nat) (n : Nat) : ∀ v : ((List Int) × (List (List (Int × Int))) × (List Bool)) × Int × (List (Int × Int)) × (List Int), loopF (E87 k) (S87 k) Try.f87 p87_0 [] n (n87_0 v.1 v.2.1 v.2.2.1 v.2.2.2) = impl_graph_back.l0 k n v.1 v.2.1 v.2.2.1 v.2.2.2 :=
  loopF_eq (E87 k) (S87 k) Try.f87 p87_0 [] (fun v : ((List Int) × (List (List (Int × Int))) × (List Bool)) × Int × (List (Int × Int)) × (List Int) => n87_0 v.1 v.2.1 v.2.2.1 v.2.2.2) (fun rec v => impl_graph_back.s0 k (fun a0 a1 a2 a3 => rec (a0, a1, a2, a3)) (impl_graph_back.l1 k (fun a0 a1 a2 a3 => rec (a0, a1, a2, a3)) k) v.1 v.2.1 v.2.2.1 v.2.2.2) (fun n v => impl_graph_back.l0 k n v.1 v.2.1 v.2.2.1 v.2.2.2) (fun _ => rfl) (fun _ _ => rfl) (fun rec v => r87_0 k rec _ (fun a0 a1 a2 a3 a4 a5 a6 a7 => q87_1 k rec k (a0, a1, a2, a3, a4, a5, a6, a7)) v) n
theorem e87 (k : Nat) (x : dens (flatC (S87 k).ps)) : funK (E87 k) (S87 k) Try.f87 x = (S87 k).fn x := by
  have h : funK (E87 k) (S87 k) Try.f87 x = impl_graph_back.g k (fun a0 a1 a2 a3 => loopF (E87 k) (S87 k) Try.f87 p87_0 [] k (n87_0 a0 a1 a2 a3)) x.1 x.2 := by kernel_rfl
  rw [h]
  rw [show (fun a0 a1 a2 a3 => loopF (E87 k) (S87 k) Try.f87 p87_0 [] k (n87_0 a0 a1 a2 a3)) = impl_graph_back.l0 k k from funext fun a0 => funext fun a1 => funext fun a2 => funext fun a3 => q87_0 k k (a0, a1, a2, a3)]
  rfl
theorem M87 (k : Nat) : Meets Try.prog 87 (S87 k) := meets_of Try.func87 (by kernel_rfl) tbOk (orc_cons (M72 k) orc_nil) mixOk (fun x y h => (e87 k x).trans h) rfl

/-! impl_FewestSlots: function 41 -/
def impl_FewestSlots.s0 (k : Nat) (r0 : (List Int) → (Option ((List Int) × (List (List (Int × Int))) × (List Bool))) → Int → Int → (List Bool) → Int → Int → Option (Int × Int)) (x1_0 : List Int) (x4 : Option ((List Int) × (List (List (Int × Int))) × (List Bool))) (x6 : Int) (x7 : Int) (x28 : List Bool) (x29 : Int) (x30 : Int) : Option (Int × Int) := if x30 < x29 then (if 0 ≤ x30 then (if x30 < (x28.length : Int) then (if (rdOf false x28 x30) = true then ((impl_Tasks_numbered.f k x1_0 x30).bind fun t5 => if 0 ≤ x6 then (if x6 < (t5.length : Int) then (if 0 ≤ x6 then (if x6 < (x1_0.length : Int) then (if (rd t5 x6) = (rd x1_0 x6) then ((x4).bind fun u6 => (impl_graph_back.f k u6 x30).bind fun t7 => if 0 < t7 then (if x7 = 0 then (r0 x1_0 x4 x6 t7 x28 x29 (wrap64 (x30 + 1))) else (if t7 < x7 then (r0 x1_0 x4 x6 t7 x28 x29 (wrap64 (x30 + 1))) else (r0 x1_0 x4 x6 x7 x28 x29 (wrap64 (x30 + 1))))) else (r0 x1_0 x4 x6 x7 x28 x29 (wrap64 (x30 + 1)))) else (r0 x1_0 x4 x6 x7 x28 x29 (wrap64 (x30 + 1)))) else (none)) else (none)) else (none)) else (none)) else (r0 x1_0 x4 x6 x7 x28 x29 (wrap64 (x30 + 1)))) else (none)) else (none)) else (some (x7, 0))
def impl_FewestSlots.l0 (k : Nat) : Nat → (List Int) → (Option ((List Int) × (List (List (Int × Int))) × (List Bool))) → Int → Int → (List Bool) → Int → Int → Option (Int × Int)
  | 0, _, _, _, _, _, _, _ => none
  | n + 1, x0, x1, x2, x3, x4, x5, x6 => impl_FewestSlots.s0 k (impl_FewestSlots.l0 k n) x0 x1 x2 x3 x4 x5 x6
def impl_FewestSlots.g (k : Nat) (r0 : (List Int) → (Option ((List Int) × (List (List (Int × Int))) × (List Bool))) → Int → Int → (List Bool) → Int → Int → Option (Int × Int)) (l0_0 : List Int) : Option (Int × Int) := (impl_servable.f k l0_0 true).bind fun t1 => if t1.2 = 0 then ((slices_Max_int64_int64.f k l0_0).bind fun t2 => (slices_Index_int64_int64.f k l0_0 t2).bind fun t3 => (t1.1).bind fun u4 => r0 l0_0 t1.1 t3 0 u4.2.2 (u4.2.2.length : Int) 0) else (some (0, t1.2))
def impl_FewestSlots.f (k : Nat) (l0_0 : List Int) : Option (Int × Int) := impl_FewestSlots.g k (impl_FewestSlots.l0 k k) l0_0
def S41 (k : Nat) : Does := ⟨[(true, [.dat (.list (.int .i64))])], [(false, [.dat (.int .i64)]), (false, [.dat (.int .i64)])], fun x => impl_FewestSlots.f k x⟩
def E41 (k : Nat) : En := ⟨tb, orcOf [(69, S69 k), (85, S85 k), (84, S84 k), (86, S86 k), (87, S87 k)], lvOf [(0, [(1, []), (4, []), (6, []), (7, []), (28, []), (29, []), (30, [])])], k, 0, lvOf [], []⟩
def n41_0 (x1_0 : List Int) (x4 : Option ((List Int) × (List (List (Int × Int))) × (List Bool))) (x6 : Int) (x7 : Int) (x28 : List Bool) (x29 : Int) (x30 : Int) : St := ⟨68, lookA [(1, .box 0 0), (4, .dat (.optr (.struct (.pair (.struct (.list (.int .i64))) (.pair (.list (.map (.int .i64) (.int .i64))) (.list .bool))))) x4), (6, .dat (.int .i64) x6), (7, .dat (.int .i64) x7), (28, .dat (.list .bool) x28), (29, .dat (.int .i64) x29), (30, .dat (.int .i64) x30)], Go.V.look [(0, .cells [.dat (.list (.int .i64)) x1_0])]⟩
def p41_0 : List Bool := [true, true, true, true, true, false, true, false]
theorem r41_0 (k : Nat) (rec : St → Option (Int × Int)) (v : (List Int) × (Option ((List Int) × (List (List (Int × Int))) × (List Bool))) × Int × Int × (List Bool) × Int × Int) : roundF (E41 k) (S41 k) Try.f41 p41_0 [] rec (n41_0 v.1 v.2.1 v.2.2.1 v.2.2.2.1 v.2.2.2.2.1 v.2.2.2.2.2.1 v.2.2.2.2.2.2) = impl_FewestSlots.s0 k (fun a0 a1 a2 a3 a4 a5 a6 => rec (n41_0 a0 a1 a2 a3 a4 a5 a6)) v.1 v.2.1 v.2.2.1 v.2.2.2.1 v.2.2.2.2.1 v.2.2.2.2.2.1 v.2.2.2.2.2.2 := by
  kernel_rfl
theorem q41_0 (k : Nat) (n : Nat) : ∀ v : (List Int) × (Option ((List Int) × (List (List (Int × Int))) × (List Bool))) × Int × Int × (List Bool) × Int × Int, loopF (E41 k) (S41 k) Try.f41 p41_0 [] n (n41_0 v.1 v.2.1 v.2.2.1 v.2.2.2.1 v.2.2.2.2.1 v.2.2.2.2.2.1 v.2.2.2.2.2.2) = impl_FewestSlots.l0 k n v.1 v.2.1 v.2.2.1 v.2.2.2.1 v.2.2.2.2.1 v.2.2.2.2.2.1 v.2.2.2.2.2.2 :=
  loopF_eq (E41 k) (S41 k) Try.f41 p41_0 [] (fun v : (List Int) × (Option ((List Int) × (List (List (Int × Int))) × (List Bool))) × Int × Int × (List Bool) × Int × Int => n41_0 v.1 v.2.1 v.2.2.1 v.2.2.2.1 v.2.2.2.2.1 v.2.2.2.2.2.1 v.2.2.2.2.2.2) (fun rec v => impl_FewestSlots.s0 k (fun a0 a1 a2 a3 a4 a5 a6 => rec (a0, a1, a2, a3, a4, a5, a6)) v.1 v.2.1 v.2.2.1 v.2.2.2.1 v.2.2.2.2.1 v.2.2.2.2.2.1 v.2.2.2.2.2.2) (fun n v => impl_FewestSlots.l0 k n v.1 v.2.1 v.2.2.1 v.2.2.2.1 v.2.2.2.2.1 v.2.2.2.2.2.1 v.2.2.2.2.2.2) (fun _ => rfl) (fun _ _ => rfl) (fun rec v => r41_0 k rec v) n
theorem e41 (k : Nat) (x : dens (flatC (S41 k).ps)) : funK (E41 k) (S41 k) Try.f41 x = (S41 k).fn x := by
  have h : funK (E41 k) (S41 k) Try.f41 x = impl_FewestSlots.g k (fun a0 a1 a2 a3 a4 a5 a6 => loopF (E41 k) (S41 k) Try.f41 p41_0 [] k (n41_0 a0 a1 a2 a3 a4 a5 a6)) x := by kernel_rfl
  rw [h]
  rw [show (fun a0 a1 a2 a3 a4 a5 a6 => loopF (E41 k) (S41 k) Try.f41 p41_0 [] k (n41_0 a0 a1 a2 a3 a4 a5 a6)) = impl_FewestSlots.l0 k k from funext fun a0 => funext fun a1 => funext fun a2 => funext fun a3 => funext fun a4 => funext fun a5 => funext fun a6 => q41_0 k k (a0, a1, a2, a3, a4, a5, a6)]
  rfl
theorem M41 (k : Nat) : Meets Try.prog 41 (S41 k) := meets_of Try.func41 (by kernel_rfl) tbOk (orc_cons (M69 k) (orc_cons (M85 k) (orc_cons (M84 k) (orc_cons (M86 k) (orc_cons (M87 k) orc_nil))))) mixOk (fun x y h => (e41 k x).trans h) rfl

/-! laws_FnExactFewestSlots: function 10 -/
def laws_FnExactFewestSlots.f (k : Nat) (l0_0 : List Int) : Option (Bool) := (laws_szTasks.f l0_0 1048576).bind fun t1 => if t1 < 0 then (some true) else ((laws_toTasks.f k l0_0).bind fun t2 => (spec_FewestSlots.f k t2).bind fun t3 => (laws_toTasks.f k l0_0).bind fun t4 => (impl_FewestSlots.f k t4).bind fun t5 => if t5.1 = t3.1 then (if t5.2 = t3.2 then ((laws_toTasks.f k l0_0).bind fun t6 => (laws_eqTasks.f k t4 t6).bind fun t7 => if t7 = true then (some true) else (some false)) else (some false)) else (some false))
def S10 (k : Nat) : Does := ⟨[(true, [.dat (.list (.int .i64))])], [(false, [.dat .bool])], fun x => laws_FnExactFewestSlots.f k x⟩
def E10 (k : Nat) : En := ⟨tb, orcOf [(15, S15 k), (17, S17 k), (40, S40 k), (41, S41 k), (19, S19 k)], lvOf [], k, 0, lvOf [], []⟩
theorem e10 (k : Nat) (x : dens (flatC (S10 k).ps)) : funK (E10 k) (S10 k) Try.f10 x = (S10 k).fn x := by
  kernel_rfl
theorem M10 (k : Nat) : Meets Try.prog 10 (S10 k) := meets_of Try.func10 (by kernel_rfl) tbOk (orc_cons (M15 k) (orc_cons (M17 k) (orc_cons (M40 k) (orc_cons (M41 k) (orc_cons (M19 k) orc_nil))))) mixOk (fun x y h => (e10 k x).trans h) rfl

/-! spec_LeastGap: function 42 -/
def spec_LeastGap.s0 (k : Nat) (r0 : Int → (List Int) → Option (Int × Int)) (x1 : Int) (x7 : List Int) : Option (Int × Int) := if 0 ≤ x1 then (if x1 < (x7.length : Int) then (if 1 < (rd x7 x1) then (if 0 ≤ x1 then (if x1 < (x7.length : Int) then (if 0 ≤ x1 then (if x1 < (x7.length : Int) then ((spec_l02Can.f k (x7.set x1.toNat (wrap64 ((rd x7 x1) - 1)))).bind fun t7 => if t7 = true then (r0 x1 (x7.set x1.toNat (wrap64 ((rd x7 x1) - 1)))) else (if 0 ≤ x1 then (if x1 < ((x7.set x1.toNat (wrap64 ((rd x7 x1) - 1))).length : Int) then (some ((wrap64 ((rd (x7.set x1.toNat (wrap64 ((rd x7 x1) - 1))) x1) + 1)), 0)) else (none)) else (none))) else (none)) else (none)) else (none)) else (none)) else (some (1, 0))) else (none)) else (none)
def spec_LeastGap.l0 (k : Nat) : Nat → Int → (List Int) → Option (Int × Int)
  | 0, _, _ => none
  | n + 1, x0, x1 => spec_LeastGap.s0 k (spec_LeastGap.l0 k n) x0 x1
def spec_LeastGap.g (k : Nat) (r0 : Int → (List Int) → Option (Int × Int)) (l0_0 : List Int) (a1 : Int) : Option (Int × Int) := (spec_l01Is.f k l0_0).bind fun t1 => if t1 = true then ((spec_l01K.f l0_0).bind fun t2 => (spec_l01In.f a1 0 (wrap64 (t2 - 1))).bind fun t3 => if t3 = true then ((spec_l02Few.f k l0_0).bind fun t4 => if t4 = 0 then ((spec_l02Can.f k l0_0).bind fun t5 => if t5 = true then ((spec_l01Own.f l0_0).bind fun t6 => r0 a1 t6) else (some (0, 4))) else (some (0, t4))) else (some (0, 2))) else (some (0, 1))
def spec_LeastGap.f (k : Nat) (l0_0 : List Int) (a1 : Int) : Option (Int × Int) := spec_LeastGap.g k (spec_LeastGap.l0 k k) l0_0 a1
def S42 (k : Nat) : Does := ⟨[(true, [.dat (.list (.int .i64))]), (false, [.dat (.int .i64)])], [(false, [.dat (.int .i64)]), (false, [.dat (.int .i64)])], fun x => spec_LeastGap.f k x.1 x.2⟩
def E42 (k : Nat) : En := ⟨tb, orcOf [(88, S88 k), (90, S90 k), (89, S89 k), (52, S52 k), (56, S56 k), (67, S67 k)], lvOf [(0, [(1, []), (7, [])])], k, 0, lvOf [], []⟩
def n42_0 (x1 : Int) (x7 : List Int) : St := ⟨48, lookA [(1, .dat (.int .i64) x1), (7, .own 0)], Go.V.look [(0, .flat 2 (.int .i64) x7)]⟩
def p42_0 : List Bool := [true, true, true, true, true, true, false, false]
theorem r42_0 (k : Nat) (rec : St → Option (Int × Int)) (v : Int × (List Int)) : roundF (E42 k) (S42 k) Try.f42 p42_0 [] rec (n42_0 v.1 v.2) = spec_LeastGap.s0 k (fun a0 a1 => rec (n42_0 a0 a1)) v.1 v.2 := by
  kernel_rfl
theorem q42_0 (k : Nat) (n : Nat) : ∀ v : Int × (List Int), loopF (E42 k) (S42 k) Try.f42 p42_0 [] n (n42_0 v.1 v.2) = spec_LeastGap.l0 k n v.1 v.2 :=
  loopF_eq (E42 k) (S42 k) Try.f42 p42_0 [] (fun v : Int × (List Int) => n42_0 v.1 v.2) (fun rec v => spec_LeastGap.s0 k (fun a0 a1 => rec (a0, a1)) v.1 v.2) (fun n v => spec_LeastGap.l0 k n v.1 v.2) (fun _ => rfl) (fun _ _ => rfl) (fun rec v => r42_0 k rec v) n
theorem e42 (k : Nat) (x : dens (flatC (S42 k).ps)) : funK (E42 k) (S42 k) Try.f42 x = (S42 k).fn x := by
  have h : funK (E42 k) (S42 k) Try.f42 x = spec_LeastGap.g k (fun a0 a1 => loopF (E42 k) (S42 k) Try.f42 p42_0 [] k (n42_0 a0 a1)) x.1 x.2 := by kernel_rfl
  rw [h]
  rw [show (fun a0 a1 => loopF (E42 k) (S42 k) Try.f42 p42_0 [] k (n42_0 a0 a1)) = spec_LeastGap.l0 k k from funext fun a0 => funext fun a1 => q42_0 k k (a0, a1)]
  rfl
theorem M42 (k : Nat) : Meets Try.prog 42 (S42 k) := meets_of Try.func42 (by kernel_rfl) tbOk (orc_cons (M88 k) (orc_cons (M90 k) (orc_cons (M89 k) (orc_cons (M52 k) (orc_cons (M56 k) (orc_cons (M67 k) orc_nil)))))) mixOk (fun x y h => (e42 k x).trans h) rfl

/-! impl_LeastGap: function 43 -/
def impl_LeastGap.s0 (k : Nat) (r0 : Int → (List Int) → Option (Int × Int)) (x1 : Int) (x8_0 : List Int) : Option (Int × Int) := (impl_CanServe.f k x8_0).bind fun t4 => if t4.1 = true then (if 0 ≤ x1 then (if x1 < (x8_0.length : Int) then (some ((rd x8_0 x1), 0)) else (none)) else (none)) else (if 0 ≤ x1 then (if x1 < (x8_0.length : Int) then (if 0 ≤ x1 then (if x1 < (x8_0.length : Int) then (r0 x1 (x8_0.set x1.toNat (wrap64 ((rd x8_0 x1) + 1)))) else (none)) else (none)) else (none)) else (none))
def impl_LeastGap.l0 (k : Nat) : Nat → Int → (List Int) → Option (Int × Int)
  | 0, _, _ => none
  | n + 1, x0, x1 => impl_LeastGap.s0 k (impl_LeastGap.l0 k n) x0 x1
def impl_LeastGap.g (k : Nat) (r0 : Int → (List Int) → Option (Int × Int)) (l0_0 : List Int) (a1 : Int) : Option (Int × Int) := (impl_Tasks_isTask.f l0_0 a1).bind fun t1 => (impl_servable.f k l0_0 t1).bind fun t2 => if t2.2 = 0 then ((slices_Clone_int64_int64.f l0_0).bind fun t3 => if 0 ≤ a1 then (if a1 < (t3.length : Int) then (r0 a1 (t3.set a1.toNat 1)) else (none)) else (none)) else (some (0, t2.2))
def impl_LeastGap.f (k : Nat) (l0_0 : List Int) (a1 : Int) : Option (Int × Int) := impl_LeastGap.g k (impl_LeastGap.l0 k k) l0_0 a1
def S43 (k : Nat) : Does := ⟨[(true, [.dat (.list (.int .i64))]), (false, [.dat (.int .i64)])], [(false, [.dat (.int .i64)]), (false, [.dat (.int .i64)])], fun x => impl_LeastGap.f k x.1 x.2⟩
def E43 (k : Nat) : En := ⟨tb, orcOf [(91, S91 k), (69, S69 k), (71, S71 k), (21, S21 k)], lvOf [(0, [(1, []), (8, [])])], k, 0, lvOf [], []⟩
def n43_0 (x1 : Int) (x8_0 : List Int) : St := ⟨48, lookA [(1, .dat (.int .i64) x1), (8, .box 0 0)], Go.V.look [(0, .cells [.own 1]), (1, .flat 2 (.int .i64) x8_0)]⟩
def p43_0 : List Bool := [true, true, true, true, false]
theorem r43_0 (k : Nat) (rec : St → Option (Int × Int)) (v : Int × (List Int)) : roundF (E43 k) (S43 k) Try.f43 p43_0 [] rec (n43_0 v.1 v.2) = impl_LeastGap.s0 k (fun a0 a1 => rec (n43_0 a0 a1)) v.1 v.2 := by
  kernel_rfl
theorem q43_0 (k : Nat) (n : Nat) : ∀ v : Int × (List Int), loopF (E43 k) (S43 k) Try.f43 p43_0 [] n (n43_0 v.1 v.2) = impl_LeastGap.l0 k n v.1 v.2 :=
  loopF_eq (E43 k) (S43 k) Try.f43 p43_0 [] (fun v : Int × (List Int) => n43_0 v.1 v.2) (fun rec v => impl_LeastGap.s0 k (fun a0 a1 => rec (a0, a1)) v.1 v.2) (fun n v => impl_LeastGap.l0 k n v.1 v.2) (fun _ => rfl) (fun _ _ => rfl) (fun rec v => r43_0 k rec v) n
theorem e43 (k : Nat) (x : dens (flatC (S43 k).ps)) : funK (E43 k) (S43 k) Try.f43 x = (S43 k).fn x := by
  have h : funK (E43 k) (S43 k) Try.f43 x = impl_LeastGap.g k (fun a0 a1 => loopF (E43 k) (S43 k) Try.f43 p43_0 [] k (n43_0 a0 a1)) x.1 x.2 := by kernel_rfl
  rw [h]
  rw [show (fun a0 a1 => loopF (E43 k) (S43 k) Try.f43 p43_0 [] k (n43_0 a0 a1)) = impl_LeastGap.l0 k k from funext fun a0 => funext fun a1 => q43_0 k k (a0, a1)]
  rfl
theorem M43 (k : Nat) : Meets Try.prog 43 (S43 k) := meets_of Try.func43 (by kernel_rfl) tbOk (orc_cons (M91 k) (orc_cons (M69 k) (orc_cons (M71 k) (orc_cons (M21 k) orc_nil)))) mixOk (fun x y h => (e43 k x).trans h) rfl

/-! laws_FnExactLeastGap: function 11 -/
def laws_FnExactLeastGap.f (k : Nat) (l0_0 : List Int) (a1 : Int) : Option (Bool) := (laws_szTasks.f l0_0 1048576).bind fun t1 => if t1 < 0 then (some true) else ((laws_toTasks.f k l0_0).bind fun t2 => (spec_LeastGap.f k t2 a1).bind fun t3 => (laws_toTasks.f k l0_0).bind fun t4 => (impl_LeastGap.f k t4 a1).bind fun t5 => if t5.1 = t3.1 then (if t5.2 = t3.2 then ((laws_toTasks.f k l0_0).bind fun t6 => (laws_eqTasks.f k t4 t6).bind fun t7 => if t7 = true then (some true) else (some false)) else (some false)) else (some false))
def S11 (k : Nat) : Does := ⟨[(true, [.dat (.list (.int .i64))]), (false, [.dat (.int .i64)])], [(false, [.dat .bool])], fun x => laws_FnExactLeastGap.f k x.1 x.2⟩
def E11 (k : Nat) : En := ⟨tb, orcOf [(15, S15 k), (17, S17 k), (42, S42 k), (43, S43 k), (19, S19 k)], lvOf [], k, 0, lvOf [], []⟩
theorem e11 (k : Nat) (x : dens (flatC (S11 k).ps)) : funK (E11 k) (S11 k) Try.f11 x = (S11 k).fn x := by
  kernel_rfl
theorem M11 (k : Nat) : Meets Try.prog 11 (S11 k) := meets_of Try.func11 (by kernel_rfl) tbOk (orc_cons (M15 k) (orc_cons (M17 k) (orc_cons (M42 k) (orc_cons (M43 k) (orc_cons (M19 k) orc_nil))))) mixOk (fun x y h => (e11 k x).trans h) rfl

/-! laws_toGround: function 45 -/
def laws_toGround.f (a0_0 : Int) (a0_1 : Int) : Option (Int × Int) := some (a0_0, a0_1)
def S45 (k : Nat) : Does := ⟨[(true, [.dat (.int .i64), .dat (.int .i64)])], [(true, [.dat (.int .i64), .dat (.int .i64)])], fun x => laws_toGround.f x.1 x.2⟩
def E45 (k : Nat) : En := ⟨tb, orcOf [], lvOf [], k, 0, lvOf [], []⟩
theorem e45 (k : Nat) (x : dens (flatC (S45 k).ps)) : funK (E45 k) (S45 k) Try.f45 x = (S45 k).fn x := by
  kernel_rfl
theorem M45 (k : Nat) : Meets Try.prog 45 (S45 k) := meets_of Try.func45 (by kernel_rfl) tbOk orc_nil mixOk (fun x y h => (e45 k x).trans h) rfl

/-! spec_l09Is: function 110 -/
def spec_l09Is.f (a0_0 : Int) (a0_1 : Int) : Option (Bool) := (spec_l01In.f a0_0 1 6).bind fun t1 => if t1 = true then (if (IntKind.wrap .u64 ((wrap64 (Int.tdiv (wrap64 (a0_0 * (wrap64 (a0_0 - 1)))) 2)))) < 0 then (none) else ((spec_l01In.f a0_1 0 (wrap64 ((wrap64 (1 * 2 ^ min (IntKind.wrap .u64 ((wrap64 (Int.tdiv (wrap64 (a0_0 * (wrap64 (a0_0 - 1)))) 2)))).toNat 64)) - 1))).bind fun t2 => some t2)) else (some false)
def S110 (k : Nat) : Does := ⟨[(true, [.dat (.int .i64), .dat (.int .i64)])], [(false, [.dat .bool])], fun x => spec_l09Is.f x.1 x.2⟩
def E110 (k : Nat) : En := ⟨tb, orcOf [(89, S89 k)], lvOf [], k, 0, lvOf [], []⟩
theorem e110 (k : Nat) (x : dens (flatC (S110 k).ps)) : funK (E110 k) (S110 k) Try.f110 x = (S110 k).fn x := by
  kernel_rfl
theorem M110 (k : Nat) : Meets Try.prog 110 (S110 k) := meets_of Try.func110 (by kernel_rfl) tbOk (orc_cons (M89 k) orc_nil) mixOk (fun x y h => (e110 k x).trans h) rfl

/-! spec_l09Size: function 111 -/
def spec_l09Size.s0 (k : Nat) (r0 : (List Int) → Int → Int → Int → Option (Int)) (x3_0 : List Int) (x5 : Int) (x11 : Int) (x12 : Int) : Option (Int) := if x12 < x11 then (if 0 ≤ x12 then (if x12 < (x3_0.length : Int) then (r0 x3_0 (wrap64 (x5 * (rd x3_0 x12))) x11 (wrap64 (x12 + 1))) else (none)) else (none)) else (some x5)
def spec_l09Size.l0 (k : Nat) : Nat → (List Int) → Int → Int → Int → Option (Int)
  | 0, _, _, _, _ => none
  | n + 1, x0, x1, x2, x3 => spec_l09Size.s0 k (spec_l09Size.l0 k n) x0 x1 x2 x3
def spec_l09Size.g (k : Nat) (r0 : (List Int) → Int → Int → Int → Option (Int)) (a0_0 : Int) (a0_1 : Int) (l1_0 : List Int) : Option (Int) := r0 l1_0 a0_0 (l1_0.length : Int) 0
def spec_l09Size.f (k : Nat) (a0_0 : Int) (a0_1 : Int) (l1_0 : List Int) : Option (Int) := spec_l09Size.g k (spec_l09Size.l0 k k) a0_0 a0_1 l1_0
def S111 (k : Nat) : Does := ⟨[(true, [.dat (.int .i64), .dat (.int .i64)]), (true, [.dat (.list (.int .i64))])], [(false, [.dat (.int .i64)])], fun x => spec_l09Size.f k x.1 x.2.1 x.2.2⟩
def E111 (k : Nat) : En := ⟨tb, orcOf [], lvOf [(0, [(3, []), (5, []), (11, []), (12, [])])], k, 0, lvOf [], []⟩
def n111_0 (x3_0 : List Int) (x5 : Int) (x11 : Int) (x12 : Int) : St := ⟨24, lookA [(3, .box 0 0), (5, .dat (.int .i64) x5), (11, .dat (.int .i64) x11), (12, .dat (.int .i64) x12)], Go.V.look [(0, .cells [.dat (.list (.int .i64)) x3_0])]⟩
def p111_0 : List Bool := [true, true, false, true, false]
theorem r111_0 (k : Nat) (rec : St → Option (Int)) (v : (List Int) × Int × Int × Int) : roundF (E111 k) (S111 k) Try.f111 p111_0 [] rec (n111_0 v.1 v.2.1 v.2.2.1 v.2.2.2) = spec_l09Size.s0 k (fun a0 a1 a2 a3 => rec (n111_0 a0 a1 a2 a3)) v.1 v.2.1 v.2.2.1 v.2.2.2 := by
  kernel_rfl
theorem q111_0 (k : Nat) (n : Nat) : ∀ v : (List Int) × Int × Int × Int, loopF (E111 k) (S111 k) Try.f111 p111_0 [] n (n111_0 v.1 v.2.1 v.2.2.1 v.2.2.2) = spec_l09Size.l0 k n v.1 v.2.1 v.2.2.1 v.2.2.2 :=
  loopF_eq (E111 k) (S111 k) Try.f111 p111_0 [] (fun v : (List Int) × Int × Int × Int => n111_0 v.1 v.2.1 v.2.2.1 v.2.2.2) (fun rec v => spec_l09Size.s0 k (fun a0 a1 a2 a3 => rec (a0, a1, a2, a3)) v.1 v.2.1 v.2.2.1 v.2.2.2) (fun n v => spec_l09Size.l0 k n v.1 v.2.1 v.2.2.1 v.2.2.2) (fun _ => rfl) (fun _ _ => rfl) (fun rec v => r111_0 k rec v) n
theorem e111 (k : Nat) (x : dens (flatC (S111 k).ps)) : funK (E111 k) (S111 k) Try.f111 x = (S111 k).fn x := by
  have h : funK (E111 k) (S111 k) Try.f111 x = spec_l09Size.g k (fun a0 a1 a2 a3 => loopF (E111 k) (S111 k) Try.f111 p111_0 [] k (n111_0 a0 a1 a2 a3)) x.1 x.2.1 x.2.2 := by kernel_rfl
  rw [h]
  rw [show (fun a0 a1 a2 a3 => loopF (E111 k) (S111 k) Try.f111 p111_0 [] k (n111_0 a0 a1 a2 a3)) = spec_l09Size.l0 k k from funext fun a0 => funext fun a1 => funext fun a2 => funext fun a3 => q111_0 k k (a0, a1, a2, a3)]
  rfl
theorem M111 (k : Nat) : Meets Try.prog 111 (S111 k) := meets_of Try.func111 (by kernel_rfl) tbOk orc_nil mixOk (fun x y h => (e111 k x).trans h) rfl

/-! spec_l09Code: function 92 -/
def spec_l09Code.f (k : Nat) (a0_0 : Int) (a0_1 : Int) (l1_0 : List Int) : Option (Int) := (spec_l09Is.f a0_0 a0_1).bind fun t1 => if t1 = true then ((spec_l01Is.f k l1_0).bind fun t2 => if (!decide (t2 = true)) = true then (some 1) else ((spec_l01K.f l1_0).bind fun t3 => if (!decide (t3 = a0_0)) = true then (some 2) else ((spec_l09Size.f k a0_0 a0_1 l1_0).bind fun t4 => if (decide (20000 < t4)) = true then (some 3) else (some 0)))) else (some 1)
def S92 (k : Nat) : Does := ⟨[(true, [.dat (.int .i64), .dat (.int .i64)]), (true, [.dat (.list (.int .i64))])], [(false, [.dat (.int .i64)])], fun x => spec_l09Code.f k x.1 x.2.1 x.2.2⟩
def E92 (k : Nat) : En := ⟨tb, orcOf [(110, S110 k), (88, S88 k), (90, S90 k), (111, S111 k)], lvOf [], k, 0, lvOf [], []⟩
theorem e92 (k : Nat) (x : dens (flatC (S92 k).ps)) : funK (E92 k) (S92 k) Try.f92 x = (S92 k).fn x := by
  kernel_rfl
theorem M92 (k : Nat) : Meets Try.prog 92 (S92 k) := meets_of Try.func92 (by kernel_rfl) tbOk (orc_cons (M110 k) (orc_cons (M88 k) (orc_cons (M90 k) (orc_cons (M111 k) orc_nil)))) mixOk (fun x y h => (e92 k x).trans h) rfl

/-! spec_l09State: function 97 -/
def spec_l09State.s0 (k : Nat) (r0 : (List Int) → Int → Int → (List Int) → Int → Option ((List Int) × Int)) (x2_0 : List Int) (x6 : Int) (x7 : Int) (x8 : List Int) (x9 : Int) : Option ((List Int) × Int) := if 0 ≤ x9 then (if 0 ≤ x9 then (if x9 < (x2_0.length : Int) then (if (rd x2_0 x9) = 0 then (none) else (if 0 ≤ x9 then (if x9 < (x8.length : Int) then (if 0 ≤ x9 then (if x9 < (x2_0.length : Int) then (if (rd x2_0 x9) = 0 then (none) else (r0 x2_0 x6 (wrap64 (Int.tdiv x7 (rd x2_0 x9))) (x8.set x9.toNat (wrap64 ((Int.tmod x7 (rd x2_0 x9)) + 1))) (wrap64 (x9 - 1)))) else (none)) else (none)) else (none)) else (none))) else (none)) else (none)) else (some (x8, x6))
def spec_l09State.l0 (k : Nat) : Nat → (List Int) → Int → Int → (List Int) → Int → Option ((List Int) × Int)
  | 0, _, _, _, _, _ => none
  | n + 1, x0, x1, x2, x3, x4 => spec_l09State.s0 k (spec_l09State.l0 k n) x0 x1 x2 x3 x4
def spec_l09State.g (k : Nat) (r0 : (List Int) → Int → Int → (List Int) → Int → Option ((List Int) × Int)) (l0_0 : List Int) (a1 : Int) : Option ((List Int) × Int) := (spec_l01K.f l0_0).bind fun t1 => if t1 = 0 then (none) else ((spec_l01K.f l0_0).bind fun t2 => if t2 = 0 then (none) else ((spec_l01K.f l0_0).bind fun t3 => if 0 ≤ t3 then (if t3 ≤ t3 then (if t3.toNat ≤ 1099511627776 then ((spec_l01K.f l0_0).bind fun t4 => r0 l0_0 (Int.tmod a1 t1) (wrap64 (Int.tdiv a1 t2)) (List.replicate t3.toNat (0 : Int)) (wrap64 (t4 - 1))) else (none)) else (none)) else (none)))
def spec_l09State.f (k : Nat) (l0_0 : List Int) (a1 : Int) : Option ((List Int) × Int) := spec_l09State.g k (spec_l09State.l0 k k) l0_0 a1
def S97 (k : Nat) : Does := ⟨[(true, [.dat (.list (.int .i64))]), (false, [.dat (.int .i64)])], [(false, [.own 2 (.int .i64)]), (false, [.dat (.int .i64)])], fun x => spec_l09State.f k x.1 x.2⟩
def E97 (k : Nat) : En := ⟨tb, orcOf [(90, S90 k)], lvOf [(0, [(2, []), (6, []), (7, []), (8, []), (9, [])])], k, 0, lvOf [], []⟩
def n97_0 (x2_0 : List Int) (x6 : Int) (x7 : Int) (x8 : List Int) (x9 : Int) : St := ⟨48, lookA [(2, .box 0 0), (6, .dat (.int .i64) x6), (7, .dat (.int .i64) x7), (8, .own 1), (9, .dat (.int .i64) x9)], Go.V.look [(0, .cells [.dat (.list (.int .i64)) x2_0]), (1, .flat 2 (.int .i64) x8)]⟩
def p97_0 : List Bool := [true, true, false, true, false]
theorem r97_0 (k : Nat) (rec : St → Option ((List Int) × Int)) (v : (List Int) × Int × Int × (List Int) × Int) : roundF (E97 k) (S97 k) Try.f97 p97_0 [] rec (n97_0 v.1 v.2.1 v.2.2.1 v.2.2.2.1 v.2.2.2.2) = spec_l09State.s0 k (fun a0 a1 a2 a3 a4 => rec (n97_0 a0 a1 a2 a3 a4)) v.1 v.2.1 v.2.2.1 v.2.2.2.1 v.2.2.2.2 := by
  kernel_rfl
theorem q97_0 (k : Nat) (n : Nat) : ∀ v : (List Int) × Int × Int × (List Int) × Int, loopF (E97 k) (S97 k) Try.f97 p97_0 [] n (n97_0 v.1 v.2.1 v.2.2.1 v.2.2.2.1 v.2.2.2.2) = spec_l09State.l0 k n v.1 v.2.1 v.2.2.1 v.2.2.2.1 v.2.2.2.2 :=
  loopF_eq (E97 k) (S97 k) Try.f97 p97_0 [] (fun v : (List Int) × Int × Int × (List Int) × Int => n97_0 v.1 v.2.1 v.2.2.1 v.2.2.2.1 v.2.2.2.2) (fun rec v => spec_l09State.s0 k (fun a0 a1 a2 a3 a4 => rec (a0, a1, a2, a3, a4)) v.1 v.2.1 v.2.2.1 v.2.2.2.1 v.2.2.2.2) (fun n v => spec_l09State.l0 k n v.1 v.2.1 v.2.2.1 v.2.2.2.1 v.2.2.2.2) (fun _ => rfl) (fun _ _ => rfl) (fun rec v => r97_0 k rec v) n
theorem e97 (k : Nat) (x : dens (flatC (S97 k).ps)) : funK (E97 k) (S97 k) Try.f97 x = (S97 k).fn x := by
  have h : funK (E97 k) (S97 k) Try.f97 x = spec_l09State.g k (fun a0 a1 a2 a3 a4 => loopF (E97 k) (S97 k) Try.f97 p97_0 [] k (n97_0 a0 a1 a2 a3 a4)) x.1 x.2 := by kernel_rfl
  rw [h]
  rw [show (fun a0 a1 a2 a3 a4 => loopF (E97 k) (S97 k) Try.f97 p97_0 [] k (n97_0 a0 a1 a2 a3 a4)) = spec_l09State.l0 k k from funext fun a0 => funext fun a1 => funext fun a2 => funext fun a3 => funext fun a4 => q97_0 k k (a0, a1, a2, a3, a4)]
  rfl
theorem M97 (k : Nat) : Meets Try.prog 97 (S97 k) := meets_of Try.func97 (by kernel_rfl) tbOk (orc_cons (M90 k) orc_nil) mixOk (fun x y h => (e97 k x).trans h) rfl

/-! spec_l09Road: function 116 -/
def spec_l09Road.f (a0 : Int) (a1 : Int) : Option (Int) := if (IntKind.wrap .u64 ((wrap64 ((wrap64 (Int.tdiv (wrap64 ((maxV a0 a1) * (wrap64 ((maxV a0 a1) - 1)))) 2)) + (minV a0 a1))))) < 0 then (none) else (some (wrap64 (1 * 2 ^ min (IntKind.wrap .u64 ((wrap64 ((wrap64 (Int.tdiv (wrap64 ((maxV a0 a1) * (wrap64 ((maxV a0 a1) - 1)))) 2)) + (minV a0 a1))))).toNat 64)))
def S116 (k : Nat) : Does := ⟨[(false, [.dat (.int .i64)]), (false, [.dat (.int .i64)])], [(false, [.dat (.int .i64)])], fun x => spec_l09Road.f x.1 x.2⟩
def E116 (k : Nat) : En := ⟨tb, orcOf [], lvOf [], k, 0, lvOf [], []⟩
theorem e116 (k : Nat) (x : dens (flatC (S116 k).ps)) : funK (E116 k) (S116 k) Try.f116 x = (S116 k).fn x := by
  kernel_rfl
theorem M116 (k : Nat) : Meets Try.prog 116 (S116 k) := meets_of Try.func116 (by kernel_rfl) tbOk orc_nil mixOk (fun x y h => (e116 k x).trans h) rfl

/-! spec_l09Near: function 98 -/
def spec_l09Near.f (a0_0 : Int) (a0_1 : Int) (a1 : Int) (a2 : Int) : Option (Bool) := if a1 = a2 then (some true) else ((spec_l09Road.f a1 a2).bind fun t1 => some (!decide ((wrap64 (((BitVec.ofInt 64 a0_1 &&& BitVec.ofInt 64 t1).toNat : Int))) = 0)))
def S98 (k : Nat) : Does := ⟨[(true, [.dat (.int .i64), .dat (.int .i64)]), (false, [.dat (.int .i64)]), (false, [.dat (.int .i64)])], [(false, [.dat .bool])], fun x => spec_l09Near.f x.1 x.2.1 x.2.2.1 x.2.2.2⟩
def E98 (k : Nat) : En := ⟨tb, orcOf [(116, S116 k)], lvOf [], k, 0, lvOf [], []⟩
theorem e98 (k : Nat) (x : dens (flatC (S98 k).ps)) : funK (E98 k) (S98 k) Try.f98 x = (S98 k).fn x := by
  kernel_rfl
theorem M98 (k : Nat) : Meets Try.prog 98 (S98 k) := meets_of Try.func98 (by kernel_rfl) tbOk (orc_cons (M116 k) orc_nil) mixOk (fun x y h => (e98 k x).trans h) rfl

/-! spec_l09Number: function 114 -/
def spec_l09Number.s0 (k : Nat) (r0 : (List Int) → Int → (List Int) → Int → Int → Int → Option (Int)) (x1 : List Int) (x2 : Int) (x3_0 : List Int) (x7 : Int) (x10 : Int) (x11 : Int) : Option (Int) := if x11 < x10 then (if 0 ≤ x11 then (if x11 < (x3_0.length : Int) then (if 0 ≤ x11 then (if x11 < (x1.length : Int) then (r0 x1 x2 x3_0 (wrap64 ((wrap64 ((wrap64 (x7 * (rd x3_0 x11))) + (rd x1 x11))) - 1)) x10 (wrap64 (x11 + 1))) else (none)) else (none)) else (none)) else (none)) else ((spec_l01K.f x3_0).bind fun t1 => some (wrap64 ((wrap64 (x7 * t1)) + x2)))
def spec_l09Number.l0 (k : Nat) : Nat → (List Int) → Int → (List Int) → Int → Int → Int → Option (Int)
  | 0, _, _, _, _, _, _ => none
  | n + 1, x0, x1, x2, x3, x4, x5 => spec_l09Number.s0 k (spec_l09Number.l0 k n) x0 x1 x2 x3 x4 x5
def spec_l09Number.g (k : Nat) (r0 : (List Int) → Int → (List Int) → Int → Int → Int → Option (Int)) (l0_0 : List Int) (l1 : List Int) (a2 : Int) : Option (Int) := r0 l1 a2 l0_0 0 (l1.length : Int) 0
def spec_l09Number.f (k : Nat) (l0_0 : List Int) (l1 : List Int) (a2 : Int) : Option (Int) := spec_l09Number.g k (spec_l09Number.l0 k k) l0_0 l1 a2
def S114 (k : Nat) : Does := ⟨[(true, [.dat (.list (.int .i64))]), (false, [.dat (.list (.int .i64))]), (false, [.dat (.int .i64)])], [(false, [.dat (.int .i64)])], fun x => spec_l09Number.f k x.1 x.2.1 x.2.2⟩
def E114 (k : Nat) : En := ⟨tb, orcOf [(90, S90 k)], lvOf [(0, [(1, []), (2, []), (3, []), (7, []), (10, []), (11, [])])], k, 0, lvOf [], []⟩
def n114_0 (x1 : List Int) (x2 : Int) (x3_0 : List Int) (x7 : Int) (x10 : Int) (x11 : Int) : St := ⟨34, lookA [(1, .dat (.list (.int .i64)) x1), (2, .dat (.int .i64) x2), (3, .box 0 0), (7, .dat (.int .i64) x7), (10, .dat (.int .i64) x10), (11, .dat (.int .i64) x11)], Go.V.look [(0, .cells [.dat (.list (.int .i64)) x3_0])]⟩
def p114_0 : List Bool := [true, true, false, true, false]
theorem r114_0 (k : Nat) (rec : St → Option (Int)) (v : (List Int) × Int × (List Int) × Int × Int × Int) : roundF (E114 k) (S114 k) Try.f114 p114_0 [] rec (n114_0 v.1 v.2.1 v.2.2.1 v.2.2.2.1 v.2.2.2.2.1 v.2.2.2.2.2) = spec_l09Number.s0 k (fun a0 a1 a2 a3 a4 a5 => rec (n114_0 a0 a1 a2 a3 a4 a5)) v.1 v.2.1 v.2.2.1 v.2.2.2.1 v.2.2.2.2.1 v.2.2.2.2.2 := by
  kernel_rfl
theorem q114_0 (k : Nat) (n : Nat) : ∀ v : (List Int) × Int × (List Int) × Int × Int × Int, loopF (E114 k) (S114 k) Try.f114 p114_0 [] n (n114_0 v.1 v.2.1 v.2.2.1 v.2.2.2.1 v.2.2.2.2.1 v.2.2.2.2.2) = spec_l09Number.l0 k n v.1 v.2.1 v.2.2.1 v.2.2.2.1 v.2.2.2.2.1 v.2.2.2.2.2 :=
  loopF_eq (E114 k) (S114 k) Try.f114 p114_0 [] (fun v : (List Int) × Int × (List Int) × Int × Int × Int => n114_0 v.1 v.2.1 v.2.2.1 v.2.2.2.1 v.2.2.2.2.1 v.2.2.2.2.2) (fun rec v => spec_l09Number.s0 k (fun a0 a1 a2 a3 a4 a5 => rec (a0, a1, a2, a3, a4, a5)) v.1 v.2.1 v.2.2.1 v.2.2.2.1 v.2.2.2.2.1 v.2.2.2.2.2) (fun n v => spec_l09Number.l0 k n v.1 v.2.1 v.2.2.1 v.2.2.2.1 v.2.2.2.2.1 v.2.2.2.2.2) (fun _ => rfl) (fun _ _ => rfl) (fun rec v => r114_0 k rec v) n
theorem e114 (k : Nat) (x : dens (flatC (S114 k).ps)) : funK (E114 k) (S114 k) Try.f114 x = (S114 k).fn x := by
  have h : funK (E114 k) (S114 k) Try.f114 x = spec_l09Number.g k (fun a0 a1 a2 a3 a4 a5 => loopF (E114 k) (S114 k) Try.f114 p114_0 [] k (n114_0 a0 a1 a2 a3 a4 a5)) x.1 x.2.1 x.2.2 := by kernel_rfl
  rw [h]
  rw [show (fun a0 a1 a2 a3 a4 a5 => loopF (E114 k) (S114 k) Try.f114 p114_0 [] k (n114_0 a0 a1 a2 a3 a4 a5)) = spec_l09Number.l0 k k from funext fun a0 => funext fun a1 => funext fun a2 => funext fun a3 => funext fun a4 => funext fun a5 => q114_0 k k (a0, a1, a2, a3, a4, a5)]
  rfl
theorem M114 (k : Nat) : Meets Try.prog 114 (S114 k) := meets_of Try.func114 (by kernel_rfl) tbOk (orc_cons (M90 k) orc_nil) mixOk (fun x y h => (e114 k x).trans h) rfl

/-! spec_l09Move: function 99 -/
def spec_l09Move.s0 (k : Nat) (r0 : Int → (List Int) → (List Int) → Int → Int → Option (Int)) (x2 : Int) (x3_0 : List Int) (x7 : List Int) (x12 : Int) (x13 : Int) : Option (Int) := if x13 < x12 then (if 0 ≤ x13 then (if x13 < (x7.length : Int) then (if 0 ≤ x13 then (if x13 < (x7.length : Int) then (if x13 = x2 then (if 0 ≤ x13 then (if x13 < (x3_0.length : Int) then (if 0 ≤ x13 then (if x13 < ((x7.set x13.toNat (wrap64 ((rd x7 x13) - 1))).length : Int) then (if 0 ≤ x13 then (if x13 < (((x7.set x13.toNat (wrap64 ((rd x7 x13) - 1))).set x13.toNat (rd x3_0 x13)).length : Int) then (if (rd ((x7.set x13.toNat (wrap64 ((rd x7 x13) - 1))).set x13.toNat (rd x3_0 x13)) x13) = 0 then (some (-1)) else (r0 x2 x3_0 ((x7.set x13.toNat (wrap64 ((rd x7 x13) - 1))).set x13.toNat (rd x3_0 x13)) x12 (wrap64 (x13 + 1)))) else (none)) else (none)) else (none)) else (none)) else (none)) else (none)) else (if 0 ≤ x13 then (if x13 < ((x7.set x13.toNat (wrap64 ((rd x7 x13) - 1))).length : Int) then (if (rd (x7.set x13.toNat (wrap64 ((rd x7 x13) - 1))) x13) = 0 then (some (-1)) else (r0 x2 x3_0 (x7.set x13.toNat (wrap64 ((rd x7 x13) - 1))) x12 (wrap64 (x13 + 1)))) else (none)) else (none))) else (none)) else (none)) else (none)) else (none)) else ((spec_l09Number.f k x3_0 x7 x2).bind fun t2 => some t2)
def spec_l09Move.l0 (k : Nat) : Nat → Int → (List Int) → (List Int) → Int → Int → Option (Int)
  | 0, _, _, _, _, _ => none
  | n + 1, x0, x1, x2, x3, x4 => spec_l09Move.s0 k (spec_l09Move.l0 k n) x0 x1 x2 x3 x4
def spec_l09Move.g (k : Nat) (r0 : Int → (List Int) → (List Int) → Int → Int → Option (Int)) (l0_0 : List Int) (l1 : List Int) (a2 : Int) : Option (Int) := (spec_l01Own.f l1).bind fun t1 => r0 a2 l0_0 t1 (t1.length : Int) 0
def spec_l09Move.f (k : Nat) (l0_0 : List Int) (l1 : List Int) (a2 : Int) : Option (Int) := spec_l09Move.g k (spec_l09Move.l0 k k) l0_0 l1 a2
def S99 (k : Nat) : Does := ⟨[(true, [.dat (.list (.int .i64))]), (false, [.dat (.list (.int .i64))]), (false, [.dat (.int .i64)])], [(false, [.dat (.int .i64)])], fun x => spec_l09Move.f k x.1 x.2.1 x.2.2⟩
def E99 (k : Nat) : En := ⟨tb, orcOf [(67, S67 k), (114, S114 k)], lvOf [(0, [(2, []), (3, []), (7, []), (12, []), (13, [])])], k, 0, lvOf [], []⟩
def n99_0 (x2 : Int) (x3_0 : List Int) (x7 : List Int) (x12 : Int) (x13 : Int) : St := ⟨43, lookA [(2, .dat (.int .i64) x2), (3, .box 0 0), (7, .own 1), (12, .dat (.int .i64) x12), (13, .dat (.int .i64) x13)], Go.V.look [(0, .cells [.dat (.list (.int .i64)) x3_0]), (1, .flat 2 (.int .i64) x7)]⟩
def p99_0 : List Bool := [true, true, false, true, false]
theorem r99_0 (k : Nat) (rec : St → Option (Int)) (v : Int × (List Int) × (List Int) × Int × Int) : roundF (E99 k) (S99 k) Try.f99 p99_0 [] rec (n99_0 v.1 v.2.1 v.2.2.1 v.2.2.2.1 v.2.2.2.2) = spec_l09Move.s0 k (fun a0 a1 a2 a3 a4 => rec (n99_0 a0 a1 a2 a3 a4)) v.1 v.2.1 v.2.2.1 v.2.2.2.1 v.2.2.2.2 := by
  kernel_rfl
theorem q99_0 (k : Nat) (n : Nat) : ∀ v : Int × (List Int) × (List Int) × Int × Int, loopF (E99 k) (S99 k) Try.f99 p99_0 [] n (n99_0 v.1 v.2.1 v.2.2.1 v.2.2.2.1 v.2.2.2.2) = spec_l09Move.l0 k n v.1 v.2.1 v.2.2.1 v.2.2.2.1 v.2.2.2.2 :=
  loopF_eq (E99 k) (S99 k) Try.f99 p99_0 [] (fun v : Int × (List Int) × (List Int) × Int × Int => n99_0 v.1 v.2.1 v.2.2.1 v.2.2.2.1 v.2.2.2.2) (fun rec v => spec_l09Move.s0 k (fun a0 a1 a2 a3 a4 => rec (a0, a1, a2, a3, a4)) v.1 v.2.1 v.2.2.1 v.2.2.2.1 v.2.2.2.2) (fun n v => spec_l09Move.l0 k n v.1 v.2.1 v.2.2.1 v.2.2.2.1 v.2.2.2.2) (fun _ => rfl) (fun _ _ => rfl) (fun rec v => r99_0 k rec v) n
theorem e99 (k : Nat) (x : dens (flatC (S99 k).ps)) : funK (E99 k) (S99 k) Try.f99 x = (S99 k).fn x := by
  have h : funK (E99 k) (S99 k) Try.f99 x = spec_l09Move.g k (fun a0 a1 a2 a3 a4 => loopF (E99 k) (S99 k) Try.f99 p99_0 [] k (n99_0 a0 a1 a2 a3 a4)) x.1 x.2.1 x.2.2 := by kernel_rfl
  rw [h]
  rw [show (fun a0 a1 a2 a3 a4 => loopF (E99 k) (S99 k) Try.f99 p99_0 [] k (n99_0 a0 a1 a2 a3 a4)) = spec_l09Move.l0 k k from funext fun a0 => funext fun a1 => funext fun a2 => funext fun a3 => funext fun a4 => q99_0 k k (a0, a1, a2, a3, a4)]
  rfl
theorem M99 (k : Nat) : Meets Try.prog 99 (S99 k) := meets_of Try.func99 (by kernel_rfl) tbOk (orc_cons (M67 k) (orc_cons (M114 k) orc_nil)) mixOk (fun x y h => (e99 k x).trans h) rfl


end Go.Proofs.Ytjkeadiepbldhaa.Vf
