/- What the functions of program, reference and law give, as plain functions, and that they meet them (part 1). Conditions: none. Written by a program of my own (vp.py). -/
import Derived.Test.YtcbhhbkghbnljaaDoorSh
import Derived.Test.YtcbhhbkghbnljaaDoorVc
import Derived.Test.YtcbhhbkghbnljaaDoorProg
set_option linter.unusedVariables false
set_option maxRecDepth 100000
noncomputable section
namespace Go.Proofs.YtcbhhbkghbnljaaDoor.Vf
open Go Go.V Go.RowKit Go.Proofs
def tbl : List (Nat × TI) := [(1, ⟨.fn, 1, 8, [.nilFunc]⟩), (2, ⟨.int .i64, 1, 8, [.int .i64 0]⟩), (3, ⟨.int .i64, 1, 8, [.int .i64 0]⟩), (4, ⟨.bool, 1, 1, [.bool false]⟩), (5, ⟨.int .u8, 1, 1, [.int .u8 0]⟩), (6, ⟨.int .u8, 1, 1, [.int .u8 0]⟩), (7, ⟨.struct true [(0, 2), (1, 3), (2, 4), (3, 6)], 4, 24, [.int .i64 0, .int .i64 0, .bool false, .int .u8 0]⟩), (8, ⟨.struct true [(0, 2), (1, 3), (2, 4), (3, 6)], 4, 24, [.int .i64 0, .int .i64 0, .bool false, .int .u8 0]⟩), (9, ⟨.str, 1, 16, [.string ByteArray.empty]⟩), (10, ⟨.str, 1, 16, [.string ByteArray.empty]⟩), (11, ⟨.str, 1, 16, [.string ByteArray.empty]⟩), (12, ⟨.int .u64, 1, 8, [.int .u64 0]⟩), (13, ⟨.struct false [(0, 9), (1, 12)], 2, 24, [.string ByteArray.empty, .int .u64 0]⟩), (14, ⟨.struct false [(0, 9), (1, 12)], 2, 24, [.string ByteArray.empty, .int .u64 0]⟩), (15, ⟨.ptr 111, 1, 8, [.pointer none]⟩), (16, ⟨.ptr 114, 1, 8, [.pointer none]⟩), (17, ⟨.ptr 122, 1, 8, [.pointer none]⟩), (18, ⟨.struct false [(0, 17)], 1, 8, [.pointer none]⟩), (19, ⟨.struct false [(0, 17)], 1, 8, [.pointer none]⟩), (21, ⟨.int .i32, 1, 4, [.int .i32 0]⟩), (22, ⟨.slice 2, 1, 24, [.slice none 0 0]⟩), (23, ⟨.struct true [(0, 22)], 1, 24, [.slice none 0 0]⟩), (24, ⟨.struct true [(0, 22)], 1, 24, [.slice none 0 0]⟩), (25, ⟨.fn, 1, 8, [.nilFunc]⟩), (27, ⟨.fn, 1, 8, [.nilFunc]⟩), (28, ⟨.struct true [(0, 22)], 1, 24, [.slice none 0 0]⟩), (29, ⟨.fn, 1, 8, [.nilFunc]⟩), (30, ⟨.fn, 1, 8, [.nilFunc]⟩), (31, ⟨.fn, 1, 8, [.nilFunc]⟩), (32, ⟨.fn, 1, 8, [.nilFunc]⟩), (33, ⟨.fn, 1, 8, [.nilFunc]⟩), (34, ⟨.fn, 1, 8, [.nilFunc]⟩), (35, ⟨.fn, 1, 8, [.nilFunc]⟩), (37, ⟨.fn, 1, 8, [.nilFunc]⟩), (38, ⟨.fn, 1, 8, [.nilFunc]⟩), (39, ⟨.fn, 1, 8, [.nilFunc]⟩), (40, ⟨.fn, 1, 8, [.nilFunc]⟩), (41, ⟨.ptr 44, 1, 8, [.pointer none]⟩), (42, ⟨.map 9 4, 1, 8, [.map none]⟩), (43, ⟨.struct true [(0, 28), (1, 2), (2, 22), (3, 42)], 4, 64, [.slice none 0 0, .int .i64 0, .slice none 0 0, .map none]⟩), (44, ⟨.struct true [(0, 28), (1, 2), (2, 22), (3, 42)], 4, 64, [.slice none 0 0, .int .i64 0, .slice none 0 0, .map none]⟩), (45, ⟨.fn, 1, 8, [.nilFunc]⟩), (46, ⟨.fn, 1, 8, [.nilFunc]⟩), (47, ⟨.fn, 1, 8, [.nilFunc]⟩), (48, ⟨.fn, 1, 8, [.nilFunc]⟩), (49, ⟨.fn, 1, 8, [.nilFunc]⟩), (50, ⟨.fn, 1, 8, [.nilFunc]⟩), (51, ⟨.fn, 1, 8, [.nilFunc]⟩), (52, ⟨.fn, 1, 8, [.nilFunc]⟩), (55, ⟨.fn, 1, 8, [.nilFunc]⟩), (56, ⟨.slice 4, 1, 24, [.slice none 0 0]⟩), (57, ⟨.fn, 1, 8, [.nilFunc]⟩), (58, ⟨.fn, 1, 8, [.nilFunc]⟩), (59, ⟨.slice 9, 1, 24, [.slice none 0 0]⟩), (60, ⟨.fn, 1, 8, [.nilFunc]⟩), (61, ⟨.fn, 1, 8, [.nilFunc]⟩), (62, ⟨.fn, 1, 8, [.nilFunc]⟩), (63, ⟨.fn, 1, 8, [.nilFunc]⟩), (64, ⟨.fn, 1, 8, [.nilFunc]⟩), (65, ⟨.fn, 1, 8, [.nilFunc]⟩), (66, ⟨.fn, 1, 8, [.nilFunc]⟩), (67, ⟨.ptr 70, 1, 8, [.pointer none]⟩), (68, ⟨.slice 5, 1, 24, [.slice none 0 0]⟩), (69, ⟨.struct true [(0, 67), (1, 68)], 2, 32, [.pointer none, .slice none 0 0]⟩), (70, ⟨.struct true [(0, 67), (1, 68)], 2, 32, [.pointer none, .slice none 0 0]⟩), (71, ⟨.fn, 1, 8, [.nilFunc]⟩), (75, ⟨.fn, 1, 8, [.nilFunc]⟩), (76, ⟨.fn, 1, 8, [.nilFunc]⟩), (77, ⟨.fn, 1, 8, [.nilFunc]⟩), (78, ⟨.slice 85, 1, 24, [.slice none 0 0]⟩), (79, ⟨.struct true [(0, 28), (1, 78), (2, 56)], 3, 72, [.slice none 0 0, .slice none 0 0, .slice none 0 0]⟩), (80, ⟨.struct true [(0, 28), (1, 78), (2, 56)], 3, 72, [.slice none 0 0, .slice none 0 0, .slice none 0 0]⟩), (81, ⟨.ptr 80, 1, 8, [.pointer none]⟩), (82, ⟨.fn, 1, 8, [.nilFunc]⟩), (83, ⟨.fn, 1, 8, [.nilFunc]⟩), (84, ⟨.ptr 5, 1, 8, [.pointer none]⟩), (85, ⟨.map 2 2, 1, 8, [.map none]⟩), (86, ⟨.fn, 1, 8, [.nilFunc]⟩), (87, ⟨.fn, 1, 8, [.nilFunc]⟩), (88, ⟨.fn, 1, 8, [.nilFunc]⟩), (90, ⟨.int .u64, 1, 8, [.int .u64 0]⟩), (91, ⟨.fn, 1, 8, [.nilFunc]⟩), (92, ⟨.fn, 1, 8, [.nilFunc]⟩), (94, ⟨.fn, 1, 8, [.nilFunc]⟩), (96, ⟨.fn, 1, 8, [.nilFunc]⟩), (97, ⟨.fn, 1, 8, [.nilFunc]⟩), (99, ⟨.fn, 1, 8, [.nilFunc]⟩), (100, ⟨.fn, 1, 8, [.nilFunc]⟩), (102, ⟨.int .u32, 1, 4, [.int .u32 0]⟩), (104, ⟨.fn, 1, 8, [.nilFunc]⟩), (105, ⟨.int .u64, 1, 8, [.int .u64 0]⟩), (106, ⟨.fn, 1, 8, [.nilFunc]⟩), (107, ⟨.fn, 1, 8, [.nilFunc]⟩), (110, ⟨.struct false [(0, 17), (1, 17), (2, 17), (3, 9)], 4, 40, [.pointer none, .pointer none, .pointer none, .string ByteArray.empty]⟩), (111, ⟨.struct false [(0, 17), (1, 17), (2, 17), (3, 9)], 4, 40, [.pointer none, .pointer none, .pointer none, .string ByteArray.empty]⟩), (113, ⟨.struct false [(0, 112)], 0, 0, []⟩), (114, ⟨.struct false [(0, 112)], 0, 0, []⟩), (115, ⟨.fn, 1, 8, [.nilFunc]⟩), (116, ⟨.int .u8, 1, 1, [.int .u8 0]⟩), (117, ⟨.int .u8, 1, 1, [.int .u8 0]⟩), (118, ⟨.fn, 1, 8, [.nilFunc]⟩), (119, ⟨.int .i32, 1, 4, [.int .i32 0]⟩), (120, ⟨.int .i32, 1, 4, [.int .i32 0]⟩), (121, ⟨.struct false [(0, 12), (1, 12), (2, 102), (3, 116), (4, 5), (5, 5), (6, 117), (7, 118), (8, 84), (9, 119), (10, 120)], 11, 48, [.int .u64 0, .int .u64 0, .int .u32 0, .int .u8 0, .int .u8 0, .int .u8 0, .int .u8 0, .nilFunc, .pointer none, .int .i32 0, .int .i32 0]⟩), (122, ⟨.struct false [(0, 12), (1, 12), (2, 102), (3, 116), (4, 5), (5, 5), (6, 117), (7, 118), (8, 84), (9, 119), (10, 120)], 11, 48, [.int .u64 0, .int .u64 0, .int .u32 0, .int .u8 0, .int .u8 0, .int .u8 0, .int .u8 0, .nilFunc, .pointer none, .int .i32 0, .int .i32 0]⟩)]
def tb : TypeId → Option TI := Go.V.look tbl
theorem tbEq : tbl.map (fun p => entryOf Tryd.prog p.1) = tbl.map (fun p => some p.2) := by kernel_rfl
theorem tbOk : TbOK Tryd.prog tb := tb_of tbEq
theorem mixOk : Tryd.prog.follows .mixedOrders = true := by kernel_rfl
abbrev sI : Bool × List D1 := (false, [.dat (.int .i64)])
abbrev sL : Bool × List D1 := (false, [.dat (.list (.int .i64))])
abbrev sM : Bool × List D1 := (false, [.dat (.list (.list (.int .i64)))])
abbrev sT : Bool × List D1 := (true, [.dat (.list (.int .i64))])
abbrev sB : Bool × List D1 := (false, [.dat .bool])
abbrev sU : Bool × List D1 := (false, [.dat (.list (.int .u8))])
abbrev sC : Bool × List D1 := (false, [.cel (.struct (.pair (.list (.int .u8)) (.pair (.int .i64) (.int .u64))))])
abbrev aI (x : Int) : AV := .dat (.int .i64) x
abbrev aL (x : List Int) : AV := .dat (.list (.int .i64)) x
abbrev aM (x : List (List Int)) : AV := .dat (.list (.list (.int .i64))) x
abbrev aB (x : Bool) : AV := .dat .bool x
abbrev aU (x : List Int) : AV := .dat (.list (.int .u8)) x
abbrev aQ (x : Int) : AV := .dat (.int .u64) x
theorem on : OrcOK Tryd.prog (orcOf []) := orc_nil
theorem oc {f : FuncId} {S : Does} {l : List (Nat × Does)} (h : Meets Tryd.prog f S) (hl : OrcOK Tryd.prog (orcOf l)) : OrcOK Tryd.prog (orcOf ((f, S) :: l)) := orc_cons h hl
theorem mo {f : FuncId} {fn : Func} {S : Does} {E : En} (hf : Tryd.prog.funcs[f]? = some fn) (ho : OrcOK Tryd.prog E.orc) (e : ∀ x, funK E S fn x = S.fn x) (hn : (fn.name == "runtime.NumGoroutine") = false := by kernel_rfl) (ht : E.tb = tb := by rfl) (hb : fn.body.isSome = true := by rfl) : Meets Tryd.prog f S := meets_of hf hn (ht ▸ tbOk) ho mixOk (fun x y h => (e x).trans h) hb
theorem lq {V : Type} (E : En) (S : Does) {fn : Func} {p : List Bool} {recs : List (St → Option (dens (flatC S.rs ++ outsC S.ps)))} {enc : V → St} (s : (V → Option (dens (flatC S.rs ++ outsC S.ps))) → V → Option (dens (flatC S.rs ++ outsC S.ps))) (l : Nat → V → Option (dens (flatC S.rs ++ outsC S.ps))) (h : ∀ rec v, roundF E S fn p recs rec (enc v) = s (fun v => rec (enc v)) v) (n : Nat) (h0 : ∀ v, l 0 v = none := by exact fun _ => rfl) (h1 : ∀ n v, l (n + 1) v = s (l n) v := by exact fun _ _ => rfl) : ∀ v, loopF E S fn p recs n (enc v) = l n v := loopF_eq E S fn p recs enc s l h0 h1 h n
def t' := true
def f' := false
def lz (l : List Nat) : List (Nat × List LvK) := l.map fun i => (i, [])
section
variable {t0 t1 t2 t3 t4 t5 t6 t7 t8 R T : Type}
def Z1 : t8 → Option R := fun _ => none
def U1 (f : t8 → R) : t8 → R := f
def C1 (f : t8 → R) : t8 → R := f
def W1 (g : R → T) (f : t8 → R) : t8 → T := fun a => g (f a)
theorem u1 {g : R → T} {f : t8 → R} {h : t8 → T} (e : ∀ v, g (U1 f v) = U1 h v) : W1 g f = h := funext e
def Z2 : t7 → t8 → Option R := fun _ => Z1
def U2 (f : t7 → t8 → R) (v : t7 × t8) : R := U1 (f v.1) v.2
def C2 (f : t7 × t8 → R) : t7 → t8 → R := fun a => C1 fun v => f (a, v)
def W2 (g : R → T) (f : t7 → t8 → R) : t7 → t8 → T := fun a => W1 g (f a)
theorem u2 {g : R → T} {f : t7 → t8 → R} {h : t7 → t8 → T} (e : ∀ v, g (U2 f v) = U2 h v) : W2 g f = h := funext fun a => u1 fun v => e (a, v)
def Z3 : t6 → t7 → t8 → Option R := fun _ => Z2
def U3 (f : t6 → t7 → t8 → R) (v : t6 × t7 × t8) : R := U2 (f v.1) v.2
def C3 (f : t6 × t7 × t8 → R) : t6 → t7 → t8 → R := fun a => C2 fun v => f (a, v)
def W3 (g : R → T) (f : t6 → t7 → t8 → R) : t6 → t7 → t8 → T := fun a => W2 g (f a)
theorem u3 {g : R → T} {f : t6 → t7 → t8 → R} {h : t6 → t7 → t8 → T} (e : ∀ v, g (U3 f v) = U3 h v) : W3 g f = h := funext fun a => u2 fun v => e (a, v)
def Z4 : t5 → t6 → t7 → t8 → Option R := fun _ => Z3
def U4 (f : t5 → t6 → t7 → t8 → R) (v : t5 × t6 × t7 × t8) : R := U3 (f v.1) v.2
def C4 (f : t5 × t6 × t7 × t8 → R) : t5 → t6 → t7 → t8 → R := fun a => C3 fun v => f (a, v)
def W4 (g : R → T) (f : t5 → t6 → t7 → t8 → R) : t5 → t6 → t7 → t8 → T := fun a => W3 g (f a)
theorem u4 {g : R → T} {f : t5 → t6 → t7 → t8 → R} {h : t5 → t6 → t7 → t8 → T} (e : ∀ v, g (U4 f v) = U4 h v) : W4 g f = h := funext fun a => u3 fun v => e (a, v)
def Z5 : t4 → t5 → t6 → t7 → t8 → Option R := fun _ => Z4
def U5 (f : t4 → t5 → t6 → t7 → t8 → R) (v : t4 × t5 × t6 × t7 × t8) : R := U4 (f v.1) v.2
def C5 (f : t4 × t5 × t6 × t7 × t8 → R) : t4 → t5 → t6 → t7 → t8 → R := fun a => C4 fun v => f (a, v)
def W5 (g : R → T) (f : t4 → t5 → t6 → t7 → t8 → R) : t4 → t5 → t6 → t7 → t8 → T := fun a => W4 g (f a)
theorem u5 {g : R → T} {f : t4 → t5 → t6 → t7 → t8 → R} {h : t4 → t5 → t6 → t7 → t8 → T} (e : ∀ v, g (U5 f v) = U5 h v) : W5 g f = h := funext fun a => u4 fun v => e (a, v)
def Z6 : t3 → t4 → t5 → t6 → t7 → t8 → Option R := fun _ => Z5
def U6 (f : t3 → t4 → t5 → t6 → t7 → t8 → R) (v : t3 × t4 × t5 × t6 × t7 × t8) : R := U5 (f v.1) v.2
def C6 (f : t3 × t4 × t5 × t6 × t7 × t8 → R) : t3 → t4 → t5 → t6 → t7 → t8 → R := fun a => C5 fun v => f (a, v)
def W6 (g : R → T) (f : t3 → t4 → t5 → t6 → t7 → t8 → R) : t3 → t4 → t5 → t6 → t7 → t8 → T := fun a => W5 g (f a)
theorem u6 {g : R → T} {f : t3 → t4 → t5 → t6 → t7 → t8 → R} {h : t3 → t4 → t5 → t6 → t7 → t8 → T} (e : ∀ v, g (U6 f v) = U6 h v) : W6 g f = h := funext fun a => u5 fun v => e (a, v)
def Z7 : t2 → t3 → t4 → t5 → t6 → t7 → t8 → Option R := fun _ => Z6
def U7 (f : t2 → t3 → t4 → t5 → t6 → t7 → t8 → R) (v : t2 × t3 × t4 × t5 × t6 × t7 × t8) : R := U6 (f v.1) v.2
def C7 (f : t2 × t3 × t4 × t5 × t6 × t7 × t8 → R) : t2 → t3 → t4 → t5 → t6 → t7 → t8 → R := fun a => C6 fun v => f (a, v)
def W7 (g : R → T) (f : t2 → t3 → t4 → t5 → t6 → t7 → t8 → R) : t2 → t3 → t4 → t5 → t6 → t7 → t8 → T := fun a => W6 g (f a)
theorem u7 {g : R → T} {f : t2 → t3 → t4 → t5 → t6 → t7 → t8 → R} {h : t2 → t3 → t4 → t5 → t6 → t7 → t8 → T} (e : ∀ v, g (U7 f v) = U7 h v) : W7 g f = h := funext fun a => u6 fun v => e (a, v)
def Z8 : t1 → t2 → t3 → t4 → t5 → t6 → t7 → t8 → Option R := fun _ => Z7
def U8 (f : t1 → t2 → t3 → t4 → t5 → t6 → t7 → t8 → R) (v : t1 × t2 × t3 × t4 × t5 × t6 × t7 × t8) : R := U7 (f v.1) v.2
def C8 (f : t1 × t2 × t3 × t4 × t5 × t6 × t7 × t8 → R) : t1 → t2 → t3 → t4 → t5 → t6 → t7 → t8 → R := fun a => C7 fun v => f (a, v)
def W8 (g : R → T) (f : t1 → t2 → t3 → t4 → t5 → t6 → t7 → t8 → R) : t1 → t2 → t3 → t4 → t5 → t6 → t7 → t8 → T := fun a => W7 g (f a)
theorem u8 {g : R → T} {f : t1 → t2 → t3 → t4 → t5 → t6 → t7 → t8 → R} {h : t1 → t2 → t3 → t4 → t5 → t6 → t7 → t8 → T} (e : ∀ v, g (U8 f v) = U8 h v) : W8 g f = h := funext fun a => u7 fun v => e (a, v)
def Z9 : t0 → t1 → t2 → t3 → t4 → t5 → t6 → t7 → t8 → Option R := fun _ => Z8
def U9 (f : t0 → t1 → t2 → t3 → t4 → t5 → t6 → t7 → t8 → R) (v : t0 × t1 × t2 × t3 × t4 × t5 × t6 × t7 × t8) : R := U8 (f v.1) v.2
def C9 (f : t0 × t1 × t2 × t3 × t4 × t5 × t6 × t7 × t8 → R) : t0 → t1 → t2 → t3 → t4 → t5 → t6 → t7 → t8 → R := fun a => C8 fun v => f (a, v)
def W9 (g : R → T) (f : t0 → t1 → t2 → t3 → t4 → t5 → t6 → t7 → t8 → R) : t0 → t1 → t2 → t3 → t4 → t5 → t6 → t7 → t8 → T := fun a => W8 g (f a)
theorem u9 {g : R → T} {f : t0 → t1 → t2 → t3 → t4 → t5 → t6 → t7 → t8 → R} {h : t0 → t1 → t2 → t3 → t4 → t5 → t6 → t7 → t8 → T} (e : ∀ v, g (U9 f v) = U9 h v) : W9 g f = h := funext fun a => u8 fun v => e (a, v)
end
def laws_szInt64S.f (l0 : List Int) (a1 : Int) : Option (Int) := if (wrap64 (a1 - (l0.length : Int))) < 0 then (some (-1)) else (some (wrap64 (a1 - (l0.length : Int))))
def S13 (k : Nat) : Does := ⟨[sL, sI], [sI], U2 laws_szInt64S.f⟩
def E13 (k : Nat) : En := ⟨tb, orcOf [], lvOf [], k, 0, lvOf [], []⟩
theorem M13 (k) : Meets Tryd.prog 13 (S13 k) := mo Tryd.func13 on fun x => (by kernel_rfl : funK (E13 k) (S13 k) Tryd.f13 x = (S13 k).fn x)
def laws_szTasks.f (l0_0 : List Int) (a1 : Int) : Option (Int) := (laws_szInt64S.f l0_0 a1).bind fun t1 => if t1 < 0 then (some (-1)) else (some t1)
def S4 (k : Nat) : Does := ⟨[sT, sI], [sI], U2 laws_szTasks.f⟩
def E4 (k : Nat) : En := ⟨tb, orcOf [(13, S13 k)], lvOf [], k, 0, lvOf [], []⟩
theorem M4 (k) : Meets Tryd.prog 4 (S4 k) := mo Tryd.func4 (oc (M13 k) on) fun x => (by kernel_rfl : funK (E4 k) (S4 k) Tryd.f4 x = (S4 k).fn x)
abbrev O16 := Option (List Int)
abbrev T16_0 (R : Type) := (List Int) → (List Int) → Int → R
def laws_toInt64S.s0 (k : Nat) (r0 : T16_0 O16) : T16_0 O16 := fun x0 x3 x4 => if x4 < x0.length then (if 0 ≤ x4 then (if x4 < x0.length then (if 0 ≤ x4 then (if x4 < x3.length then (r0 x0 (x3.set x4.toNat (rd x0 x4)) (wrap64 (x4 + 1))) else none) else none) else none) else none) else (some x3)
def laws_toInt64S.l0 (k : Nat) : Nat → T16_0 O16
  | 0 => Z3
  | n + 1 => laws_toInt64S.s0 k (laws_toInt64S.l0 k n)
def laws_toInt64S.g (k : Nat) (r0 : T16_0 O16) (l0 : List Int) : Option (List Int) := if 0 ≤ (l0.length : Int) then (if (l0.length : Int) ≤ (l0.length : Int) then (if (l0.length : Int).toNat ≤ 1099511627776 then (r0 l0 (List.replicate (l0.length : Int).toNat (0 : Int)) 0) else none) else none) else none
def laws_toInt64S.f (k : Nat) (l0 : List Int) : Option (List Int) := laws_toInt64S.g k (laws_toInt64S.l0 k k) l0
def S16 (k : Nat) : Does := ⟨[sL], [(false, [.own 2 (.int .i64)])], laws_toInt64S.f k⟩
def E16 (k : Nat) : En := ⟨tb, orcOf [], lvOf [(0, lz [0, 3, 4])], k, 0, lvOf [], []⟩
def n16_0 : T16_0 St := fun x0 x3 x4 => ⟨22, lookA [(0, aL x0), (3, .own 0), (4, aI x4)], Go.V.look [(0, .flat 2 (.int .i64) x3)]⟩
def p16_0 : List Bool := [t', t', f', t', f']
def L16 (k : Nat) (p : List Bool) (r : List (St → O16)) : Nat → St → O16 := loopF (E16 k) (S16 k) Tryd.f16 p r
theorem r16_0 (k) (rec : St → O16) (v) : roundF (E16 k) (S16 k) Tryd.f16 p16_0 [] rec (U3 n16_0 v) = U3 (laws_toInt64S.s0 k (W3 rec n16_0)) v := by kernel_rfl
theorem q16_0 (k) (n) : W3 (L16 k p16_0 [] n) n16_0 = laws_toInt64S.l0 k n :=
  u3 (lq (E16 k) (S16 k) (fun rec => U3 (laws_toInt64S.s0 k (C3 rec))) (fun n => U3 (laws_toInt64S.l0 k n)) (r16_0 k) n)
theorem M16 (k) : Meets Tryd.prog 16 (S16 k) := mo Tryd.func16 on fun x => (show funK (E16 k) (S16 k) Tryd.f16 x = laws_toInt64S.g k (W3 (L16 k p16_0 [] k) n16_0) x by kernel_rfl).trans (by rw [q16_0]; rfl)
def laws_toTasks.f (k : Nat) (l0_0 : List Int) : Option (List Int) := (laws_toInt64S.f k l0_0).bind fun t1 => some t1
def S6 (k : Nat) : Does := ⟨[sT], [(true, [.own 2 (.int .i64)])], laws_toTasks.f k⟩
def E6 (k : Nat) : En := ⟨tb, orcOf [(16, S16 k)], lvOf [], k, 0, lvOf [], []⟩
theorem M6 (k) : Meets Tryd.prog 6 (S6 k) := mo Tryd.func6 (oc (M16 k) on) fun x => (by kernel_rfl : funK (E6 k) (S6 k) Tryd.f6 x = (S6 k).fn x)
def spec_l01In.f (a0 : Int) (a1 : Int) (a2 : Int) : Option (Bool) := if a1 ≤ a0 then (some (decide (a0 ≤ a2))) else (some false)
def S21 (k : Nat) : Does := ⟨[sI, sI, sI], [sB], U3 spec_l01In.f⟩
def E21 (k : Nat) : En := ⟨tb, orcOf [], lvOf [], k, 0, lvOf [], []⟩
theorem M21 (k) : Meets Tryd.prog 21 (S21 k) := mo Tryd.func21 on fun x => (by kernel_rfl : funK (E21 k) (S21 k) Tryd.f21 x = (S21 k).fn x)
def spec_l01K.f (l0_0 : List Int) : Option (Int) := some (l0_0.length : Int)
def S31 (k : Nat) : Does := ⟨[sT], [sI], spec_l01K.f⟩
def E31 (k : Nat) : En := ⟨tb, orcOf [], lvOf [], k, 0, lvOf [], []⟩
theorem M31 (k) : Meets Tryd.prog 31 (S31 k) := mo Tryd.func31 on fun x => (by kernel_rfl : funK (E31 k) (S31 k) Tryd.f31 x = (S31 k).fn x)
abbrev O20 := Option (Bool)
abbrev T20_0 (R : Type) := (List Int) → Int → R
def spec_l01Is.s0 (k : Nat) (r0 : T20_0 O20) : T20_0 O20 := fun x1_0 x3 => if x3 < x1_0.length then (if 0 ≤ x3 then (if x3 < x1_0.length then ((spec_l01In.f (rd x1_0 x3) 1 40).bind fun t1 => if t1 = true then (r0 x1_0 (wrap64 (x3 + 1))) else (some false)) else none) else none) else ((spec_l01K.f x1_0).bind fun t2 => (spec_l01In.f t2 1 8).bind fun t3 => some t3)
def spec_l01Is.l0 (k : Nat) : Nat → T20_0 O20
  | 0 => Z2
  | n + 1 => spec_l01Is.s0 k (spec_l01Is.l0 k n)
def spec_l01Is.g (k : Nat) (r0 : T20_0 O20) (l0_0 : List Int) : Option (Bool) := r0 l0_0 0
def spec_l01Is.f (k : Nat) (l0_0 : List Int) : Option (Bool) := spec_l01Is.g k (spec_l01Is.l0 k k) l0_0
def S20 (k : Nat) : Does := ⟨[sT], [sB], spec_l01Is.f k⟩
def E20 (k : Nat) : En := ⟨tb, orcOf [(21, S21 k), (31, S31 k)], lvOf [(0, lz [1, 3])], k, 0, lvOf [], []⟩
def n20_0 : T20_0 St := fun x1_0 x3 => ⟨21, lookA [(1, .box 0 0), (3, aI x3)], Go.V.look [(0, .cells [aL x1_0])]⟩
def p20_0 : List Bool := [t', f', t', f']
def L20 (k : Nat) (p : List Bool) (r : List (St → O20)) : Nat → St → O20 := loopF (E20 k) (S20 k) Tryd.f20 p r
theorem r20_0 (k) (rec : St → O20) (v) : roundF (E20 k) (S20 k) Tryd.f20 p20_0 [] rec (U2 n20_0 v) = U2 (spec_l01Is.s0 k (W2 rec n20_0)) v := by kernel_rfl
theorem q20_0 (k) (n) : W2 (L20 k p20_0 [] n) n20_0 = spec_l01Is.l0 k n :=
  u2 (lq (E20 k) (S20 k) (fun rec => U2 (spec_l01Is.s0 k (C2 rec))) (fun n => U2 (spec_l01Is.l0 k n)) (r20_0 k) n)
theorem M20 (k) : Meets Tryd.prog 20 (S20 k) := mo Tryd.func20 (oc (M21 k) (oc (M31 k) on)) fun x => (show funK (E20 k) (S20 k) Tryd.f20 x = spec_l01Is.g k (W2 (L20 k p20_0 [] k) n20_0) x by kernel_rfl).trans (by rw [q20_0]; rfl)
abbrev O32 := Option (Int)
abbrev T32_0 (R : Type) := (List Int) → Int → Int → R
def spec_l02Count.s0 (k : Nat) (r0 : T32_0 O32) : T32_0 O32 := fun x1_0 x3 x4 => if x4 < x1_0.length then (if 0 ≤ x4 then (if x4 < x1_0.length then (r0 x1_0 (wrap64 (x3 * (rd x1_0 x4))) (wrap64 (x4 + 1))) else none) else none) else (some x3)
def spec_l02Count.l0 (k : Nat) : Nat → T32_0 O32
  | 0 => Z3
  | n + 1 => spec_l02Count.s0 k (spec_l02Count.l0 k n)
def spec_l02Count.g (k : Nat) (r0 : T32_0 O32) (l0_0 : List Int) : Option (Int) := r0 l0_0 1 0
def spec_l02Count.f (k : Nat) (l0_0 : List Int) : Option (Int) := spec_l02Count.g k (spec_l02Count.l0 k k) l0_0
def S32 (k : Nat) : Does := ⟨[sT], [sI], spec_l02Count.f k⟩
def E32 (k : Nat) : En := ⟨tb, orcOf [], lvOf [(0, lz [1, 3, 4])], k, 0, lvOf [], []⟩
def n32_0 : T32_0 St := fun x1_0 x3 x4 => ⟨20, lookA [(1, .box 0 0), (3, aI x3), (4, aI x4)], Go.V.look [(0, .cells [aL x1_0])]⟩
def p32_0 : List Bool := [t', t', f', t', f']
def L32 (k : Nat) (p : List Bool) (r : List (St → O32)) : Nat → St → O32 := loopF (E32 k) (S32 k) Tryd.f32 p r
theorem r32_0 (k) (rec : St → O32) (v) : roundF (E32 k) (S32 k) Tryd.f32 p32_0 [] rec (U3 n32_0 v) = U3 (spec_l02Count.s0 k (W3 rec n32_0)) v := by kernel_rfl
theorem q32_0 (k) (n) : W3 (L32 k p32_0 [] n) n32_0 = spec_l02Count.l0 k n :=
  u3 (lq (E32 k) (S32 k) (fun rec => U3 (spec_l02Count.s0 k (C3 rec))) (fun n => U3 (spec_l02Count.l0 k n)) (r32_0 k) n)
theorem M32 (k) : Meets Tryd.prog 32 (S32 k) := mo Tryd.func32 on fun x => (show funK (E32 k) (S32 k) Tryd.f32 x = spec_l02Count.g k (W3 (L32 k p32_0 [] k) n32_0) x by kernel_rfl).trans (by rw [q32_0]; rfl)
def spec_l02Few.f (k : Nat) (l0_0 : List Int) : Option (Int) := (spec_l01Is.f k l0_0).bind fun t1 => if (!decide (t1 = true)) = true then (some 1) else ((spec_l02Count.f k l0_0).bind fun t2 => if (decide (4000 < t2)) = true then (some 3) else (some 0))
def S22 (k : Nat) : Does := ⟨[sT], [sI], spec_l02Few.f k⟩
def E22 (k : Nat) : En := ⟨tb, orcOf [(20, S20 k), (32, S32 k)], lvOf [], k, 0, lvOf [], []⟩
theorem M22 (k) : Meets Tryd.prog 22 (S22 k) := mo Tryd.func22 (oc (M20 k) (oc (M32 k) on)) fun x => (by kernel_rfl : funK (E22 k) (S22 k) Tryd.f22 x = (S22 k).fn x)
def spec_l08Code.f (k : Nat) (l0_0 : List Int) (a1 : Int) : Option (Int) := (spec_l01Is.f k l0_0).bind fun t1 => if (!decide (t1 = true)) = true then (some 1) else ((spec_l01In.f a1 1 4).bind fun t2 => if (!decide (t2 = true)) = true then (some 2) else ((spec_l02Few.f k l0_0).bind fun t3 => some t3))
def S14 (k : Nat) : Does := ⟨[sT, sI], [sI], U2 (spec_l08Code.f k)⟩
def E14 (k : Nat) : En := ⟨tb, orcOf [(20, S20 k), (21, S21 k), (22, S22 k)], lvOf [], k, 0, lvOf [], []⟩
theorem M14 (k) : Meets Tryd.prog 14 (S14 k) := mo Tryd.func14 (oc (M20 k) (oc (M21 k) (oc (M22 k) on))) fun x => (by kernel_rfl : funK (E14 k) (S14 k) Tryd.f14 x = (S14 k).fn x)
def spec_l01Own.f (l0 : List Int) : Option (List Int) := if 0 + l0.length ≤ 1099511627776 then (some ([] ++ l0)) else none
def S23 (k : Nat) : Does := ⟨[sL], [(false, [.own 2 (.int .i64)])], spec_l01Own.f⟩
def E23 (k : Nat) : En := ⟨tb, orcOf [], lvOf [], k, 0, lvOf [], []⟩
theorem M23 (k) : Meets Tryd.prog 23 (S23 k) := mo Tryd.func23 on fun x => (by kernel_rfl : funK (E23 k) (S23 k) Tryd.f23 x = (S23 k).fn x)
abbrev O43 := Option (List Int)
abbrev T43_0 (R : Type) := Int → (List Int) → (List Int) → Int → R
def spec_l02Of.s0 (k : Nat) (r0 : T43_0 O43) : T43_0 O43 := fun x1 x2_0 x5 x6 => if 0 ≤ x6 then (if 0 ≤ x6 then (if x6 < x2_0.length then (if (rd x2_0 x6) = 0 then none else (if 0 ≤ x6 then (if x6 < x5.length then (if 0 ≤ x6 then (if x6 < x2_0.length then (if (rd x2_0 x6) = 0 then none else (r0 (wrap64 (Int.tdiv x1 (rd x2_0 x6))) x2_0 (x5.set x6.toNat (wrap64 ((Int.tmod x1 (rd x2_0 x6)) + 1))) (wrap64 (x6 - 1)))) else none) else none) else none) else none)) else none) else none) else (some x5)
def spec_l02Of.l0 (k : Nat) : Nat → T43_0 O43
  | 0 => Z4
  | n + 1 => spec_l02Of.s0 k (spec_l02Of.l0 k n)
def spec_l02Of.g (k : Nat) (r0 : T43_0 O43) (l0_0 : List Int) (a1 : Int) : Option (List Int) := if 0 ≤ (l0_0.length : Int) then (if (l0_0.length : Int) ≤ (l0_0.length : Int) then (if (l0_0.length : Int).toNat ≤ 1099511627776 then (r0 a1 l0_0 (List.replicate (l0_0.length : Int).toNat (0 : Int)) (wrap64 (((List.replicate (l0_0.length : Int).toNat (0 : Int)).length : Int) - 1))) else none) else none) else none
def spec_l02Of.f (k : Nat) (l0_0 : List Int) (a1 : Int) : Option (List Int) := spec_l02Of.g k (spec_l02Of.l0 k k) l0_0 a1
def S43 (k : Nat) : Does := ⟨[sT, sI], [(false, [.own 2 (.int .i64)])], U2 (spec_l02Of.f k)⟩
def E43 (k : Nat) : En := ⟨tb, orcOf [], lvOf [(0, lz [1, 2, 5, 6])], k, 0, lvOf [], []⟩
def n43_0 : T43_0 St := fun x1 x2_0 x5 x6 => ⟨37, lookA [(1, aI x1), (2, .box 0 0), (5, .own 1), (6, aI x6)], Go.V.look [(0, .cells [aL x2_0]), (1, .flat 2 (.int .i64) x5)]⟩
def p43_0 : List Bool := [t', t', f', t', f']
def L43 (k : Nat) (p : List Bool) (r : List (St → O43)) : Nat → St → O43 := loopF (E43 k) (S43 k) Tryd.f43 p r
theorem r43_0 (k) (rec : St → O43) (v) : roundF (E43 k) (S43 k) Tryd.f43 p43_0 [] rec (U4 n43_0 v) = U4 (spec_l02Of.s0 k (W4 rec n43_0)) v := by kernel_rfl
theorem q43_0 (k) (n) : W4 (L43 k p43_0 [] n) n43_0 = spec_l02Of.l0 k n :=
  u4 (lq (E43 k) (S43 k) (fun rec => U4 (spec_l02Of.s0 k (C4 rec))) (fun n => U4 (spec_l02Of.l0 k n)) (r43_0 k) n)
theorem M43 (k) : Meets Tryd.prog 43 (S43 k) := mo Tryd.func43 on fun x => (show funK (E43 k) (S43 k) Tryd.f43 x = spec_l02Of.g k (W4 (L43 k p43_0 [] k) n43_0) x.1 x.2 by kernel_rfl).trans (by rw [q43_0]; rfl)
abbrev O44 := Option ((List Int) × Bool)
abbrev T44_0 (R : Type) := (List Int) → Int → (List Int) → (List Int) → Int → R
def spec_l02Step.s0 (k : Nat) (r0 : T44_0 O44) : T44_0 O44 := fun x1 x2 x3_0 x8 x9 => if x9 < x1.length then (if (decide (x9 = x2)) = true then (if 0 ≤ x9 then (if x9 < x3_0.length then (if x8.length + 1 ≤ 1099511627776 then (r0 x1 x2 x3_0 (x8 ++ [(rd x3_0 x9)]) (wrap64 (x9 + 1))) else none) else none) else none) else (if 0 ≤ x9 then (if x9 < x1.length then (if (decide ((rd x1 x9) = 1)) = true then (some ([], false)) else (if 0 ≤ x9 then (if x9 < x1.length then (if x8.length + 1 ≤ 1099511627776 then (r0 x1 x2 x3_0 (x8 ++ [(wrap64 ((rd x1 x9) - 1))]) (wrap64 (x9 + 1))) else none) else none) else none)) else none) else none)) else (some (x8, true))
def spec_l02Step.l0 (k : Nat) : Nat → T44_0 O44
  | 0 => Z5
  | n + 1 => spec_l02Step.s0 k (spec_l02Step.l0 k n)
def spec_l02Step.g (k : Nat) (r0 : T44_0 O44) (l0_0 : List Int) (l1 : List Int) (a2 : Int) : Option ((List Int) × Bool) := r0 l1 a2 l0_0 [] 0
def spec_l02Step.f (k : Nat) (l0_0 : List Int) (l1 : List Int) (a2 : Int) : Option ((List Int) × Bool) := spec_l02Step.g k (spec_l02Step.l0 k k) l0_0 l1 a2
def S44 (k : Nat) : Does := ⟨[sT, sL, sI], [(false, [.own 2 (.int .i64)]), sB], U3 (spec_l02Step.f k)⟩
def E44 (k : Nat) : En := ⟨tb, orcOf [], lvOf [(0, lz [1, 2, 3, 8, 9])], k, 0, lvOf [], []⟩
def n44_0 : T44_0 St := fun x1 x2 x3_0 x8 x9 => ⟨44, lookA [(1, aL x1), (2, aI x2), (3, .box 0 0), (8, .own 1), (9, aI x9)], Go.V.look [(0, .cells [aL x3_0]), (1, .flat 2 (.int .i64) x8)]⟩
def p44_0 : List Bool := [t', t', f', t', f']
def L44 (k : Nat) (p : List Bool) (r : List (St → O44)) : Nat → St → O44 := loopF (E44 k) (S44 k) Tryd.f44 p r
theorem r44_0 (k) (rec : St → O44) (v) : roundF (E44 k) (S44 k) Tryd.f44 p44_0 [] rec (U5 n44_0 v) = U5 (spec_l02Step.s0 k (W5 rec n44_0)) v := by kernel_rfl
theorem q44_0 (k) (n) : W5 (L44 k p44_0 [] n) n44_0 = spec_l02Step.l0 k n :=
  u5 (lq (E44 k) (S44 k) (fun rec => U5 (spec_l02Step.s0 k (C5 rec))) (fun n => U5 (spec_l02Step.l0 k n)) (r44_0 k) n)
theorem M44 (k) : Meets Tryd.prog 44 (S44 k) := mo Tryd.func44 on fun x => (show funK (E44 k) (S44 k) Tryd.f44 x = spec_l02Step.g k (W5 (L44 k p44_0 [] k) n44_0) x.1 x.2.1 x.2.2 by kernel_rfl).trans (by rw [q44_0]; rfl)
abbrev O45 := Option (Int)
abbrev T45_0 (R : Type) := (List Int) → (List Int) → Int → Int → R
def spec_l02Number.s0 (k : Nat) (r0 : T45_0 O45) : T45_0 O45 := fun x1 x2_0 x5 x6 => if x6 < x1.length then (if 0 ≤ x6 then (if x6 < x2_0.length then (if 0 ≤ x6 then (if x6 < x1.length then (r0 x1 x2_0 (wrap64 ((wrap64 ((wrap64 (x5 * (rd x2_0 x6))) + (rd x1 x6))) - 1)) (wrap64 (x6 + 1))) else none) else none) else none) else none) else (some x5)
def spec_l02Number.l0 (k : Nat) : Nat → T45_0 O45
  | 0 => Z4
  | n + 1 => spec_l02Number.s0 k (spec_l02Number.l0 k n)
def spec_l02Number.g (k : Nat) (r0 : T45_0 O45) (l0_0 : List Int) (l1 : List Int) : Option (Int) := r0 l1 l0_0 0 0
def spec_l02Number.f (k : Nat) (l0_0 : List Int) (l1 : List Int) : Option (Int) := spec_l02Number.g k (spec_l02Number.l0 k k) l0_0 l1
def S45 (k : Nat) : Does := ⟨[sT, sL], [sI], U2 (spec_l02Number.f k)⟩
def E45 (k : Nat) : En := ⟨tb, orcOf [], lvOf [(0, lz [1, 2, 5, 6])], k, 0, lvOf [], []⟩
def n45_0 : T45_0 St := fun x1 x2_0 x5 x6 => ⟨27, lookA [(1, aL x1), (2, .box 0 0), (5, aI x5), (6, aI x6)], Go.V.look [(0, .cells [aL x2_0])]⟩
def p45_0 : List Bool := [t', t', f', t', f']
def L45 (k : Nat) (p : List Bool) (r : List (St → O45)) : Nat → St → O45 := loopF (E45 k) (S45 k) Tryd.f45 p r
theorem r45_0 (k) (rec : St → O45) (v) : roundF (E45 k) (S45 k) Tryd.f45 p45_0 [] rec (U4 n45_0 v) = U4 (spec_l02Number.s0 k (W4 rec n45_0)) v := by kernel_rfl
theorem q45_0 (k) (n) : W4 (L45 k p45_0 [] n) n45_0 = spec_l02Number.l0 k n :=
  u4 (lq (E45 k) (S45 k) (fun rec => U4 (spec_l02Number.s0 k (C4 rec))) (fun n => U4 (spec_l02Number.l0 k n)) (r45_0 k) n)
theorem M45 (k) : Meets Tryd.prog 45 (S45 k) := mo Tryd.func45 on fun x => (show funK (E45 k) (S45 k) Tryd.f45 x = spec_l02Number.g k (W4 (L45 k p45_0 [] k) n45_0) x.1 x.2 by kernel_rfl).trans (by rw [q45_0]; rfl)
abbrev O37 := Option ((List Bool))
abbrev T37_0 (R : Type) := (List Int) → Int → (List Bool) → Int → Int → R
abbrev T37_1 (R : Type) := (List Int) → Int → (List Bool) → Bool → R
abbrev T37_2 (R : Type) := (List Int) → Int → (List Bool) → Bool → Int → R
abbrev T37_3 (R : Type) := (List Int) → Int → (List Bool) → Bool → Int → (List Int) → Bool → Int → R
def spec_l02Lasting.s3 (k : Nat) (r2 : T37_2 O37) (r3 : T37_3 O37) : T37_3 O37 := fun x1_0 x3 x4 x6 x7 x8 x9 x10 => (spec_l01K.f x1_0).bind fun t3 => if x10 < t3 then (if x9 = true then (if x9 = true then (r2 x1_0 x3 x4 x6 (wrap64 (x7 + 1))) else (if 0 ≤ x7 then (if x7 < x4.length then (r2 x1_0 x3 (x4.set x7.toNat false) true (wrap64 (x7 + 1))) else none) else none)) else ((spec_l02Step.f k x1_0 x8 x10).bind fun t4 => if t4.2 = true then ((spec_l02Number.f k x1_0 t4.1).bind fun t5 => if 0 ≤ t5 then (if t5 < (x4.length : Int) then (r3 x1_0 x3 x4 x6 x7 x8 (rdOf false x4 t5) (wrap64 (x10 + 1))) else none) else none) else (r3 x1_0 x3 x4 x6 x7 x8 x9 (wrap64 (x10 + 1))))) else (if x9 = true then (r2 x1_0 x3 x4 x6 (wrap64 (x7 + 1))) else (if 0 ≤ x7 then (if x7 < x4.length then (r2 x1_0 x3 (x4.set x7.toNat false) true (wrap64 (x7 + 1))) else none) else none))
def spec_l02Lasting.l3 (k : Nat) (r1 : T37_1 O37) (r2 : T37_2 O37) : Nat → T37_3 O37
  | 0 => Z8
  | n + 1 => spec_l02Lasting.s3 k r2 (spec_l02Lasting.l3 k r1 r2 n)
def spec_l02Lasting.s2 (k : Nat) (r1 : T37_1 O37) (r2 : T37_2 O37) (r3 : T37_3 O37) : T37_2 O37 := fun x1_0 x3 x4 x6 x7 => if x7 < x3 then (if 0 ≤ x7 then (if x7 < x4.length then (if (rdOf false x4 x7) = true then ((spec_l02Of.f k x1_0 x7).bind fun t2 => r3 x1_0 x3 x4 x6 x7 t2 false (-1)) else (r2 x1_0 x3 x4 x6 (wrap64 (x7 + 1)))) else none) else none) else (r1 x1_0 x3 x4 x6)
def spec_l02Lasting.l2 (k : Nat) (r1 : T37_1 O37) : Nat → T37_2 O37
  | 0 => Z5
  | n + 1 => spec_l02Lasting.s2 k r1 (spec_l02Lasting.l2 k r1 n) (spec_l02Lasting.l3 k r1 (spec_l02Lasting.l2 k r1 n) k)
def spec_l02Lasting.s1 (k : Nat) (r1 : T37_1 O37) (r2 : T37_2 O37) : T37_1 O37 := fun x1_0 x3 x4 x6 => if x6 = true then (r2 x1_0 x3 x4 false 0) else (some x4)
def spec_l02Lasting.l1 (k : Nat) : Nat → T37_1 O37
  | 0 => Z4
  | n + 1 => spec_l02Lasting.s1 k (spec_l02Lasting.l1 k n) (spec_l02Lasting.l2 k (spec_l02Lasting.l1 k n) k)
def spec_l02Lasting.s0 (k : Nat) (r0 : T37_0 O37) (r1 : T37_1 O37) : T37_0 O37 := fun x1_0 x3 x4 x18 x19 => if x19 < x18 then (if 0 ≤ x19 then (if x19 < x4.length then (r0 x1_0 x3 (x4.set x19.toNat true) x18 (wrap64 (x19 + 1))) else none) else none) else (r1 x1_0 x3 x4 true)
def spec_l02Lasting.l0 (k : Nat) : Nat → T37_0 O37
  | 0 => Z5
  | n + 1 => spec_l02Lasting.s0 k (spec_l02Lasting.l0 k n) (spec_l02Lasting.l1 k k)
def spec_l02Lasting.g (k : Nat) (r0 : T37_0 O37) (l0_0 : List Int) : Option ((List Bool)) := (spec_l02Count.f k l0_0).bind fun t1 => if 0 ≤ t1 then (if t1 ≤ t1 then (if t1.toNat ≤ 1099511627776 then (r0 l0_0 t1 (List.replicate t1.toNat (false : Bool)) ((List.replicate t1.toNat (false : Bool)).length : Int) 0) else none) else none) else none
def spec_l02Lasting.f (k : Nat) (l0_0 : List Int) : Option ((List Bool)) := spec_l02Lasting.g k (spec_l02Lasting.l0 k k) l0_0
def S37 (k : Nat) : Does := ⟨[sT], [(false, [.own 4 .bool])], spec_l02Lasting.f k⟩
def E37 (k : Nat) : En := ⟨tb, orcOf [(32, S32 k), (43, S43 k), (31, S31 k), (44, S44 k), (45, S45 k)], lvOf [(0, lz [1, 3, 4, 18, 19]), (2, lz [1, 3, 4, 6]), (4, lz [1, 3, 4, 6, 7]), (6, lz [1, 3, 4, 6, 7, 8, 9, 10])], k, 0, lvOf [], []⟩
def n37_0 : T37_0 St := fun x1_0 x3 x4 x18 x19 => ⟨70, lookA [(1, .box 0 0), (3, aI x3), (4, .own 1), (18, aI x18), (19, aI x19)], Go.V.look [(0, .cells [aL x1_0]), (1, .flat 4 .bool x4)]⟩
def p37_0 : List Bool := [t', t', t', f', t', f']
def n37_1 : T37_1 St := fun x1_0 x3 x4 x6 => ⟨70, lookA [(1, .box 0 0), (3, aI x3), (4, .own 1), (6, aB x6)], Go.V.look [(0, .cells [aL x1_0]), (1, .flat 4 .bool x4)]⟩
def p37_1 : List Bool := [t', t', t', t', f', t', f']
def n37_2 : T37_2 St := fun x1_0 x3 x4 x6 x7 => ⟨70, lookA [(1, .box 0 0), (3, aI x3), (4, .own 1), (6, aB x6), (7, aI x7)], Go.V.look [(0, .cells [aL x1_0]), (1, .flat 4 .bool x4)]⟩
def p37_2 : List Bool := [t', t', t', t', f', t', f', f', t', f', t', t', f']
def n37_3 : T37_3 St := fun x1_0 x3 x4 x6 x7 x8 x9 x10 => ⟨70, lookA [(1, .box 0 0), (3, aI x3), (4, .own 1), (6, aB x6), (7, aI x7), (8, .own 2), (9, aB x9), (10, aI x10)], Go.V.look [(0, .cells [aL x1_0]), (1, .flat 4 .bool x4), (2, .flat 2 (.int .i64) x8)]⟩
def p37_3 : List Bool := [t', t', t', t', f', t', f', f', t', f', t', t', f', f', t', f', f', t', t', f', t', f']
def L37 (k : Nat) (p : List Bool) (r : List (St → O37)) : Nat → St → O37 := loopF (E37 k) (S37 k) Tryd.f37 p r
theorem r37_3 (k) (R1 R2 : St → O37) (rec : St → O37) (v) : roundF (E37 k) (S37 k) Tryd.f37 p37_3 [R1, R2] rec (U8 n37_3 v) = U8 (spec_l02Lasting.s3 k (W5 R2 n37_2) (W8 rec n37_3)) v := by kernel_rfl
theorem q37_3 (k) (R1 R2 : St → O37) (n) : W8 (L37 k p37_3 [R1, R2] n) n37_3 = spec_l02Lasting.l3 k (W4 R1 n37_1) (W5 R2 n37_2) n :=
  u8 (lq (E37 k) (S37 k) (fun rec => U8 (spec_l02Lasting.s3 k (W5 R2 n37_2) (C8 rec))) (fun n => U8 (spec_l02Lasting.l3 k (W4 R1 n37_1) (W5 R2 n37_2) n)) (r37_3 k R1 R2) n)
theorem r37_2 (k) (R1 : St → O37) (rec : St → O37) (G3 : T37_3 O37) (h3 : W8 (L37 k p37_3 [R1, rec] k) n37_3 = G3) (v) : roundF (E37 k) (S37 k) Tryd.f37 p37_2 [R1] rec (U5 n37_2 v) = U5 (spec_l02Lasting.s2 k (W4 R1 n37_1) (W5 rec n37_2) G3) v := by
  subst h3
  kernel_rfl
theorem q37_2 (k) (R1 : St → O37) (n) : W5 (L37 k p37_2 [R1] n) n37_2 = spec_l02Lasting.l2 k (W4 R1 n37_1) n :=
  u5 (lq (E37 k) (S37 k) (fun rec => U5 (spec_l02Lasting.s2 k (W4 R1 n37_1) (C5 rec) (spec_l02Lasting.l3 k (W4 R1 n37_1) (C5 rec) k))) (fun n => U5 (spec_l02Lasting.l2 k (W4 R1 n37_1) n)) (fun rec v => r37_2 k R1 rec _ (q37_3 k R1 rec k) v) n)
theorem r37_1 (k) (rec : St → O37) (G2 : T37_2 O37) (h2 : W5 (L37 k p37_2 [rec] k) n37_2 = G2) (v) : roundF (E37 k) (S37 k) Tryd.f37 p37_1 [] rec (U4 n37_1 v) = U4 (spec_l02Lasting.s1 k (W4 rec n37_1) G2) v := by
  subst h2
  kernel_rfl
theorem q37_1 (k) (n) : W4 (L37 k p37_1 [] n) n37_1 = spec_l02Lasting.l1 k n :=
  u4 (lq (E37 k) (S37 k) (fun rec => U4 (spec_l02Lasting.s1 k (C4 rec) (spec_l02Lasting.l2 k (C4 rec) k))) (fun n => U4 (spec_l02Lasting.l1 k n)) (fun rec v => r37_1 k rec _ (q37_2 k rec k) v) n)
theorem r37_0 (k) (rec : St → O37) (G1 : T37_1 O37) (h1 : W4 (L37 k p37_1 [] k) n37_1 = G1) (v) : roundF (E37 k) (S37 k) Tryd.f37 p37_0 [] rec (U5 n37_0 v) = U5 (spec_l02Lasting.s0 k (W5 rec n37_0) G1) v := by
  subst h1
  kernel_rfl
theorem q37_0 (k) (n) : W5 (L37 k p37_0 [] n) n37_0 = spec_l02Lasting.l0 k n :=
  u5 (lq (E37 k) (S37 k) (fun rec => U5 (spec_l02Lasting.s0 k (C5 rec) (spec_l02Lasting.l1 k k))) (fun n => U5 (spec_l02Lasting.l0 k n)) (fun rec v => r37_0 k rec _ (q37_1 k k) v) n)
theorem M37 (k) : Meets Tryd.prog 37 (S37 k) := mo Tryd.func37 (oc (M32 k) (oc (M43 k) (oc (M31 k) (oc (M44 k) (oc (M45 k) on))))) fun x => (show funK (E37 k) (S37 k) Tryd.f37 x = spec_l02Lasting.g k (W5 (L37 k p37_0 [] k) n37_0) x by kernel_rfl).trans (by rw [q37_0]; rfl)
def spec_l02Can.f (k : Nat) (l0_0 : List Int) : Option (Bool) := (spec_l02Lasting.f k l0_0).bind fun t1 => (spec_l02Count.f k l0_0).bind fun t2 => if 0 ≤ (wrap64 (t2 - 1)) then (if (wrap64 (t2 - 1)) < (t1.length : Int) then (some (rdOf false t1 (wrap64 (t2 - 1)))) else none) else none
def S33 (k : Nat) : Does := ⟨[sT], [sB], spec_l02Can.f k⟩
def E33 (k : Nat) : En := ⟨tb, orcOf [(37, S37 k), (32, S32 k)], lvOf [], k, 0, lvOf [], []⟩
theorem M33 (k) : Meets Tryd.prog 33 (S33 k) := mo Tryd.func33 (oc (M37 k) (oc (M32 k) on)) fun x => (by kernel_rfl : funK (E33 k) (S33 k) Tryd.f33 x = (S33 k).fn x)
abbrev O24 := Option (Bool)
abbrev T24_0 (R : Type) := (List Int) → Int → (List Int) → (List Int) → Int → R
def spec_l08Alone.s0 (k : Nat) (r0 : T24_0 O24) : T24_0 O24 := fun x1 x2 x3_0 x7_0 x8 => if x8 < x1.length then (if 0 ≤ x8 then (if x8 < x1.length then (if (rd x1 x8) = x2 then (if 0 ≤ x8 then (if x8 < x3_0.length then (if x7_0.length + 1 ≤ 1099511627776 then (r0 x1 x2 x3_0 (x7_0 ++ [(rd x3_0 x8)]) (wrap64 (x8 + 1))) else none) else none) else none) else (r0 x1 x2 x3_0 x7_0 (wrap64 (x8 + 1)))) else none) else none) else ((spec_l02Can.f k x7_0).bind fun t1 => some t1)
def spec_l08Alone.l0 (k : Nat) : Nat → T24_0 O24
  | 0 => Z5
  | n + 1 => spec_l08Alone.s0 k (spec_l08Alone.l0 k n)
def spec_l08Alone.g (k : Nat) (r0 : T24_0 O24) (l0_0 : List Int) (l1 : List Int) (a2 : Int) : Option (Bool) := r0 l1 a2 l0_0 [] 0
def spec_l08Alone.f (k : Nat) (l0_0 : List Int) (l1 : List Int) (a2 : Int) : Option (Bool) := spec_l08Alone.g k (spec_l08Alone.l0 k k) l0_0 l1 a2
def S24 (k : Nat) : Does := ⟨[sT, sL, sI], [sB], U3 (spec_l08Alone.f k)⟩
def E24 (k : Nat) : En := ⟨tb, orcOf [(33, S33 k)], lvOf [(0, lz [1, 2, 3, 7, 8])], k, 0, lvOf [], []⟩
def n24_0 : T24_0 St := fun x1 x2 x3_0 x7_0 x8 => ⟨35, lookA [(1, aL x1), (2, aI x2), (3, .box 0 0), (7, .box 1 0), (8, aI x8)], Go.V.look [(0, .cells [aL x3_0]), (1, .cells [.own 2]), (2, .flat 2 (.int .i64) x7_0)]⟩
def p24_0 : List Bool := [t', t', f', t', f']
def L24 (k : Nat) (p : List Bool) (r : List (St → O24)) : Nat → St → O24 := loopF (E24 k) (S24 k) Tryd.f24 p r
theorem r24_0 (k) (rec : St → O24) (v) : roundF (E24 k) (S24 k) Tryd.f24 p24_0 [] rec (U5 n24_0 v) = U5 (spec_l08Alone.s0 k (W5 rec n24_0)) v := by kernel_rfl
theorem q24_0 (k) (n) : W5 (L24 k p24_0 [] n) n24_0 = spec_l08Alone.l0 k n :=
  u5 (lq (E24 k) (S24 k) (fun rec => U5 (spec_l08Alone.s0 k (C5 rec))) (fun n => U5 (spec_l08Alone.l0 k n)) (r24_0 k) n)
theorem M24 (k) : Meets Tryd.prog 24 (S24 k) := mo Tryd.func24 (oc (M33 k) on) fun x => (show funK (E24 k) (S24 k) Tryd.f24 x = spec_l08Alone.g k (W5 (L24 k p24_0 [] k) n24_0) x.1 x.2.1 x.2.2 by kernel_rfl).trans (by rw [q24_0]; rfl)
noncomputable def Sr15 (rf : (List Int) → Int → (List Int) → Option ((List Int) × Bool)) : Does := ⟨[(true, [.dat (.list (.int .i64))]), (false, [.dat (.int .i64)]), (false, [.dat (.list (.int .i64))])], [(false, [.dat (.list (.int .i64))]), (false, [.dat .bool])], fun x => rf x.1 x.2.1 x.2.2⟩
noncomputable def spec_l08Split.s0 (k : Nat) (rf : (List Int) → Int → (List Int) → Option ((List Int) × Bool)) (r0 : Int → (List Int) → (List Int) → Int → Option ((List Int) × Bool)) (x1 : Int) (x2 : List Int) (x3_0 : List Int) (x8 : Int) : Option ((List Int) × Bool) := if x8 < x1 then ((spec_l01Own.f x2).bind fun t1 => if t1.length + 1 ≤ 1099511627776 then ((spec_l08Alone.f k x3_0 (t1 ++ [x8]) x8).bind fun t2 => if t2 = true then ((rf x3_0 x1 (t1 ++ [x8])).bind fun t3 => if t3.2 = true then (some (t3.1, true)) else (r0 x1 x2 x3_0 (wrap64 (x8 + 1)))) else (r0 x1 x2 x3_0 (wrap64 (x8 + 1)))) else (none)) else (some ([], false))
noncomputable def spec_l08Split.l0 (k : Nat) (rf : (List Int) → Int → (List Int) → Option ((List Int) × Bool)) : Nat → Int → (List Int) → (List Int) → Int → Option ((List Int) × Bool)
  | 0, _, _, _, _ => none
  | n + 1, x0, x1, x2, x3 => spec_l08Split.s0 k rf (spec_l08Split.l0 k rf n) x0 x1 x2 x3
noncomputable def spec_l08Split.g (k : Nat) (rf : (List Int) → Int → (List Int) → Option ((List Int) × Bool)) (r0 : Int → (List Int) → (List Int) → Int → Option ((List Int) × Bool)) (l0_0 : List Int) (a1 : Int) (l2 : List Int) : Option ((List Int) × Bool) := if (l2.length : Int) = (l0_0.length : Int) then (some (l2, true)) else (r0 a1 l2 l0_0 0)
noncomputable def spec_l08Split.b (k : Nat) (rf : (List Int) → Int → (List Int) → Option ((List Int) × Bool)) (l0_0 : List Int) (a1 : Int) (l2 : List Int) : Option ((List Int) × Bool) := spec_l08Split.g k rf (spec_l08Split.l0 k rf k) l0_0 a1 l2
noncomputable def Sb15 (k : Nat) (rf : (List Int) → Int → (List Int) → Option ((List Int) × Bool)) : Does := ⟨[(true, [.dat (.list (.int .i64))]), (false, [.dat (.int .i64)]), (false, [.dat (.list (.int .i64))])], [(false, [.dat (.list (.int .i64))]), (false, [.dat .bool])], fun x => spec_l08Split.b k rf x.1 x.2.1 x.2.2⟩
noncomputable def E15 (k : Nat) (rf : (List Int) → Int → (List Int) → Option ((List Int) × Bool)) : En := ⟨tb, orcOf [(23, S23 k), (24, S24 k), (15, Sr15 rf)], lvOf [(0, [(1, []), (2, []), (3, []), (8, [])])], k, 0, lvOf [], []⟩
noncomputable def n15_0 (x1 : Int) (x2 : List Int) (x3_0 : List Int) (x8 : Int) : St := ⟨43, lookA [(1, .dat (.int .i64) x1), (2, .dat (.list (.int .i64)) x2), (3, .box 0 0), (8, .dat (.int .i64) x8)], Go.V.look [(0, .cells [.dat (.list (.int .i64)) x3_0])]⟩
def p15_0 : List Bool := [true, true, false, true, false]
theorem r15_0 (k : Nat) (rf : (List Int) → Int → (List Int) → Option ((List Int) × Bool)) (rec : St → Option ((List Int) × Bool)) (v : Int × (List Int) × (List Int) × Int) : roundF (E15 k rf) (Sb15 k rf) Tryd.f15 p15_0 [] rec (n15_0 v.1 v.2.1 v.2.2.1 v.2.2.2) = spec_l08Split.s0 k rf (fun a0 a1 a2 a3 => rec (n15_0 a0 a1 a2 a3)) v.1 v.2.1 v.2.2.1 v.2.2.2 := by
  kernel_rfl
theorem q15_0 (k : Nat) (rf : (List Int) → Int → (List Int) → Option ((List Int) × Bool)) (n : Nat) : ∀ v : Int × (List Int) × (List Int) × Int, loopF (E15 k rf) (Sb15 k rf) Tryd.f15 p15_0 [] n (n15_0 v.1 v.2.1 v.2.2.1 v.2.2.2) = spec_l08Split.l0 k rf n v.1 v.2.1 v.2.2.1 v.2.2.2 :=
  loopF_eq (E15 k rf) (Sb15 k rf) Tryd.f15 p15_0 [] (fun v : Int × (List Int) × (List Int) × Int => n15_0 v.1 v.2.1 v.2.2.1 v.2.2.2) (fun rec v => spec_l08Split.s0 k rf (fun a0 a1 a2 a3 => rec (a0, a1, a2, a3)) v.1 v.2.1 v.2.2.1 v.2.2.2) (fun n v => spec_l08Split.l0 k rf n v.1 v.2.1 v.2.2.1 v.2.2.2) (fun _ => rfl) (fun _ _ => rfl) (fun rec v => r15_0 k rf rec v) n
theorem e15 (k : Nat) (rf : (List Int) → Int → (List Int) → Option ((List Int) × Bool)) (x : dens (flatC (Sb15 k rf).ps)) : funK (E15 k rf) (Sb15 k rf) Tryd.f15 x = (Sb15 k rf).fn x := by
  have h : funK (E15 k rf) (Sb15 k rf) Tryd.f15 x = spec_l08Split.g k rf (fun a0 a1 a2 a3 => loopF (E15 k rf) (Sb15 k rf) Tryd.f15 p15_0 [] k (n15_0 a0 a1 a2 a3)) x.1 x.2.1 x.2.2 := by kernel_rfl
  rw [h]
  rw [show (fun a0 a1 a2 a3 => loopF (E15 k rf) (Sb15 k rf) Tryd.f15 p15_0 [] k (n15_0 a0 a1 a2 a3)) = spec_l08Split.l0 k rf k from funext fun a0 => funext fun a1 => funext fun a2 => funext fun a3 => q15_0 k rf k (a0, a1, a2, a3)]
  rfl
noncomputable def spec_l08Split.r (k : Nat) : Nat → (List Int) → Int → (List Int) → Option ((List Int) × Bool)
  | 0, _, _, _ => none
  | n + 1, x0, x1, x2 => spec_l08Split.b k (spec_l08Split.r k n) x0 x1 x2
noncomputable def spec_l08Split.f (k : Nat) (l0_0 : List Int) (a1 : Int) (l2 : List Int) : Option ((List Int) × Bool) := spec_l08Split.r k k l0_0 a1 l2
noncomputable def S15 (k : Nat) : Does := ⟨[(true, [.dat (.list (.int .i64))]), (false, [.dat (.int .i64)]), (false, [.dat (.list (.int .i64))])], [(false, [.dat (.list (.int .i64))]), (false, [.dat .bool])], fun x => spec_l08Split.f k x.1 x.2.1 x.2.2⟩
theorem m15 (k : Nat) : ∀ n, Meets Tryd.prog 15 (Sr15 (spec_l08Split.r k n))
  | 0 => meets_none Tryd.func15 (by kernel_rfl) (by kernel_rfl) (fun _ => rfl)
  | n + 1 => show Meets Tryd.prog 15 (Sb15 k (spec_l08Split.r k n)) from meets_of Tryd.func15 (by kernel_rfl) tbOk (orc_cons (M23 k) (orc_cons (M24 k) (orc_cons (m15 k n) orc_nil))) mixOk (fun x y h => (e15 k (spec_l08Split.r k n) x).trans h) rfl
theorem M15 (k : Nat) : Meets Tryd.prog 15 (S15 k) := m15 k k
def spec_FirstSplit.f (k : Nat) (l0_0 : List Int) (a1 : Int) : Option ((List Int) × Int) := (spec_l08Code.f k l0_0 a1).bind fun t1 => if t1 = 0 then ((spec_l08Split.f k l0_0 a1 []).bind fun t2 => if t2.2 = true then (some (t2.1, 0)) else (some ([], 4))) else (some ([], t1))
def S5 (k : Nat) : Does := ⟨[sT, sI], [sL, sI], U2 (spec_FirstSplit.f k)⟩
def E5 (k : Nat) : En := ⟨tb, orcOf [(14, S14 k), (15, S15 k)], lvOf [], k, 0, lvOf [], []⟩
theorem M5 (k) : Meets Tryd.prog 5 (S5 k) := mo Tryd.func5 (oc (M14 k) (oc (M15 k) on)) fun x => (by kernel_rfl : funK (E5 k) (S5 k) Tryd.f5 x = (S5 k).fn x)
def impl_length_int64.f (l0 : List Int) : Option (Int) := some (l0.length : Int)
def S28 (k : Nat) : Does := ⟨[sL], [sI], impl_length_int64.f⟩
def E28 (k : Nat) : En := ⟨tb, orcOf [], lvOf [], k, 0, lvOf [], []⟩
theorem M28 (k) : Meets Tryd.prog 28 (S28 k) := mo Tryd.func28 on fun x => (by kernel_rfl : funK (E28 k) (S28 k) Tryd.f28 x = (S28 k).fn x)
def impl_within.f (a0 : Int) (a1 : Int) (a2 : Int) : Option (Bool) := if a1 ≤ a0 then (some (decide (a0 ≤ a2))) else (some false)
def S27 (k : Nat) : Does := ⟨[sI, sI, sI], [sB], U3 impl_within.f⟩
def E27 (k : Nat) : En := ⟨tb, orcOf [], lvOf [], k, 0, lvOf [], []⟩
theorem M27 (k) : Meets Tryd.prog 27 (S27 k) := mo Tryd.func27 on fun x => (by kernel_rfl : funK (E27 k) (S27 k) Tryd.f27 x = (S27 k).fn x)
def impl_IsTasks_1.f (a0 : Int) : Option (Bool) := (impl_within.f a0 1 40).bind fun t1 => some t1
def S39 (k : Nat) : Does := ⟨[sI], [sB], impl_IsTasks_1.f⟩
def E39 (k : Nat) : En := ⟨tb, orcOf [(27, S27 k)], lvOf [], k, 0, lvOf [], []⟩
theorem M39 (k) : Meets Tryd.prog 39 (S39 k) := mo Tryd.func39 (oc (M27 k) on) fun x => (by kernel_rfl : funK (E39 k) (S39 k) Tryd.f39 x = (S39 k).fn x)
def impl_areAll_int64_1_impl_IsTasks_1.f (a0 : Int) (a1 : Unit) : Option (Bool) := (impl_IsTasks_1.f a0).bind fun t1 => some (!decide (t1 = true))
def S47_c39 (k : Nat) : Does := ⟨[sI, (false, [.dat (.ptr (.clo 39 .unit))])], [sB], U2 impl_areAll_int64_1_impl_IsTasks_1.f⟩
def E47_c39 (k : Nat) : En := ⟨tb, orcOf [(39, S39 k)], lvOf [], k, 0, lvOf [], []⟩
theorem M47_c39 (k) : Meets Tryd.prog 47 (S47_c39 k) := mo Tryd.func47 (oc (M39 k) on) fun x => (by kernel_rfl : funK (E47_c39 k) (S47_c39 k) Tryd.f47 x = (S47_c39 k).fn x)
abbrev O55_c47c39 := Option (Int)
abbrev T55_c47c39_0 (R : Type) := (List Int) → Unit → Int → Int → R
def slices_IndexFunc_int64_int64_impl_areAll_int64_1_impl_IsTasks_1.s0 (k : Nat) (r0 : T55_c47c39_0 O55_c47c39) : T55_c47c39_0 O55_c47c39 := fun x0 x1 x7 x8 => if x8 < x7 then (if 0 ≤ x8 then (if x8 < x0.length then ((impl_areAll_int64_1_impl_IsTasks_1.f (rd x0 x8) x1).bind fun t1 => if t1 = true then (some x8) else (r0 x0 x1 x7 (wrap64 (x8 + 1)))) else none) else none) else (some (-1))
def slices_IndexFunc_int64_int64_impl_areAll_int64_1_impl_IsTasks_1.l0 (k : Nat) : Nat → T55_c47c39_0 O55_c47c39
  | 0 => Z4
  | n + 1 => slices_IndexFunc_int64_int64_impl_areAll_int64_1_impl_IsTasks_1.s0 k (slices_IndexFunc_int64_int64_impl_areAll_int64_1_impl_IsTasks_1.l0 k n)
def slices_IndexFunc_int64_int64_impl_areAll_int64_1_impl_IsTasks_1.g (k : Nat) (r0 : T55_c47c39_0 O55_c47c39) (l0 : List Int) (a1 : Unit) : Option (Int) := r0 l0 a1 (l0.length : Int) 0
def slices_IndexFunc_int64_int64_impl_areAll_int64_1_impl_IsTasks_1.f (k : Nat) (l0 : List Int) (a1 : Unit) : Option (Int) := slices_IndexFunc_int64_int64_impl_areAll_int64_1_impl_IsTasks_1.g k (slices_IndexFunc_int64_int64_impl_areAll_int64_1_impl_IsTasks_1.l0 k k) l0 a1
def S55_c47c39 (k : Nat) : Does := ⟨[sL, (false, [.dat (.clo 47 (.ptr (.clo 39 .unit)))])], [sI], U2 (slices_IndexFunc_int64_int64_impl_areAll_int64_1_impl_IsTasks_1.f k)⟩
def E55_c47c39 (k : Nat) : En := ⟨tb, orcOf [(47, S47_c39 k)], lvOf [(0, lz [0, 1, 7, 8])], k, 0, lvOf [], []⟩
def n55_c47c39_0 : T55_c47c39_0 St := fun x0 x1 x7 x8 => ⟨19, lookA [(0, aL x0), (1, .dat (.clo 47 (.ptr (.clo 39 .unit))) x1), (7, aI x7), (8, aI x8)], Go.V.look []⟩
def p55_c47c39_0 : List Bool := [t', f', t', f']
def L55_c47c39 (k : Nat) (p : List Bool) (r : List (St → O55_c47c39)) : Nat → St → O55_c47c39 := loopF (E55_c47c39 k) (S55_c47c39 k) Tryd.f55 p r
theorem r55_c47c39_0 (k) (rec : St → O55_c47c39) (v) : roundF (E55_c47c39 k) (S55_c47c39 k) Tryd.f55 p55_c47c39_0 [] rec (U4 n55_c47c39_0 v) = U4 (slices_IndexFunc_int64_int64_impl_areAll_int64_1_impl_IsTasks_1.s0 k (W4 rec n55_c47c39_0)) v := by kernel_rfl
theorem q55_c47c39_0 (k) (n) : W4 (L55_c47c39 k p55_c47c39_0 [] n) n55_c47c39_0 = slices_IndexFunc_int64_int64_impl_areAll_int64_1_impl_IsTasks_1.l0 k n :=
  u4 (lq (E55_c47c39 k) (S55_c47c39 k) (fun rec => U4 (slices_IndexFunc_int64_int64_impl_areAll_int64_1_impl_IsTasks_1.s0 k (C4 rec))) (fun n => U4 (slices_IndexFunc_int64_int64_impl_areAll_int64_1_impl_IsTasks_1.l0 k n)) (r55_c47c39_0 k) n)
theorem M55_c47c39 (k) : Meets Tryd.prog 55 (S55_c47c39 k) := mo Tryd.func55 (oc (M47_c39 k) on) fun x => (show funK (E55_c47c39 k) (S55_c47c39 k) Tryd.f55 x = slices_IndexFunc_int64_int64_impl_areAll_int64_1_impl_IsTasks_1.g k (W4 (L55_c47c39 k p55_c47c39_0 [] k) n55_c47c39_0) x.1 x.2 by kernel_rfl).trans (by rw [q55_c47c39_0]; rfl)
def slices_ContainsFunc_int64_int64_impl_areAll_int64_1_impl_IsTasks_1.f (k : Nat) (l0 : List Int) (a1 : Unit) : Option (Bool) := (slices_IndexFunc_int64_int64_impl_areAll_int64_1_impl_IsTasks_1.f k l0 a1).bind fun t1 => some (decide (0 ≤ t1))
def S46_c47c39 (k : Nat) : Does := ⟨[sL, (false, [.dat (.clo 47 (.ptr (.clo 39 .unit)))])], [sB], U2 (slices_ContainsFunc_int64_int64_impl_areAll_int64_1_impl_IsTasks_1.f k)⟩
def E46_c47c39 (k : Nat) : En := ⟨tb, orcOf [(55, S55_c47c39 k)], lvOf [], k, 0, lvOf [], []⟩
theorem M46_c47c39 (k) : Meets Tryd.prog 46 (S46_c47c39 k) := mo Tryd.func46 (oc (M55_c47c39 k) on) fun x => (by kernel_rfl : funK (E46_c47c39 k) (S46_c47c39 k) Tryd.f46 x = (S46_c47c39 k).fn x)
def impl_areAll_int64_impl_IsTasks_1.f (k : Nat) (l0 : List Int) (a1 : Unit) : Option (Bool) := (slices_ContainsFunc_int64_int64_impl_areAll_int64_1_impl_IsTasks_1.f k l0 a1).bind fun t1 => some (!decide (t1 = true))
def S38_c39 (k : Nat) : Does := ⟨[sL, (false, [.dat (.clo 39 .unit)])], [sB], U2 (impl_areAll_int64_impl_IsTasks_1.f k)⟩
def E38_c39 (k : Nat) : En := ⟨tb, orcOf [(46, S46_c47c39 k)], lvOf [], k, 0, lvOf [], []⟩
theorem M38_c39 (k) : Meets Tryd.prog 38 (S38_c39 k) := mo Tryd.func38 (oc (M46_c47c39 k) on) fun x => (by kernel_rfl : funK (E38_c39 k) (S38_c39 k) Tryd.f38 x = (S38_c39 k).fn x)
def impl_IsTasks.f (k : Nat) (l0_0 : List Int) : Option (Bool) := (impl_length_int64.f l0_0).bind fun t1 => (impl_within.f t1 1 8).bind fun t2 => if t2 = true then ((impl_areAll_int64_impl_IsTasks_1.f k l0_0 ()).bind fun t3 => some t3) else (some false)
def S34 (k : Nat) : Does := ⟨[sT], [sB], impl_IsTasks.f k⟩
def E34 (k : Nat) : En := ⟨tb, orcOf [(28, S28 k), (27, S27 k), (38, S38_c39 k)], lvOf [], k, 0, lvOf [], []⟩
theorem M34 (k) : Meets Tryd.prog 34 (S34 k) := mo Tryd.func34 (oc (M28 k) (oc (M27 k) (oc (M38_c39 k) on))) fun x => (by kernel_rfl : funK (E34 k) (S34 k) Tryd.f34 x = (S34 k).fn x)
def impl_tasksCode.f (k : Nat) (l0_0 : List Int) (a1 : Bool) : Option (Int) := (impl_IsTasks.f k l0_0).bind fun t1 => if (!decide (t1 = true)) = true then (some 1) else (if (!decide (a1 = true)) = true then (some 2) else (some 0))
def S25 (k : Nat) : Does := ⟨[sT, sB], [sI], U2 (impl_tasksCode.f k)⟩
def E25 (k : Nat) : En := ⟨tb, orcOf [(34, S34 k)], lvOf [], k, 0, lvOf [], []⟩
theorem M25 (k) : Meets Tryd.prog 25 (S25 k) := mo Tryd.func25 (oc (M34 k) on) fun x => (by kernel_rfl : funK (E25 k) (S25 k) Tryd.f25 x = (S25 k).fn x)
abbrev O26 := Option (Int)
abbrev T26_0 (R : Type) := Int → (List Int) → Int → Int → R
def impl_Tasks_states.s0 (k : Nat) (r0 : T26_0 O26) : T26_0 O26 := fun x3 x7 x8 x9 => if x9 < x8 then (if 0 ≤ x9 then (if x9 < x7.length then (r0 (wrap64 (x3 * (rd x7 x9))) x7 x8 (wrap64 (x9 + 1))) else none) else none) else (some x3)
def impl_Tasks_states.l0 (k : Nat) : Nat → T26_0 O26
  | 0 => Z4
  | n + 1 => impl_Tasks_states.s0 k (impl_Tasks_states.l0 k n)
def impl_Tasks_states.g (k : Nat) (r0 : T26_0 O26) (l0_0 : List Int) : Option (Int) := r0 1 l0_0 (l0_0.length : Int) 0
def impl_Tasks_states.f (k : Nat) (l0_0 : List Int) : Option (Int) := impl_Tasks_states.g k (impl_Tasks_states.l0 k k) l0_0
def S26 (k : Nat) : Does := ⟨[sT], [sI], impl_Tasks_states.f k⟩
def E26 (k : Nat) : En := ⟨tb, orcOf [], lvOf [(0, lz [3, 7, 8, 9])], k, 0, lvOf [], []⟩
def n26_0 : T26_0 St := fun x3 x7 x8 x9 => ⟨18, lookA [(3, aI x3), (7, aL x7), (8, aI x8), (9, aI x9)], Go.V.look []⟩
def p26_0 : List Bool := [t', t', f', t', f']
def L26 (k : Nat) (p : List Bool) (r : List (St → O26)) : Nat → St → O26 := loopF (E26 k) (S26 k) Tryd.f26 p r
theorem r26_0 (k) (rec : St → O26) (v) : roundF (E26 k) (S26 k) Tryd.f26 p26_0 [] rec (U4 n26_0 v) = U4 (impl_Tasks_states.s0 k (W4 rec n26_0)) v := by kernel_rfl
theorem q26_0 (k) (n) : W4 (L26 k p26_0 [] n) n26_0 = impl_Tasks_states.l0 k n :=
  u4 (lq (E26 k) (S26 k) (fun rec => U4 (impl_Tasks_states.s0 k (C4 rec))) (fun n => U4 (impl_Tasks_states.l0 k n)) (r26_0 k) n)
theorem M26 (k) : Meets Tryd.prog 26 (S26 k) := mo Tryd.func26 on fun x => (show funK (E26 k) (S26 k) Tryd.f26 x = impl_Tasks_states.g k (W4 (L26 k p26_0 [] k) n26_0) x by kernel_rfl).trans (by rw [q26_0]; rfl)
def impl_statesCode.f (k : Nat) (l0_0 : List Int) (a1 : Bool) : Option (Int) := (impl_tasksCode.f k l0_0 a1).bind fun t1 => if t1 = 0 then ((impl_Tasks_states.f k l0_0).bind fun t2 => if 4000 < t2 then (some 3) else (some 0)) else (some t1)
def S17 (k : Nat) : Does := ⟨[sT, sB], [sI], U2 (impl_statesCode.f k)⟩
def E17 (k : Nat) : En := ⟨tb, orcOf [(25, S25 k), (26, S26 k)], lvOf [], k, 0, lvOf [], []⟩
theorem M17 (k) : Meets Tryd.prog 17 (S17 k) := mo Tryd.func17 (oc (M25 k) (oc (M26 k) on)) fun x => (by kernel_rfl : funK (E17 k) (S17 k) Tryd.f17 x = (S17 k).fn x)
def impl_isChannels.f (a0 : Int) : Option (Bool) := (impl_within.f a0 1 4).bind fun t1 => some t1
def S18 (k : Nat) : Does := ⟨[sI], [sB], impl_isChannels.f⟩
def E18 (k : Nat) : En := ⟨tb, orcOf [(27, S27 k)], lvOf [], k, 0, lvOf [], []⟩
theorem M18 (k) : Meets Tryd.prog 18 (S18 k) := mo Tryd.func18 (oc (M27 k) on) fun x => (by kernel_rfl : funK (E18 k) (S18 k) Tryd.f18 x = (S18 k).fn x)
def impl_Tasks_many.f (l0_0 : List Int) : Option (Int) := (impl_length_int64.f l0_0).bind fun t1 => some t1
def S29 (k : Nat) : Does := ⟨[sT], [sI], impl_Tasks_many.f⟩
def E29 (k : Nat) : En := ⟨tb, orcOf [(28, S28 k)], lvOf [], k, 0, lvOf [], []⟩
theorem M29 (k) : Meets Tryd.prog 29 (S29 k) := mo Tryd.func29 (oc (M28 k) on) fun x => (by kernel_rfl : funK (E29 k) (S29 k) Tryd.f29 x = (S29 k).fn x)
def numS (n : Int) : ByteArray := ⟨(Lib.decDigits n.toNat).toArray⟩
def joinS (xs : List ByteArray) (sep : ByteArray) : ByteArray := ⟨(Lib.join (xs.map (·.data.toList)) sep.data.toList).toArray⟩
def strconv_FormatInt.f (a b : Int) : Option ByteArray := if 0 ≤ a ∧ a < 100 ∧ b = 10 then some (numS a) else none
def S48 (k : Nat) : Does := ⟨[sI, sI], [(false, [.dat .str])], U2 strconv_FormatInt.f⟩
theorem M48 (k) : Meets Tryd.prog 48 (S48 k) := by
  refine ⟨fun args w => by
    have hf := Tryd.func48
    have h1 : (Tryd.f48.name == "runtime.NumGoroutine") = false := by kernel_rfl
    have h1 : Tryd.f48.name ≠ "runtime.NumGoroutine" := by simpa using h1
    obtain ⟨c, hc⟩ := Option.isSome_iff_exists.1 (show Tryd.f48.body.isSome = true by kernel_rfl)
    simp [callFunc, hf, h1, hc, mark], ?_⟩
  intro w X args cells x y hc hX hp hn hy
  obtain ⟨v1, vs1, cs1, -, rfl, -, rfl, v2, vs2, cs2, -, rfl, -, rfl, rfl, rfl⟩ := hc
  obtain ⟨u1, us, e1, h1, u2, e2, h2⟩ := hp
  obtain ⟨rfl, rfl⟩ := List.cons.inj e1
  obtain ⟨rfl, -⟩ := List.cons.inj e2
  obtain ⟨a, b⟩ := x
  have key : ∀ (a b : Int) (z : ByteArray), strconv_FormatInt.f a b = some z → 0 ≤ a ∧ a < 100 ∧ b = 10 ∧ z = numS a := by
    intro a b z h
    unfold strconv_FormatInt.f at h
    split at h
    · rename_i hc; exact ⟨hc.1, hc.2.1, hc.2.2, (Option.some.inj h).symm⟩
    · cases h
  obtain ⟨h0, h100, hb, rfl⟩ := key a b y hy
  have hb : b = (10 : Int) := hb
  subst hb
  have h1 : [v1] = [Value.int .i64 a] := h1
  have h2 : [v2] = [Value.int .i64 10] := h2
  cases h1; cases h2
  obtain ⟨i, hi⟩ := Int.eq_ofNat_of_zero_le h0
  have hi : (a : Int) = (i : Int) := hi
  rw [hi] at h100 ⊢
  refine (Tryd.strconv_FormatInt_10_small i (by omega) w).mono ?_
  rintro e w' ⟨rfl, rfl⟩
  exact ⟨_, [.string (numS i)], [.string (numS i)], rfl, rfl, ⟨_, _, _, rfl, rfl, rfl, rfl, rfl, rfl⟩, Frame0.refl _ _, ⟨_, rfl, rfl⟩, List.nodup_nil, fun r hr => by cases hr⟩
def impl_decimal.f (a0 : Int) : Option (ByteArray) := (strconv_FormatInt.f a0 10).bind fun t1 => some t1
def S40 (k : Nat) : Does := ⟨[sI], [(false, [.dat .str])], impl_decimal.f⟩
def E40 (k : Nat) : En := ⟨tb, orcOf [(48, S48 k)], lvOf [], k, 0, lvOf [], []⟩
theorem M40 (k) : Meets Tryd.prog 40 (S40 k) := mo Tryd.func40 (oc (M48 k) on) fun x => (by kernel_rfl : funK (E40 k) (S40 k) Tryd.f40 x = (S40 k).fn x)
def strings_Join.f (xs : List ByteArray) (sep : ByteArray) : Option (ByteArray × List ByteArray) := if xs ≠ [] ∧ xs.length ≤ 1000 ∧ (Lib.join (xs.map (·.data.toList)) sep.data.toList).length ≤ 1000000 then some (joinS xs sep, xs) else none
def S41 (k : Nat) : Does := ⟨[(false, [.own 9 .str]), (false, [.dat .str])], [(false, [.dat .str])], U2 strings_Join.f⟩
theorem str_elems {w : World} {N : Nat → Prop} : ∀ {l : List ByteArray} {xs : List Value}, Elems w N .str l xs ↔ xs = l.map Value.string
  | [], xs => Iff.rfl
  | x :: l, xs => by
    constructor
    · rintro ⟨c, d, e, h, k⟩
      have h : c = [Value.string x] := h
      rw [e, h, str_elems.1 k]; rfl
    · intro h
      exact ⟨[Value.string x], l.map Value.string, h, rfl, str_elems.2 rfl⟩
theorem join_cells {w : World} {g e : Nat} {cur : Array Value} {m : Nat × Nat} (xs : List ByteArray) (hg : w.heap[g]? = some (.cells cur e m)) (htk : List.take (xs.length * 1) cur.toList = xs.map Value.string) : ∀ (j : Nat) x, xs[j]? = some x → w.cell? ⟨g, 0 + j, none⟩ = some (.string x) := by
  intro j x hx
  have h3 : (List.take (xs.length * 1) cur.toList)[j]? = some (.string x) := by rw [htk, List.getElem?_map, hx]; rfl
  rw [List.getElem?_take] at h3
  split at h3
  · rw [Nat.zero_add]
    simp only [World.cell?, hg]
    rw [← Array.getElem?_toList]; exact h3
  · cases h3
theorem M41 (k) : Meets Tryd.prog 41 (S41 k) := by
  refine ⟨fun args w => by
    have hf := Tryd.func41
    have h1 : (Tryd.f41.name == "runtime.NumGoroutine") = false := by kernel_rfl
    have h1 : Tryd.f41.name ≠ "runtime.NumGoroutine" := by simpa using h1
    obtain ⟨c, hc⟩ := Option.isSome_iff_exists.1 (show Tryd.f41.body.isSome = true by kernel_rfl)
    simp [callFunc, hf, h1, hc, mark], ?_⟩
  intro w X args cells x y hc hX hp hn hy
  obtain ⟨v1, vs1, cs1, -, rfl, hv1, rfl, v2, vs2, cs2, -, rfl, -, rfl, rfl, rfl⟩ := hc
  obtain ⟨u1, us, e1, ⟨zs, ho, hE⟩, u2, e2, h2⟩ := hp
  obtain ⟨rfl, rfl⟩ := List.cons.inj e1
  obtain ⟨rfl, -⟩ := List.cons.inj e2
  obtain ⟨xs, sep⟩ := x
  have key : ∀ (xs : List ByteArray) (sep : ByteArray) (z : ByteArray × List ByteArray), strings_Join.f xs sep = some z → xs ≠ [] ∧ xs.length ≤ 1000 ∧ (Lib.join (xs.map (·.data.toList)) sep.data.toList).length ≤ 1000000 ∧ z = (joinS xs sep, xs) := by
    intro a b z h
    unfold strings_Join.f at h
    split at h
    · rename_i hc; exact ⟨hc.1, hc.2.1, hc.2.2, (Option.some.inj h).symm⟩
    · cases h
  obtain ⟨h0, hl, hj, rfl⟩ := key xs sep y hy
  have h2 : [v2] = [Value.string sep] := h2
  cases h2
  have hE := str_elems.1 hE
  subst hE
  have ho : w.ownsRow 0 9 1 v1 xs.length (xs.map Value.string) := ho
  obtain ⟨hlen, ho⟩ := ho
  rcases ho with ⟨_, hz⟩ | ⟨g, cap, cur, rfl, _, hg, hcap, hmax, hsz, htk⟩
  · exact absurd (List.eq_nil_of_length_eq_zero hz) h0
  have hgl : g < w.heap.size := by
    rcases Nat.lt_or_ge g w.heap.size with c | c
    · exact c
    · rw [Array.getElem?_eq_none c] at hg; cases hg
  have hcells := join_cells xs hg htk
  refine (Tryd.strings_Join g 0 cap xs sep w hcells hgl (by omega) hcap (by omega)).mono ?_
  rintro e w' ⟨rfl, hB⟩
  refine ⟨_, [.string (joinS xs sep)], [.string (joinS xs sep)], rfl, rfl, ⟨_, _, _, rfl, rfl, rfl, rfl, rfl, rfl⟩, ⟨hB.os, hB.tape, hB.output, hB.size, fun r hr _ => hB.block r hr⟩, ?_, List.nodup_nil, fun r hr => by cases hr⟩
  refine ⟨_, _, rfl, rfl, _, rfl, xs.map Value.string, ⟨hlen, .inr ⟨g, cap, cur, rfl, Nat.zero_le _, (hB.block g hgl).trans hg, hcap, hmax, hsz, htk⟩⟩, str_elems.2 rfl⟩
abbrev O35 := Option (ByteArray)
abbrev T35_0 (R : Type) := ByteArray → (List ByteArray) → (List Int) → Int → Int → R
def impl_joined.s0 (k : Nat) (r0 : T35_0 O35) : T35_0 O35 := fun x1 x5 x8 x9 x10 => if x10 < x9 then (if 0 ≤ x10 then (if x10 < x8.length then ((impl_decimal.f (rd x8 x10)).bind fun t1 => if x5.length + 1 ≤ 1099511627776 then (r0 x1 (x5 ++ [t1]) x8 x9 (wrap64 (x10 + 1))) else none) else none) else none) else ((strings_Join.f x5 x1).bind fun t2 => some t2.1)
def impl_joined.l0 (k : Nat) : Nat → T35_0 O35
  | 0 => Z5
  | n + 1 => impl_joined.s0 k (impl_joined.l0 k n)
def impl_joined.g (k : Nat) (r0 : T35_0 O35) (l0 : List Int) (a1 : ByteArray) : Option (ByteArray) := r0 a1 [] l0 (l0.length : Int) 0
def impl_joined.f (k : Nat) (l0 : List Int) (a1 : ByteArray) : Option (ByteArray) := impl_joined.g k (impl_joined.l0 k k) l0 a1
def S35 (k : Nat) : Does := ⟨[sL, (false, [.dat .str])], [(false, [.dat .str])], U2 (impl_joined.f k)⟩
def E35 (k : Nat) : En := ⟨tb, orcOf [(40, S40 k), (41, S41 k)], lvOf [(0, [(1, []), (5, [.nil 9 .str]), (8, []), (9, []), (10, [])])], k, 0, lvOf [], []⟩
def n35_0 : T35_0 St := fun x1 x5 x8 x9 x10 => ⟨23, lookA [(1, .dat .str x1), (5, .own 0), (8, aL x8), (9, aI x9), (10, aI x10)], Go.V.look [(0, .flat 9 .str x5)]⟩
def p35_0 : List Bool := [t', t', f', t', f']
def L35 (k : Nat) (p : List Bool) (r : List (St → O35)) : Nat → St → O35 := loopF (E35 k) (S35 k) Tryd.f35 p r
theorem r35_0 (k) (rec : St → O35) (v) : roundF (E35 k) (S35 k) Tryd.f35 p35_0 [] rec (U5 n35_0 v) = U5 (impl_joined.s0 k (W5 rec n35_0)) v := by kernel_rfl
theorem q35_0 (k) (n) : W5 (L35 k p35_0 [] n) n35_0 = impl_joined.l0 k n :=
  u5 (lq (E35 k) (S35 k) (fun rec => U5 (impl_joined.s0 k (C5 rec))) (fun n => U5 (impl_joined.l0 k n)) (r35_0 k) n)
theorem M35 (k) : Meets Tryd.prog 35 (S35 k) := mo Tryd.func35 (oc (M40 k) (oc (M41 k) on)) fun x => (show funK (E35 k) (S35 k) Tryd.f35 x = impl_joined.g k (W5 (L35 k p35_0 [] k) n35_0) x.1 x.2 by kernel_rfl).trans (by rw [q35_0]; rfl)
abbrev O52 := Option (Bool)
abbrev T52_0 (R : Type) := (List Int) → (List Int) → Int → Int → R
def impl_Tasks_isState.s0 (k : Nat) (r0 : T52_0 O52) : T52_0 O52 := fun x2_0 x12 x13 x14 => if x14 < x13 then (if 0 ≤ x14 then (if x14 < x12.length then (if 0 ≤ x14 then (if x14 < x2_0.length then ((impl_within.f (rd x12 x14) 1 (rd x2_0 x14)).bind fun t3 => if t3 = true then (r0 x2_0 x12 x13 (wrap64 (x14 + 1))) else (some false)) else none) else none) else none) else none) else (some true)
def impl_Tasks_isState.l0 (k : Nat) : Nat → T52_0 O52
  | 0 => Z4
  | n + 1 => impl_Tasks_isState.s0 k (impl_Tasks_isState.l0 k n)
def impl_Tasks_isState.g (k : Nat) (r0 : T52_0 O52) (l0_0 : List Int) (l1 : List Int) : Option (Bool) := (impl_length_int64.f l1).bind fun t1 => (impl_Tasks_many.f l0_0).bind fun t2 => if t1 = t2 then (r0 l0_0 l1 (l1.length : Int) 0) else (some false)
def impl_Tasks_isState.f (k : Nat) (l0_0 : List Int) (l1 : List Int) : Option (Bool) := impl_Tasks_isState.g k (impl_Tasks_isState.l0 k k) l0_0 l1
def S52 (k : Nat) : Does := ⟨[sT, sL], [sB], U2 (impl_Tasks_isState.f k)⟩
def E52 (k : Nat) : En := ⟨tb, orcOf [(28, S28 k), (29, S29 k), (27, S27 k)], lvOf [(0, lz [2, 12, 13, 14])], k, 0, lvOf [], []⟩
def n52_0 : T52_0 St := fun x2_0 x12 x13 x14 => ⟨28, lookA [(2, .box 0 0), (12, aL x12), (13, aI x13), (14, aI x14)], Go.V.look [(0, .cells [aL x2_0])]⟩
def p52_0 : List Bool := [t', t', f', t', f']
def L52 (k : Nat) (p : List Bool) (r : List (St → O52)) : Nat → St → O52 := loopF (E52 k) (S52 k) Tryd.f52 p r
theorem r52_0 (k) (rec : St → O52) (v) : roundF (E52 k) (S52 k) Tryd.f52 p52_0 [] rec (U4 n52_0 v) = U4 (impl_Tasks_isState.s0 k (W4 rec n52_0)) v := by kernel_rfl
theorem q52_0 (k) (n) : W4 (L52 k p52_0 [] n) n52_0 = impl_Tasks_isState.l0 k n :=
  u4 (lq (E52 k) (S52 k) (fun rec => U4 (impl_Tasks_isState.s0 k (C4 rec))) (fun n => U4 (impl_Tasks_isState.l0 k n)) (r52_0 k) n)
theorem M52 (k) : Meets Tryd.prog 52 (S52 k) := mo Tryd.func52 (oc (M28 k) (oc (M29 k) (oc (M27 k) on))) fun x => (show funK (E52 k) (S52 k) Tryd.f52 x = impl_Tasks_isState.g k (W4 (L52 k p52_0 [] k) n52_0) x.1 x.2 by kernel_rfl).trans (by rw [q52_0]; rfl)
abbrev O60 := Option (List Int)
abbrev T60_0 (R : Type) := Int → (List Int) → (List Int) → Int → R
def impl_Tasks_numbered.s0 (k : Nat) (r0 : T60_0 O60) : T60_0 O60 := fun x1 x2_0 x5 x6 => if 0 ≤ x6 then (if 0 ≤ x6 then (if x6 < x2_0.length then (if (rd x2_0 x6) = 0 then none else (if 0 ≤ x6 then (if x6 < x5.length then (if 0 ≤ x6 then (if x6 < x2_0.length then (if (rd x2_0 x6) = 0 then none else (r0 (wrap64 (Int.tdiv x1 (rd x2_0 x6))) x2_0 (x5.set x6.toNat (wrap64 ((Int.tmod x1 (rd x2_0 x6)) + 1))) (wrap64 (x6 - 1)))) else none) else none) else none) else none)) else none) else none) else (some x5)
def impl_Tasks_numbered.l0 (k : Nat) : Nat → T60_0 O60
  | 0 => Z4
  | n + 1 => impl_Tasks_numbered.s0 k (impl_Tasks_numbered.l0 k n)
def impl_Tasks_numbered.g (k : Nat) (r0 : T60_0 O60) (l0_0 : List Int) (a1 : Int) : Option (List Int) := (impl_Tasks_many.f l0_0).bind fun t1 => if 0 ≤ t1 then (if t1 ≤ t1 then (if t1.toNat ≤ 1099511627776 then ((impl_Tasks_many.f l0_0).bind fun t2 => r0 a1 l0_0 (List.replicate t1.toNat (0 : Int)) (wrap64 (t2 - 1))) else none) else none) else none
def impl_Tasks_numbered.f (k : Nat) (l0_0 : List Int) (a1 : Int) : Option (List Int) := impl_Tasks_numbered.g k (impl_Tasks_numbered.l0 k k) l0_0 a1
def S60 (k : Nat) : Does := ⟨[sT, sI], [(false, [.own 2 (.int .i64)])], U2 (impl_Tasks_numbered.f k)⟩
def E60 (k : Nat) : En := ⟨tb, orcOf [(29, S29 k)], lvOf [(0, lz [1, 2, 5, 6])], k, 0, lvOf [], []⟩
def n60_0 : T60_0 St := fun x1 x2_0 x5 x6 => ⟨36, lookA [(1, aI x1), (2, .box 0 0), (5, .own 1), (6, aI x6)], Go.V.look [(0, .cells [aL x2_0]), (1, .flat 2 (.int .i64) x5)]⟩
def p60_0 : List Bool := [t', t', f', t', f']
def L60 (k : Nat) (p : List Bool) (r : List (St → O60)) : Nat → St → O60 := loopF (E60 k) (S60 k) Tryd.f60 p r
theorem r60_0 (k) (rec : St → O60) (v) : roundF (E60 k) (S60 k) Tryd.f60 p60_0 [] rec (U4 n60_0 v) = U4 (impl_Tasks_numbered.s0 k (W4 rec n60_0)) v := by kernel_rfl
theorem q60_0 (k) (n) : W4 (L60 k p60_0 [] n) n60_0 = impl_Tasks_numbered.l0 k n :=
  u4 (lq (E60 k) (S60 k) (fun rec => U4 (impl_Tasks_numbered.s0 k (C4 rec))) (fun n => U4 (impl_Tasks_numbered.l0 k n)) (r60_0 k) n)
theorem M60 (k) : Meets Tryd.prog 60 (S60 k) := mo Tryd.func60 (oc (M29 k) on) fun x => (show funK (E60 k) (S60 k) Tryd.f60 x = impl_Tasks_numbered.g k (W4 (L60 k p60_0 [] k) n60_0) x.1 x.2 by kernel_rfl).trans (by rw [q60_0]; rfl)
def slices_Clone_int64_int64.f (l : List Int) : Option (List Int) := if l.length = 0 then some [] else if 0 + l.length ≤ 1099511627776 then some ([] ++ l) else none
def S68 (k : Nat) : Does := ⟨[(false, [.dat (.list (.int .i64))])], [(false, [.own 2 (.int .i64)])], fun x => slices_Clone_int64_int64.f x⟩
def E68 : En := ⟨tb, orcOf [], lvOf [], 0, 0, lvOf [], []⟩
theorem slices_Clone_int64_int64.e (l : List Int) (h : l.length ≠ 0) : slices_Clone_int64_int64.f l = (if l.length = 0 then none else if 0 + l.length ≤ 1099511627776 then some ([] ++ l) else none) := by
  unfold slices_Clone_int64_int64.f; rw [if_neg h, if_neg h]
theorem M68 (k : Nat) : Meets Tryd.prog 68 (S68 k) := by
  refine meets_nil (E := E68) (t := (.int .i64)) (rs := [(false, [.own 2 (.int .i64)])]) (F := slices_Clone_int64_int64.f) Tryd.func68 (by kernel_rfl) tbOk orc_nil mixOk rfl rfl rfl (fun l hl => ?_) (by kernel_rfl) (by kernel_rfl)
  refine Eq.trans ?_ (slices_Clone_int64_int64.e l hl).symm
  kernel_rfl
abbrev O59 := Option ((List Int) × Bool)
abbrev T59_0 (R : Type) := Int → (List Int) → (List Int) → Int → Int → R
def impl_Tasks_step.s0 (k : Nat) (r0 : T59_0 O59) : T59_0 O59 := fun x2 x3_0 x8 x13 x14 => if x14 < x13 then (if (decide (x14 = x2)) = true then (if 0 ≤ x14 then (if x14 < x3_0.length then (if 0 ≤ x14 then (if x14 < x8.length then (r0 x2 x3_0 (x8.set x14.toNat (rd x3_0 x14)) x13 (wrap64 (x14 + 1))) else none) else none) else none) else none) else (if 0 ≤ x14 then (if x14 < x8.length then (if (decide ((rd x8 x14) < 2)) = true then (some ([], false)) else (if 0 ≤ x14 then (if x14 < x8.length then (if 0 ≤ x14 then (if x14 < x8.length then (r0 x2 x3_0 (x8.set x14.toNat (wrap64 ((rd x8 x14) - 1))) x13 (wrap64 (x14 + 1))) else none) else none) else none) else none)) else none) else none)) else (some (x8, true))
def impl_Tasks_step.l0 (k : Nat) : Nat → T59_0 O59
  | 0 => Z5
  | n + 1 => impl_Tasks_step.s0 k (impl_Tasks_step.l0 k n)
def impl_Tasks_step.g (k : Nat) (r0 : T59_0 O59) (l0_0 : List Int) (l1 : List Int) (a2 : Int) : Option ((List Int) × Bool) := (slices_Clone_int64_int64.f l1).bind fun t1 => r0 a2 l0_0 t1 (t1.length : Int) 0
def impl_Tasks_step.f (k : Nat) (l0_0 : List Int) (l1 : List Int) (a2 : Int) : Option ((List Int) × Bool) := impl_Tasks_step.g k (impl_Tasks_step.l0 k k) l0_0 l1 a2
def S59 (k : Nat) : Does := ⟨[sT, sL, sI], [(false, [.own 2 (.int .i64)]), sB], U3 (impl_Tasks_step.f k)⟩
def E59 (k : Nat) : En := ⟨tb, orcOf [(68, S68 k)], lvOf [(0, lz [2, 3, 8, 13, 14])], k, 0, lvOf [], []⟩
def n59_0 : T59_0 St := fun x2 x3_0 x8 x13 x14 => ⟨43, lookA [(2, aI x2), (3, .box 0 0), (8, .own 1), (13, aI x13), (14, aI x14)], Go.V.look [(0, .cells [aL x3_0]), (1, .flat 2 (.int .i64) x8)]⟩
def p59_0 : List Bool := [t', t', f', t', f']
def L59 (k : Nat) (p : List Bool) (r : List (St → O59)) : Nat → St → O59 := loopF (E59 k) (S59 k) Tryd.f59 p r
theorem r59_0 (k) (rec : St → O59) (v) : roundF (E59 k) (S59 k) Tryd.f59 p59_0 [] rec (U5 n59_0 v) = U5 (impl_Tasks_step.s0 k (W5 rec n59_0)) v := by kernel_rfl
theorem q59_0 (k) (n) : W5 (L59 k p59_0 [] n) n59_0 = impl_Tasks_step.l0 k n :=
  u5 (lq (E59 k) (S59 k) (fun rec => U5 (impl_Tasks_step.s0 k (C5 rec))) (fun n => U5 (impl_Tasks_step.l0 k n)) (r59_0 k) n)
theorem M59 (k) : Meets Tryd.prog 59 (S59 k) := mo Tryd.func59 (oc (M68 k) on) fun x => (show funK (E59 k) (S59 k) Tryd.f59 x = impl_Tasks_step.g k (W5 (L59 k p59_0 [] k) n59_0) x.1 x.2.1 x.2.2 by kernel_rfl).trans (by rw [q59_0]; rfl)
abbrev O54 := Option (Int)
abbrev T54_0 (R : Type) := (List Int) → Int → (List Int) → Int → Int → R
def impl_Tasks_number.s0 (k : Nat) (r0 : T54_0 O54) : T54_0 O54 := fun x2_0 x5 x8 x9 x10 => if x10 < x9 then (if 0 ≤ x10 then (if x10 < x8.length then (if 0 ≤ x10 then (if x10 < x2_0.length then (r0 x2_0 (wrap64 ((wrap64 ((wrap64 (x5 * (rd x2_0 x10))) + (rd x8 x10))) - 1)) x8 x9 (wrap64 (x10 + 1))) else none) else none) else none) else none) else (some x5)
def impl_Tasks_number.l0 (k : Nat) : Nat → T54_0 O54
  | 0 => Z5
  | n + 1 => impl_Tasks_number.s0 k (impl_Tasks_number.l0 k n)
def impl_Tasks_number.g (k : Nat) (r0 : T54_0 O54) (l0_0 : List Int) (l1 : List Int) : Option (Int) := r0 l0_0 0 l1 (l1.length : Int) 0
def impl_Tasks_number.f (k : Nat) (l0_0 : List Int) (l1 : List Int) : Option (Int) := impl_Tasks_number.g k (impl_Tasks_number.l0 k k) l0_0 l1
def S54 (k : Nat) : Does := ⟨[sT, sL], [sI], U2 (impl_Tasks_number.f k)⟩
def E54 (k : Nat) : En := ⟨tb, orcOf [], lvOf [(0, lz [2, 5, 8, 9, 10])], k, 0, lvOf [], []⟩
def n54_0 : T54_0 St := fun x2_0 x5 x8 x9 x10 => ⟨27, lookA [(2, .box 0 0), (5, aI x5), (8, aL x8), (9, aI x9), (10, aI x10)], Go.V.look [(0, .cells [aL x2_0])]⟩
def p54_0 : List Bool := [t', t', f', t', f']
def L54 (k : Nat) (p : List Bool) (r : List (St → O54)) : Nat → St → O54 := loopF (E54 k) (S54 k) Tryd.f54 p r
theorem r54_0 (k) (rec : St → O54) (v) : roundF (E54 k) (S54 k) Tryd.f54 p54_0 [] rec (U5 n54_0 v) = U5 (impl_Tasks_number.s0 k (W5 rec n54_0)) v := by kernel_rfl
theorem q54_0 (k) (n) : W5 (L54 k p54_0 [] n) n54_0 = impl_Tasks_number.l0 k n :=
  u5 (lq (E54 k) (S54 k) (fun rec => U5 (impl_Tasks_number.s0 k (C5 rec))) (fun n => U5 (impl_Tasks_number.l0 k n)) (r54_0 k) n)
theorem M54 (k) : Meets Tryd.prog 54 (S54 k) := mo Tryd.func54 on fun x => (show funK (E54 k) (S54 k) Tryd.f54 x = impl_Tasks_number.g k (W5 (L54 k p54_0 [] k) n54_0) x.1 x.2 by kernel_rfl).trans (by rw [q54_0]; rfl)
abbrev O61 := Option (List Int)
abbrev T61_0 (R : Type) := ((List Int) × (List (List (Int × Int))) × (List Bool)) → Int → (List Int) → Int → R
def impl_graph_keeping.s0 (k : Nat) (r0 : T61_0 O61) : T61_0 O61 := fun x0 x1 x5 x6 => (impl_Tasks_many.f x0.1).bind fun t1 => if x6 < t1 then (if 0 ≤ x1 then (if x1 < x0.2.1.length then (if (mgI (rdOf ([] : List (Int × Int)) x0.2.1 x1) x6).isSome = true then (if 0 ≤ ((mgI (rdOf ([] : List (Int × Int)) x0.2.1 x1) x6).getD 0) then (if ((mgI (rdOf ([] : List (Int × Int)) x0.2.1 x1) x6).getD 0) < (x0.2.2.length : Int) then (if (rdOf false x0.2.2 ((mgI (rdOf ([] : List (Int × Int)) x0.2.1 x1) x6).getD 0)) = true then (if x5.length + 1 ≤ 1099511627776 then (r0 x0 x1 (x5 ++ [x6]) (wrap64 (x6 + 1))) else none) else (r0 x0 x1 x5 (wrap64 (x6 + 1)))) else none) else none) else (r0 x0 x1 x5 (wrap64 (x6 + 1)))) else none) else none) else (some x5)
def impl_graph_keeping.l0 (k : Nat) : Nat → T61_0 O61
  | 0 => Z4
  | n + 1 => impl_graph_keeping.s0 k (impl_graph_keeping.l0 k n)
def impl_graph_keeping.g (k : Nat) (r0 : T61_0 O61) (a0 : (List Int) × (List (List (Int × Int))) × (List Bool)) (a1 : Int) : Option (List Int) := r0 a0 a1 [] (-1)
def impl_graph_keeping.f (k : Nat) (a0 : (List Int) × (List (List (Int × Int))) × (List Bool)) (a1 : Int) : Option (List Int) := impl_graph_keeping.g k (impl_graph_keeping.l0 k k) a0 a1
def S61 (k : Nat) : Does := ⟨[(false, [.dat (.ptr (.struct (.pair (.struct (.list (.int .i64))) (.pair (.list (.map (.int .i64) (.int .i64))) (.list .bool)))))]), sI], [(false, [.own 2 (.int .i64)])], U2 (impl_graph_keeping.f k)⟩
def E61 (k : Nat) : En := ⟨tb, orcOf [(29, S29 k)], lvOf [(0, [(0, []), (1, []), (5, [.nil 2 (.int .i64)]), (6, [])])], k, 0, lvOf [], []⟩
def n61_0 : T61_0 St := fun x0 x1 x5 x6 => ⟨45, lookA [(0, .dp (.struct (.pair (.struct (.list (.int .i64))) (.pair (.list (.map (.int .i64) (.int .i64))) (.list .bool)))) x0), (1, aI x1), (5, .own 0), (6, aI x6)], Go.V.look [(0, .flat 2 (.int .i64) x5)]⟩
def p61_0 : List Bool := [t', t', f', t', f']
def L61 (k : Nat) (p : List Bool) (r : List (St → O61)) : Nat → St → O61 := loopF (E61 k) (S61 k) Tryd.f61 p r
theorem r61_0 (k) (rec : St → O61) (v) : roundF (E61 k) (S61 k) Tryd.f61 p61_0 [] rec (U4 n61_0 v) = U4 (impl_graph_keeping.s0 k (W4 rec n61_0)) v := by kernel_rfl
theorem q61_0 (k) (n) : W4 (L61 k p61_0 [] n) n61_0 = impl_graph_keeping.l0 k n :=
  u4 (lq (E61 k) (S61 k) (fun rec => U4 (impl_graph_keeping.s0 k (C4 rec))) (fun n => U4 (impl_graph_keeping.l0 k n)) (r61_0 k) n)
theorem M61 (k) : Meets Tryd.prog 61 (S61 k) := mo Tryd.func61 (oc (M29 k) on) fun x => (show funK (E61 k) (S61 k) Tryd.f61 x = impl_graph_keeping.g k (W4 (L61 k p61_0 [] k) n61_0) x.1 x.2 by kernel_rfl).trans (by rw [q61_0]; rfl)
abbrev O53 := Option (((List Int) × (List (List (Int × Int))) × (List Bool)))
abbrev T53_0 (R : Type) := (List Int) → (List Int) → (List (List (Int × Int))) → (List Bool) → Int → Int → R
abbrev T53_1 (R : Type) := (List Int) → (List Int) → (List (List (Int × Int))) → (List Bool) → Int → (List (Int × Int)) → Int → Int → Int → R
abbrev T53_2 (R : Type) := (List Int) → (List (List (Int × Int))) → (List Bool) → Bool → R
abbrev T53_3 (R : Type) := (List Int) → (List (List (Int × Int))) → (List Bool) → Bool → Int → Int → R
def impl_graphOf.s3 (k : Nat) (r2 : T53_2 O53) (r3 : T53_3 O53) : T53_3 O53 := fun x3_0 x3_1 x3_2 x9 x67 x68 => if x68 < x67 then (if 0 ≤ x68 then (if x68 < x3_2.length then (if (rdOf false x3_2 x68) = true then ((impl_graph_keeping.f k (x3_0, x3_1, x3_2) x68).bind fun t6 => if (t6.length : Int) = 0 then (if 0 ≤ x68 then (if x68 < x3_2.length then (r3 x3_0 x3_1 (x3_2.set x68.toNat false) true x67 (wrap64 (x68 + 1))) else none) else none) else (r3 x3_0 x3_1 x3_2 x9 x67 (wrap64 (x68 + 1)))) else (r3 x3_0 x3_1 x3_2 x9 x67 (wrap64 (x68 + 1)))) else none) else none) else (r2 x3_0 x3_1 x3_2 x9)
def impl_graphOf.l3 (k : Nat) (r2 : T53_2 O53) : Nat → T53_3 O53
  | 0 => Z6
  | n + 1 => impl_graphOf.s3 k r2 (impl_graphOf.l3 k r2 n)
def impl_graphOf.s2 (k : Nat) (r2 : T53_2 O53) (r3 : T53_3 O53) : T53_2 O53 := fun x3_0 x3_1 x3_2 x9 => if x9 = true then (r3 x3_0 x3_1 x3_2 false (x3_2.length : Int) 0) else (some (x3_0, x3_1, x3_2))
def impl_graphOf.l2 (k : Nat) : Nat → T53_2 O53
  | 0 => Z4
  | n + 1 => impl_graphOf.s2 k (impl_graphOf.l2 k n) (impl_graphOf.l3 k (impl_graphOf.l2 k n) k)
def impl_graphOf.s1 (k : Nat) (r0 : T53_0 O53) (r1 : T53_1 O53) : T53_1 O53 := fun x1_0 x3_0 x3_1 x3_2 x4 x5 x6 x16 x17 => (impl_Tasks_many.f x1_0).bind fun t2 => if x6 < t2 then ((impl_Tasks_numbered.f k x1_0 x4).bind fun t3 => (impl_Tasks_step.f k x1_0 t3 x6).bind fun t4 => if t4.2 = true then ((impl_Tasks_number.f k x1_0 t4.1).bind fun t5 => r1 x1_0 x3_0 x3_1 x3_2 x4 (mpI x5 x6 t5) (wrap64 (x6 + 1)) x16 x17) else (r1 x1_0 x3_0 x3_1 x3_2 x4 x5 (wrap64 (x6 + 1)) x16 x17)) else (if x3_1.length + 1 ≤ 1099511627776 then (if x3_2.length + 1 ≤ 1099511627776 then (r0 x1_0 x3_0 (x3_1 ++ [x5]) (x3_2 ++ [true]) x16 (wrap64 (x17 + 1))) else none) else none)
def impl_graphOf.l1 (k : Nat) (r0 : T53_0 O53) : Nat → T53_1 O53
  | 0 => Z9
  | n + 1 => impl_graphOf.s1 k r0 (impl_graphOf.l1 k r0 n)
def impl_graphOf.s0 (k : Nat) (r0 : T53_0 O53) (r1 : T53_1 O53) (r2 : T53_2 O53) : T53_0 O53 := fun x1_0 x3_0 x3_1 x3_2 x16 x17 => if x17 < x16 then (r1 x1_0 x3_0 x3_1 x3_2 x17 [] (-1) x16 x17) else (r2 x3_0 x3_1 x3_2 true)
def impl_graphOf.l0 (k : Nat) : Nat → T53_0 O53
  | 0 => Z6
  | n + 1 => impl_graphOf.s0 k (impl_graphOf.l0 k n) (impl_graphOf.l1 k (impl_graphOf.l0 k n) k) (impl_graphOf.l2 k k)
def impl_graphOf.g (k : Nat) (r0 : T53_0 O53) (l0_0 : List Int) : Option (((List Int) × (List (List (Int × Int))) × (List Bool))) := (impl_Tasks_states.f k l0_0).bind fun t1 => r0 l0_0 l0_0 [] [] t1 0
def impl_graphOf.f (k : Nat) (l0_0 : List Int) : Option (((List Int) × (List (List (Int × Int))) × (List Bool))) := impl_graphOf.g k (impl_graphOf.l0 k k) l0_0
def S53 (k : Nat) : Does := ⟨[sT], [(false, [.dat (.ptr (.struct (.pair (.struct (.list (.int .i64))) (.pair (.list (.map (.int .i64) (.int .i64))) (.list .bool)))))])], impl_graphOf.f k⟩
def E53 (k : Nat) : En := ⟨tb, orcOf [(26, S26 k), (29, S29 k), (60, S60 k), (59, S59 k), (54, S54 k), (61, S61 k)], lvOf [(0, [(1, []), (3, [.cell 1 85 (.map (.int .i64) (.int .i64)), .cell 2 4 .bool]), (16, []), (17, [])]), (2, lz [1, 3, 4, 5, 6, 16, 17]), (4, lz [3, 9]), (6, lz [3, 9, 66, 67, 68])], k, 0, lvOf [], []⟩
def n53_0 : T53_0 St := fun x1_0 x3_0 x3_1 x3_2 x16 x17 => ⟨89, lookA [(1, .box 0 0), (3, .box 1 0), (16, aI x16), (17, aI x17)], Go.V.look [(0, .cells [aL x1_0]), (1, .cells [aL x3_0, .own 2, .own 3]), (2, .flat 85 (.map (.int .i64) (.int .i64)) x3_1), (3, .flat 4 .bool x3_2)]⟩
def p53_0 : List Bool := [t', t', f', t', f']
def n53_1 : T53_1 St := fun x1_0 x3_0 x3_1 x3_2 x4 x5 x6 x16 x17 => ⟨89, lookA [(1, .box 0 0), (3, .box 1 0), (4, aI x4), (5, .om 2), (6, aI x6), (16, aI x16), (17, aI x17)], Go.V.look [(0, .cells [aL x1_0]), (1, .cells [aL x3_0, .own 3, .own 4]), (2, .mp (.int .i64) (.int .i64) x5), (3, .flat 85 (.map (.int .i64) (.int .i64)) x3_1), (4, .flat 4 .bool x3_2)]⟩
def p53_1 : List Bool := [t', t', f', t', f', f', t', t', f', f', t', t', f', t', f']
def n53_2 : T53_2 St := fun x3_0 x3_1 x3_2 x9 => ⟨89, lookA [(3, .box 0 0), (9, aB x9)], Go.V.look [(0, .cells [aL x3_0, .own 1, .own 2]), (1, .flat 85 (.map (.int .i64) (.int .i64)) x3_1), (2, .flat 4 .bool x3_2)]⟩
def p53_2 : List Bool := [t', t', t', f', t', f']
def n53_3 : T53_3 St := fun x3_0 x3_1 x3_2 x9 x67 x68 => ⟨89, lookA [(3, .box 0 0), (9, aB x9), (66, .own 1), (67, aI x67), (68, aI x68)], Go.V.look [(0, .cells [aL x3_0, .own 2, .own 1]), (1, .flat 4 .bool x3_2), (2, .flat 85 (.map (.int .i64) (.int .i64)) x3_1)]⟩
def p53_3 : List Bool := [t', t', t', f', t', f', f', t', f', t', t', f']
def L53 (k : Nat) (p : List Bool) (r : List (St → O53)) : Nat → St → O53 := loopF (E53 k) (S53 k) Tryd.f53 p r
theorem r53_3 (k) (R2 : St → O53) (rec : St → O53) (v) : roundF (E53 k) (S53 k) Tryd.f53 p53_3 [R2] rec (U6 n53_3 v) = U6 (impl_graphOf.s3 k (W4 R2 n53_2) (W6 rec n53_3)) v := by kernel_rfl
theorem q53_3 (k) (R2 : St → O53) (n) : W6 (L53 k p53_3 [R2] n) n53_3 = impl_graphOf.l3 k (W4 R2 n53_2) n :=
  u6 (lq (E53 k) (S53 k) (fun rec => U6 (impl_graphOf.s3 k (W4 R2 n53_2) (C6 rec))) (fun n => U6 (impl_graphOf.l3 k (W4 R2 n53_2) n)) (r53_3 k R2) n)
theorem r53_2 (k) (rec : St → O53) (G3 : T53_3 O53) (h3 : W6 (L53 k p53_3 [rec] k) n53_3 = G3) (v) : roundF (E53 k) (S53 k) Tryd.f53 p53_2 [] rec (U4 n53_2 v) = U4 (impl_graphOf.s2 k (W4 rec n53_2) G3) v := by
  subst h3
  kernel_rfl
theorem q53_2 (k) (n) : W4 (L53 k p53_2 [] n) n53_2 = impl_graphOf.l2 k n :=
  u4 (lq (E53 k) (S53 k) (fun rec => U4 (impl_graphOf.s2 k (C4 rec) (impl_graphOf.l3 k (C4 rec) k))) (fun n => U4 (impl_graphOf.l2 k n)) (fun rec v => r53_2 k rec _ (q53_3 k rec k) v) n)
theorem r53_1 (k) (R0 : St → O53) (rec : St → O53) (v) : roundF (E53 k) (S53 k) Tryd.f53 p53_1 [R0] rec (U9 n53_1 v) = U9 (impl_graphOf.s1 k (W6 R0 n53_0) (W9 rec n53_1)) v := by kernel_rfl
theorem q53_1 (k) (R0 : St → O53) (n) : W9 (L53 k p53_1 [R0] n) n53_1 = impl_graphOf.l1 k (W6 R0 n53_0) n :=
  u9 (lq (E53 k) (S53 k) (fun rec => U9 (impl_graphOf.s1 k (W6 R0 n53_0) (C9 rec))) (fun n => U9 (impl_graphOf.l1 k (W6 R0 n53_0) n)) (r53_1 k R0) n)
theorem r53_0 (k) (rec : St → O53) (G1 : T53_1 O53) (h1 : W9 (L53 k p53_1 [rec] k) n53_1 = G1) (G2 : T53_2 O53) (h2 : W4 (L53 k p53_2 [] k) n53_2 = G2) (v) : roundF (E53 k) (S53 k) Tryd.f53 p53_0 [] rec (U6 n53_0 v) = U6 (impl_graphOf.s0 k (W6 rec n53_0) G1 G2) v := by
  subst h1
  subst h2
  kernel_rfl
theorem q53_0 (k) (n) : W6 (L53 k p53_0 [] n) n53_0 = impl_graphOf.l0 k n :=
  u6 (lq (E53 k) (S53 k) (fun rec => U6 (impl_graphOf.s0 k (C6 rec) (impl_graphOf.l1 k (C6 rec) k) (impl_graphOf.l2 k k))) (fun n => U6 (impl_graphOf.l0 k n)) (fun rec v => r53_0 k rec _ (q53_1 k rec k) _ (q53_2 k k) v) n)
theorem M53 (k) : Meets Tryd.prog 53 (S53 k) := mo Tryd.func53 (oc (M26 k) (oc (M29 k) (oc (M60 k) (oc (M59 k) (oc (M54 k) (oc (M61 k) on)))))) fun x => (show funK (E53 k) (S53 k) Tryd.f53 x = impl_graphOf.g k (W6 (L53 k p53_0 [] k) n53_0) x by kernel_rfl).trans (by rw [q53_0]; rfl)
def impl_IsLasting.f (k : Nat) (l0_0 : List Int) (l1 : List Int) : Option (Bool × Int) := (impl_Tasks_isState.f k l0_0 l1).bind fun t1 => (impl_statesCode.f k l0_0 t1).bind fun t2 => if t2 = 0 then ((impl_graphOf.f k l0_0).bind fun t3 => (impl_Tasks_number.f k l0_0 l1).bind fun t4 => if 0 ≤ t4 then (if t4 < (t3.2.2.length : Int) then (some ((rdOf false t3.2.2 t4), 0)) else none) else none) else (some (false, t2))
def S42 (k : Nat) : Does := ⟨[sT, sL], [sB, sI], U2 (impl_IsLasting.f k)⟩
def E42 (k : Nat) : En := ⟨tb, orcOf [(52, S52 k), (17, S17 k), (53, S53 k), (54, S54 k)], lvOf [], k, 0, lvOf [], []⟩
theorem M42 (k) : Meets Tryd.prog 42 (S42 k) := mo Tryd.func42 (oc (M52 k) (oc (M17 k) (oc (M53 k) (oc (M54 k) on)))) fun x => (by kernel_rfl : funK (E42 k) (S42 k) Tryd.f42 x = (S42 k).fn x)
def impl_CanServe.f (k : Nat) (l0_0 : List Int) : Option (Bool × Int) := (impl_IsLasting.f k l0_0 l0_0).bind fun t1 => some (t1.1, t1.2)
def S36 (k : Nat) : Does := ⟨[sT], [sB, sI], impl_CanServe.f k⟩
def E36 (k : Nat) : En := ⟨tb, orcOf [(42, S42 k)], lvOf [], k, 0, lvOf [], []⟩
theorem M36 (k) : Meets Tryd.prog 36 (S36 k) := mo Tryd.func36 (oc (M42 k) on) fun x => (by kernel_rfl : funK (E36 k) (S36 k) Tryd.f36 x = (S36 k).fn x)
end Go.Proofs.YtcbhhbkghbnljaaDoor.Vf
