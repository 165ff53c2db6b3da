/- Draws of lists of rows: what they give. Conditions: as each theorem states. Written for this claim by a program of my own out of the print. -/
import Derived.Test.YtcbhhbkghbnljaaProg
import Derived.Below
import Derived.Deep.Draws
import Derived.Deep.AppendLies
import Derived.Maps.AppendAt
import Derived.OwnWalk
import Derived.Laws.BytesArg
import Derived.Laws.MakeOwn
import Derived.Laws.OwnMore
import Derived.Deep.OwnRows
import Derived.Tactics
import Derived.Lib.ConvBytes
import Derived.Laws.Slices
import Derived.WalkKit
import Derived.KernelRfl
import Derived.RowKit3
import Derived.Deep.LoopGhost
import Derived.Deep.QuietTactic
import Derived.BigQuiet
import Derived.WideLaws
import Derived.Deep.DeepCutAuto
import Derived.Deep.CutBlock
import Derived.Deep.RegionHeld3
import Derived.Laws.Rows
import Derived.Lib.AppendStr
import Derived.ArgAppend
import Derived.Laws.IdiomCopy
import Derived.OrdersHeld
import Derived.Laws.BitsLemmas
import Derived.RowKit
import Derived.Shelf.Abstract
import Derived.Deep.RegionLaw
import Derived.Laws.CopyOwn
import Derived.IntWalk
import Derived.Maps.OwnSet
import Derived.Maps.Views
import Derived.Carry
import Derived.Test.YtcbhhbkghbnljaaWa
namespace Go.Proofs.Ytcbhhbkghbnljaa.K
open Go.RowKit Go.Proofs.YtcbhhbkghbnljaaW.PrintWords Go.Proofs.YtcbhhbkghbnljaaW.PrintLast
set_option linter.unusedVariables false
set_option linter.unusedSimpArgs false
theorem zq0 {p : Prop} (h : p := by repeat (first | (with_reducible exact HR523_0.out) | (with_reducible refine Kd.C_alloc ?_ _) | (with_reducible refine Kd.C_drewN ?_ _) | (with_reducible refine Kd.C_drew ?_) | exact HR523_0.out)) : p := h
theorem zq1 {p : Prop} (h : p := by repeat (first | (with_reducible exact HR525_0.out) | (with_reducible refine Kd.C_alloc ?_ _) | (with_reducible refine Kd.C_drewN ?_ _) | (with_reducible refine Kd.C_drew ?_) | exact HR525_0.out)) : p := h
theorem zq2 {p : Prop} (h : p := by repeat (first | (with_reducible first | exact HI0.out | apply al.alloc | apply al.drewN | apply al.drew | apply al.eL | apply al.eM) | exact HI0.out)) : p := h
theorem zq3 {p : Prop} (h : p := by (try simp only [List.map_toArray, List.map_cons, List.map_nil]); first | done | (simp only [hji15]; rfl) | rfl | (simp only [List.length_drop, List.length_take]; rfl)) : p := h
theorem zq4 {p : Prop} (h : p := by (with_reducible repeat (first | apply Kd.S_alloc | apply Kd.bN | apply Kd.b9)); exact Kd.ei HO_7.out (fun k_ hk => ⟨trivial, fun e_ => hk e_⟩)) : p := h
theorem zq5 {p : Prop} (h : p := by repeat (first | (with_reducible first | exact HB.out | apply bR.alloc_ | apply bR.eT | apply bR.drew_ | apply bR.fv) | exact HB.out)) : p := h
theorem zq6 {p : Prop} (h : p := by repeat (first | (with_reducible first | exact HK.out | apply aR.fv | apply cG | apply keep_drew | apply keep_alloc) | exact HK.out)) : p := h
theorem cm {p : Prop} (h : p := by first | (with_reducible assumption) | assumption) : p := h
theorem zq7 {p : Prop} (h : p := by first | exact q523 | exact of_decide_eq_true cm | (have e_ := (Kd.dA HO_7.out).1; omega)) : p := h
theorem zq8 {p : Prop} (h : p := by first | exact q525 | exact of_decide_eq_true cm | (have e_ := (Kd.dA HO_7.out).1; omega)) : p := h
theorem zq9 {p : Prop} (h : p := by (with_reducible repeat (first | apply Kd.R_alloc | apply Kd.bt | apply Kd.bV)); exact Kd.cr HO_10.out (fun _ hk => ⟨trivial, hk⟩)) : p := h
theorem PB {p : Prop} (h : p := by (with_reducible repeat (first | apply Kd.S_alloc | apply Kd.bN | apply Kd.b9)); exact Kd.ei HO_7.out (fun _ hk => ⟨trivial, hk⟩)) : p := h
theorem KC {p : Prop} (h : p := by (try simp only [List.map_toArray, List.map_cons, List.map_nil]); first | done | rfl | (simp only [List.length_drop, List.length_take]; rfl)) : p := h
theorem m8 {p : Prop} (h : p := by repeat (first | (with_reducible first | exact HB.out | apply a6 | apply aG | apply a9) | exact HB.out)) : p := h
theorem PC {p : Prop} (h : p := by rw [Ny529.out]; exact hbk36 hg (fun k_ e_ => by injection e_ with e_; subst e_; exact ge36_0.1 _ rfl) (Kd.yU hz_)) : p := h
theorem vp {p : Prop} (h : p := by (with_reducible repeat (first | apply Kd.R_alloc | apply Kd.bt | apply Kd.bV)); exact HO_10.out) : p := h
theorem NH {p : Prop} (h : p := by (with_reducible repeat (first | apply Kd.R_alloc | apply Kd.bt | apply Kd.bV)); exact HO_14.out) : p := h
theorem AD {p : Prop} (h : p := by (with_reducible repeat (first | apply Kd.S_alloc | apply Kd.bN | apply Kd.b9)); exact HO_7.out) : p := h
theorem KD {p : Prop} (h : p := by (with_reducible repeat (first | apply Kd.R_alloc | apply Kd.bt | apply Kd.bV)); exact HO_9.out) : p := h
theorem F6 {p : Prop} (h : p := by (with_reducible repeat (first | apply Kd.S_alloc | apply Kd.bN | apply Kd.b9)); exact HO_9.out) : p := h
theorem dQ {p : Prop} (h : p := by first | rfl | (simp; done) | (simp [*]; done)) : p := h
theorem qf {p : Prop} (h : p := by first | (go_simp; done) | (go_simp; rfl)) : p := h
theorem jG {p : Prop} (h : p := by kernel_rfl) : p := h
theorem zE : (Try.prog.info? 2).map (fun i => (i.zero, i.size, i.bytes)) = some (some (.int .i64 0), 1, 8) := by kernel_rfl
theorem BH : (Try.prog.info? 29).map (fun i => (i.zero, i.size, i.bytes)) = some (some (.slice none 0 0), 1, 24) := by kernel_rfl
-- the values' own types
def cE (xs : List (List Int)) (i : Int) : (List Int) := xs.getD i.toNat ([] : List Int)
theorem ze {w : World} {A : Option Addr} {n : Nat} {xs : List (List Int)} (h : Kd.C (Kd.slice 2 (Kd.int .i64)) w A n xs) (i : Int) (h0 : 0 ≤ i) (h1 : i < n) : ∃ ad A0 c0, A = some ad ∧ w.cell? (ad.add i.toNat) = some (.slice A0 (cE xs i).length c0) ∧ (cE xs i).length ≤ c0 ∧ (Kd.int .i64).C w A0 (cE xs i).length (cE xs i) := by
 obtain ⟨ad, c, e, _, hK, hc0⟩ := Kd.NJ h ([] : List Int) i h0 h1
 have hc : ∀ j u, c[j]? = some u → w.cell? (ad.add (i.toNat * 1 + j)) = some u := hc0
 obtain ⟨A0, c0, rfl, l0, g0⟩ := hK
 exact ⟨ad, A0, c0, e, by have hq := hc 0 _ rfl; rwa [Nat.mul_one, Nat.add_zero] at hq, l0, g0⟩
structure bR (g : Nat) (w W : World) : Prop where
 os : W.os = w.os
 tape : W.tape = w.tape
 output : W.output = w.output
 size : w.heap.size ≤ W.heap.size
 block : ∀ k, k < w.heap.size → k ≠ g → W.heap[k]? = w.heap[k]?
theorem bR.refl (g : Nat) (w : World) : bR g w w := ⟨rfl, rfl, rfl, Nat.le_refl _, fun _ _ _ => rfl⟩
theorem bR.Ax {g : Nat} {w0 w w1 : World} {B : Nat} (h : bR g w0 w) (hB : w0.heap.size ≤ B) (k : Below B w w1) : bR g w0 w1 := ⟨k.os.trans h.os, k.tape.trans h.tape, k.output.trans h.output, Nat.le_trans h.size k.size, fun q hq hn => (k.block q (Nat.lt_of_lt_of_le hq hB)).trans (h.block q hq hn)⟩
theorem bR.Ez {g : Nat} {w0 w w1 : World} (h : bR g w0 w) (k : Below w.heap.size w w1) : bR g w0 w1 := h.Ax h.size k
theorem bR.eT {g : Nat} {w0 w : World} (h : bR g w0 w) (n : Nat) : bR g w0 (w.drewN n) := ⟨h.os, h.tape, h.output, h.size, h.block⟩
theorem bR.at_ {g : Nat} {w0 w w' : World} {m : Nat} (hq : w.drewN m = w') (h : bR g w0 w) : bR g w0 w' := by subst hq; exact h.eT m
theorem bR.fv {g : Nat} {w0 w : World} (h : bR g w0 w) (j : Nat) (v : Value) : bR g w0 (w.setCell ⟨g, j, none⟩ v) := ⟨h.os, h.tape, h.output, by simpa [World.setCell] using h.size, fun q hq hn => (Below.heap_setCell _ _ _ _ hn).trans (h.block q hq hn)⟩
theorem bR.KV {g : Nat} {w0 w : World} (h : bR g w0 w) {k j : Nat} {v : Value} (hk : w0.heap.size ≤ k) : bR g w0 (w.setCell ⟨k, j, none⟩ v) := ⟨h.os, h.tape, h.output, by simpa [World.setCell] using h.size, fun q hq hn => (Below.heap_setCell _ _ _ _ (show q ≠ k by omega)).trans (h.block q hq hn)⟩
theorem Ds {w w' : World} {m : Nat} {a : Addr} {v : Value} (hq : w.drewN m = w') (h : w.cell? a = some v) : w'.cell? a = some v := by subst hq; exact h
def al (Bs : Nat → Prop) (w0 W : World) (g : Nat) (f0 : List Int) (f1 : Int) (f2 : Int) : Prop := ∃ A0 c0 et, W.heap[g]? = some (.cells #[.slice A0 f0.length c0, .int .i64 f1, .int .u64 f2] et (0, 0)) ∧ (g < w0.heap.size ∧ f0.length ≤ c0 ∧ (A0 = none → c0 = 0) ∧ ∀ a : Addr, A0 = some a → f0 ≠ [] → a.block ≠ g ∧ ¬ Bs a.block) ∧ ∀ W', bR g w0 W' → Kd.C (Kd.int .u8) W' A0 f0.length f0
theorem al.grown {Bs : Nat → Prop} {w0 W : World} {g : Nat} {f0 : List Int} {f1 : Int} {f2 : Int} {W1 : World} {row : Option Nat} (h : al Bs w0 W g f0 f1 f2) (hw : W.grownBy W1 row) (hne : some g ≠ row) : al Bs w0 W1 g f0 f1 f2 := by
 obtain ⟨A0, c0, et, hb, hg, hr0⟩ := h
 exact ⟨A0, c0, et, Fm hb hw hne, hg, hr0⟩
theorem al.below {Bs : Nat → Prop} {w0 W : World} {g : Nat} {f0 : List Int} {f1 : Int} {f2 : Int} {W1 : World} (h : al Bs w0 W g f0 f1 f2) (hw : Below W.heap.size W W1) : al Bs w0 W1 g f0 f1 f2 := h.grown (s7 hw none) (by simp)
theorem al.drewN {Bs : Nat → Prop} {w0 W : World} {g : Nat} {f0 : List Int} {f1 : Int} {f2 : Int} (h : al Bs w0 W g f0 f1 f2) (m : Nat) : al Bs w0 (W.drewN m) g f0 f1 f2 := h
theorem al.at_ {Bs : Nat → Prop} {w0 W : World} {g : Nat} {f0 : List Int} {f1 : Int} {f2 : Int} {w' : World} {m : Nat} (hq : W.drewN m = w') (h : al Bs w0 W g f0 f1 f2) : al Bs w0 w' g f0 f1 f2 := by subst hq; exact al.drewN h m
theorem sR {et : TypeId} {W : World} {g : Nat} {A0 : Option Addr} {c0 : Nat} {f0 : List Int} {f1 : Int} {f2 : Int} (h : W.heap[g]? = some (.cells #[.slice A0 f0.length c0, .int .i64 f1, .int .u64 f2] et (0, 0))) : W.cell? ⟨g, 0, none⟩ = some (.slice A0 f0.length c0) := (sQ h 0).trans rfl
theorem sS {et : TypeId} {W : World} {g : Nat} {A0 : Option Addr} {c0 : Nat} {f0 : List Int} {f1 : Int} {f2 : Int} (h : W.heap[g]? = some (.cells #[.slice A0 f0.length c0, .int .i64 f1, .int .u64 f2] et (0, 0))) : W.cell? ⟨g, 1, none⟩ = some (.int .i64 f1) := (sQ h 1).trans rfl
theorem al.eL {Bs : Nat → Prop} {w0 W : World} {g : Nat} {f0 : List Int} {f1 : Int} {f2 : Int} (h : al Bs w0 W g f0 f1 f2) (x : Int) : al Bs w0 (W.setCell ⟨g, 1, none⟩ (.int .i64 x)) g f0 x f2 := by
 obtain ⟨A0, c0, et, hb, hg, hr0⟩ := h
 exact ⟨A0, c0, et, by simpa using wV hb 1 (.int .i64 x), hg, hr0⟩
theorem sV {et : TypeId} {W : World} {g : Nat} {A0 : Option Addr} {c0 : Nat} {f0 : List Int} {f1 : Int} {f2 : Int} (h : W.heap[g]? = some (.cells #[.slice A0 f0.length c0, .int .i64 f1, .int .u64 f2] et (0, 0))) : W.cell? ⟨g, 2, none⟩ = some (.int .u64 f2) := (sQ h 2).trans rfl
theorem al.eM {Bs : Nat → Prop} {w0 W : World} {g : Nat} {f0 : List Int} {f1 : Int} {f2 : Int} (h : al Bs w0 W g f0 f1 f2) (x : Int) : al Bs w0 (W.setCell ⟨g, 2, none⟩ (.int .u64 x)) g f0 f1 x := by
 obtain ⟨A0, c0, et, hb, hg, hr0⟩ := h
 exact ⟨A0, c0, et, by simpa using wV hb 2 (.int .u64 x), hg, hr0⟩
theorem al.gl {Bs : Nat → Prop} {w0 W : World} {g : Nat} {f0 : List Int} {f1 : Int} {f2 : Int} (h : al Bs w0 W g f0 f1 f2) : g < w0.heap.size := by
 obtain ⟨A0, c0, et, hb, hg, hr0⟩ := h
 exact hg.1
theorem al.yn {Bs : Nat → Prop} {w0 W : World} {g : Nat} {f0 : List Int} {f1 : Int} {f2 : Int} {α : Type} {d : Kd α} {e : Nat} {base : Nat} {ok : Nat → Prop} {v : Value} {xs : List α} (h : al Bs w0 W g f0 f1 f2) (ho : d.R e W base ok v xs) (ht : g < base) : some g ≠ v.ownBlock := by
 rcases Kd.mB ho with hn | ⟨k, hk, hb⟩
 ·rw [hn]; intro hx; cases hx
 ·rw [hk]; intro hx; have := Option.some.inj hx; omega
theorem al.apart {Bs : Nat → Prop} {w0 W : World} {g : Nat} {f0 : List Int} {f1 : Int} {f2 : Int} {α : Type} {d : Kd α} {e : Nat} {base : Nat} {ok : Nat → Prop} {v : Value} {xs : List α} (h : al Bs w0 W g f0 f1 f2) (ho : d.R e W base ok v xs) (ht : g < base) : d.R e W base (fun k => ok k ∧ k ≠ g) v xs := Kd.cr (Kd.fL ho) (fun k hk => ⟨hk.1, by have := hk.2.1; omega⟩)
theorem al.Ek {Bs : Nat → Prop} {w0 W : World} {g : Nat} {f0 : List Int} {f1 : Int} {f2 : Int} {α : Type} {d : Kd α} {e : Nat} {base : Nat} {ok : Nat → Prop} {v : Value} {xs : List α} (h : al Bs w0 W g f0 f1 f2) (ho : d.S e W base ok v xs) (ht : g < base) : some g ≠ v.ownBlock := by
 rcases Kd.wQ ho with hn | ⟨k, hk, hb⟩
 ·rw [hn]; intro hx; cases hx
 ·rw [hk]; intro hx; have := Option.some.inj hx; omega
theorem al.eD {Bs : Nat → Prop} {w0 W : World} {g : Nat} {f0 : List Int} {f1 : Int} {f2 : Int} {α : Type} {d : Kd α} {e : Nat} {base : Nat} {ok : Nat → Prop} {v : Value} {xs : List α} (h : al Bs w0 W g f0 f1 f2) (ho : d.S e W base ok v xs) (ht : g < base) : d.S e W base (fun k => ok k ∧ k ≠ g) v xs := Kd.ei (Kd.Di ho) (fun k hk => ⟨hk.1, by have := hk.2.1; omega⟩)
def ak.f (s0_0 : List Int) (s0_1 : Int) (s0_2 : Int) (a1 : Int) : Option (Int × Int × Int) := if a1 < 1 then (some (0, s0_1, s0_2)) else (if s0_1 < (s0_0.length : Int) then (if 0 ≤ s0_1 then (if a1 = 0 then (none) else (some (Int.tmod (wrap64 ((wrap64 (Go.bits .and .u64 ((IntKind.u64.wrap ((IntKind.u64.wrap (s0_2 * 6364136223846793005)) + 1442695040888963407)) / 8589934592) 16777215)) + (wrap64 (rd s0_0 s0_1)))) a1, wrap64 (s0_1 + 1), IntKind.u64.wrap ((IntKind.u64.wrap (s0_2 * 6364136223846793005)) + 1442695040888963407)))) else (none)) else (if a1 = 0 then (none) else (some (Int.tmod (wrap64 (Go.bits .and .u64 ((IntKind.u64.wrap ((IntKind.u64.wrap (s0_2 * 6364136223846793005)) + 1442695040888963407)) / 8589934592) 16777215)) a1, s0_1, IntKind.u64.wrap ((IntKind.u64.wrap (s0_2 * 6364136223846793005)) + 1442695040888963407)))))
set_option maxHeartbeats 8000000 in
set_option maxRecDepth 100000 in
theorem ak.calls (g : Nat) (s0_0 : List Int) (s0_1 : Int) (s0_2 : Int) (a1 : Int) (r1 : Int) (r2 : Int) (r3 : Int) {Bs : Nat → Prop} (w0 w : World) (hI : al Bs w0 w g s0_0 s0_1 s0_2) (hB : bR g w0 w) (h : ak.f s0_0 s0_1 s0_2 a1 = some (r1, r2, r3)) :
  Calls Try.prog 147 #[.pointer (some ⟨g, 0, none⟩), .int .i64 a1] w fun e w' => e = .returned (.int .i64 r1) ∧ al Bs w0 w' g s0_0 r2 r3 ∧ bR g w0 w' ∧ aR w w' g none := by
 have HI0 := ab.mk hI
 have HK := ab.mk (aR.refl w g none)
 have HL := ab.mk hB.size
 clear hI
 have HW0 := ab.mk hB.size
 have HB := ab.mk hB
 clear hB
 have H : (if a1 < 1 then (some (0, s0_1, s0_2)) else (if s0_1 < (s0_0.length : Int) then (if 0 ≤ s0_1 then (if a1 = 0 then (none) else (some (Int.tmod (wrap64 ((wrap64 (Go.bits .and .u64 ((IntKind.u64.wrap ((IntKind.u64.wrap (s0_2 * 6364136223846793005)) + 1442695040888963407)) / 8589934592) 16777215)) + (wrap64 (rd s0_0 s0_1)))) a1, wrap64 (s0_1 + 1), IntKind.u64.wrap ((IntKind.u64.wrap (s0_2 * 6364136223846793005)) + 1442695040888963407)))) else (none)) else (if a1 = 0 then (none) else (some (Int.tmod (wrap64 (Go.bits .and .u64 ((IntKind.u64.wrap ((IntKind.u64.wrap (s0_2 * 6364136223846793005)) + 1442695040888963407)) / 8589934592) 16777215)) a1, s0_1, IntKind.u64.wrap ((IntKind.u64.wrap (s0_2 * 6364136223846793005)) + 1442695040888963407)))))) = some (r1, r2, r3) := h
 clear h
 by_cases c3 : a1 < 1
 ·rw [if_pos c3] at H
  have c3b0 : decide (a1 < 1) = true := decide_eq_true c3
  clear c3
  simp only [Option.some.injEq, Prod.mk.injEq] at H
  obtain ⟨rfl, rfl, rfl⟩ := H
  go_enter Try.func147, Try.ntmps147
  go_wp2
  repeat (go_quiet (fail); try go_wp2)
  go_ret
  exact ⟨by first | rfl | (simp [errW_none, errW_some] <;> rfl) | (simp [*, errW_none, errW_some] <;> rfl), by repeat (first | (with_reducible first | exact HI0.out | apply al.alloc | apply al.drewN | apply al.drew | apply al.eL | apply al.eM) | exact HI0.out), by repeat (first | (with_reducible first | exact HB.out | apply bR.alloc_ | apply bR.eT | apply bR.drew_ | apply bR.fv) | exact HB.out), by repeat (first | (with_reducible first | exact HK.out | apply aR.fv | apply cG | apply keep_drew | apply keep_alloc) | exact HK.out)⟩
 rw [if_neg c3] at H
 have c3b0 : decide (a1 < 1) = false := decide_eq_false c3
 clear c3
 by_cases c4 : s0_1 < (s0_0.length : Int)
 rotate_left
 ·rw [if_neg c4] at H
  have c4b0 : decide (s0_1 < (s0_0.length : Int)) = false := decide_eq_false c4
  clear c4
  by_cases c8 : a1 = 0
  ·rw [if_pos c8] at H
   exact absurd H (by simp)
  rw [if_neg c8] at H
  have c8b0 : (a1 == 0) = false := beq_eq_false_iff_ne.mpr c8
  have c8b1 : (a1 != 0) = true := bne_iff_ne.mpr c8
  simp only [Option.some.injEq, Prod.mk.injEq] at H
  obtain ⟨rfl, rfl, rfl⟩ := H
  obtain ⟨ASz9_0, cSz9_0, etz_, HGz9, hgz9, HSz9_0⟩ := HI0.out
  have hcz9_0 := sR HGz9
  have hcz9_1 := sS HGz9
  have hcz9_2 := sV HGz9
  have hfz9_1 := ji HGz9 1
  have hfz9_2 := ji HGz9 2
  clear HGz9 hgz9
  go_enter Try.func147, Try.ntmps147
  go_wp2
  repeat (go_quiet (fail); try go_wp2)
  go_ret
  exact ⟨by first | rfl | (simp [errW_none, errW_some] <;> rfl) | (simp [*, errW_none, errW_some] <;> rfl), by repeat (first | (with_reducible first | exact HI0.out | apply al.alloc | apply al.drewN | apply al.drew | apply al.eL | apply al.eM) | exact HI0.out), by repeat (first | (with_reducible first | exact HB.out | apply bR.alloc_ | apply bR.eT | apply bR.drew_ | apply bR.fv) | exact HB.out), by repeat (first | (with_reducible first | exact HK.out | apply aR.fv | apply cG | apply keep_drew | apply keep_alloc) | exact HK.out)⟩
 rw [if_pos c4] at H
 have c4b0 : decide (s0_1 < (s0_0.length : Int)) = true := decide_eq_true c4
 clear c4
 by_cases c5 : 0 ≤ s0_1
 rotate_left
 ·rw [if_neg c5] at H
  exact absurd H (by simp)
 rw [if_pos c5] at H
 have c5b0 : decide (0 ≤ s0_1) = true := decide_eq_true c5
 clear c5
 by_cases c6 : a1 = 0
 ·rw [if_pos c6] at H
  exact absurd H (by simp)
 rw [if_neg c6] at H
 have c6b0 : (a1 == 0) = false := beq_eq_false_iff_ne.mpr c6
 have c6b1 : (a1 != 0) = true := bne_iff_ne.mpr c6
 simp only [Option.some.injEq, Prod.mk.injEq] at H
 obtain ⟨rfl, rfl, rfl⟩ := H
 obtain ⟨ASz7_0, cSz7_0, etz_, HGz7, hgz7, HSz7_0⟩ := HI0.out
 have hcz7_0 := sR HGz7
 have hcz7_1 := sS HGz7
 have hcz7_2 := sV HGz7
 have hfz7_1 := ji HGz7 1
 have hfz7_2 := ji HGz7 2
 have hgk := hgz7.2.2.2
 replace HSz7_0 := HSz7_0 _ HB.out
 clear HGz7 hgz7
 have p269 : 0 ≤ (s0_1 : Int) := of_decide_eq_true cm
 have q269 : s0_1 < (s0_0.length : Int) := of_decide_eq_true cm
 obtain ⟨ad269, e269, hx269_0⟩ := Kd.dD HSz7_0 s0_1 p269 q269
 cases e269
 have hn269_0 : ad269.block ≠ g := (hgk _ rfl (fun hx => by rw [hx] at q269; simp at q269; omega)).1
 replace hx269_0 := (cell_far (p := ⟨g, 2, none⟩) (by first | (rw [eo]; exact hn269_0) | (show (Addr.add _ _).block ≠ _; rw [eo]; exact hn269_0) | exact hn269_0) (.int .u64 (IntKind.u64.wrap ((IntKind.u64.wrap (s0_2 * 6364136223846793005)) + 1442695040888963407)))).trans hx269_0
 (try have hy269_0 := fun (n_ : Nat) => (show (((w.drewN n_).setCell ⟨g, 2, none⟩ (.int .u64 (IntKind.u64.wrap ((IntKind.u64.wrap (s0_2 * 6364136223846793005)) + 1442695040888963407))))).cell? _ = some _ from hx269_0))
 clear hn269_0
 replace p269 := eq_true p269
 replace q269 := eq_true q269
 go_enter Try.func147, Try.ntmps147
 go_wp2
 repeat (go_quiet (fail); try go_wp2)
 go_ret
 exact ⟨by first | rfl | (simp [errW_none, errW_some] <;> rfl) | (simp [*, errW_none, errW_some] <;> rfl), by repeat (first | (with_reducible first | exact HI0.out | apply al.alloc | apply al.drewN | apply al.drew | apply al.eL | apply al.eM) | exact HI0.out), by repeat (first | (with_reducible first | exact HB.out | apply bR.alloc_ | apply bR.eT | apply bR.drew_ | apply bR.fv) | exact HB.out), by repeat (first | (with_reducible first | exact HK.out | apply aR.fv | apply cG | apply keep_drew | apply keep_alloc) | exact HK.out)⟩
mutual
def ai.l0 : Nat → Int → Int → Int → List (List Int) → Int → List Int → Int → Int → Option ((List (List Int)) × Int × Int)
 | 0, _, _, _, _, _, _, _, _ => none
 | k + 1, x1, x5, x6, x7, x8, x1000, x1001, x1002 => if x8 < x5 then (ai.l1 k x1 x5 x6 x7 x8 (([] : List Int)) 0 x1000 x1001 x1002) else ((ak.f x1000 x1001 x1002 2).bind fun bt520 => (if bt520.1 = 0 then (ai.l2 k x6 x7 0 x1000 bt520.2.1 bt520.2.2) else (some (x7, bt520.2.1, bt520.2.2))))
def ai.l1 : Nat → Int → Int → Int → List (List Int) → Int → List Int → Int → List Int → Int → Int → Option ((List (List Int)) × Int × Int)
 | 0, _, _, _, _, _, _, _, _, _, _ => none
 | k + 1, x1, x5, x6, x7, x8, x9, x10, x1000, x1001, x1002 => if x10 < x6 then ((ak.f x1000 x1001 x1002 (wrap64 (x1 + 1))).bind fun bt511 => (if x9.length < 17592186044416 then (ai.l1 k x1 x5 x6 x7 x8 (x9 ++ [wrap64 (bt511.1 - 1)]) (wrap64 (x10 + 1)) x1000 bt511.2.1 bt511.2.2) else (none))) else (if x7.length < 5864062014805 then (ai.l0 k x1 x5 x6 (x7 ++ [x9]) (wrap64 (x8 + 1)) x1000 x1001 x1002) else (none))
def ai.l2 : Nat → Int → List (List Int) → Int → List Int → Int → Int → Option ((List (List Int)) × Int × Int)
 | 0, _, _, _, _, _, _ => none
 | k + 1, x6, x7, x11, x1000, x1001, x1002 => if x11 < x6 then (ai.l3 k x6 x7 x11 (x7.length : Int) 0 x1000 x1001 x1002) else (some (x7, x1001, x1002))
def ai.l3 : Nat → Int → List (List Int) → Int → Int → Int → List Int → Int → Int → Option ((List (List Int)) × Int × Int)
 | 0, _, _, _, _, _, _, _, _ => none
 | k + 1, x6, x7, x11, x54, x55, x1000, x1001, x1002 => if x55 < x54 then (ai.l4 k x6 x7 x11 x55 0 x54 x55 x1000 x1001 x1002) else (ai.l2 k x6 x7 (wrap64 (x11 + 1)) x1000 x1001 x1002)
def ai.l4 : Nat → Int → List (List Int) → Int → Int → Int → Int → Int → List Int → Int → Int → Option ((List (List Int)) × Int × Int)
 | 0, _, _, _, _, _, _, _, _, _, _ => none
 | k + 1, x6, x7, x11, x12, x13, x54, x55, x1000, x1001, x1002 => if x13 < x12 then (if 0 ≤ x12 then (if x12 < (x7.length : Int) then (if 0 ≤ x11 then (if x11 < ((cE x7 x12).length : Int) then (if 0 ≤ x13 then (if x13 < (x7.length : Int) then (if x11 < ((cE x7 x13).length : Int) then (if (rd (cE x7 x12) x11) = (rd (cE x7 x13) x11) then (ai.l4 k x6 (x7.set (x12 : Int).toNat ((cE x7 x12).set (x11 : Int).toNat (-1))) x11 x12 (wrap64 (x13 + 1)) x54 x55 x1000 x1001 x1002) else (ai.l4 k x6 x7 x11 x12 (wrap64 (x13 + 1)) x54 x55 x1000 x1001 x1002)) else (none)) else (none)) else (none)) else (none)) else (none)) else (none)) else (none)) else (ai.l3 k x6 x7 x11 x54 (wrap64 (x55 + 1)) x1000 x1001 x1002)
end
def ai.f (k : Nat) (s0_0 : List Int) (s0_1 : Int) (s0_2 : Int) (a1 : Int) : Option ((List (List Int)) × Int × Int) := (ak.f s0_0 s0_1 s0_2 3).bind fun bt499 => ((ak.f s0_0 bt499.2.1 bt499.2.2 8).bind fun bt502 => (ai.l0 k a1 (wrap64 (1 + bt499.1)) (wrap64 (1 + bt502.1)) (([] : List (List Int))) 0 s0_0 bt502.2.1 bt502.2.2))
theorem ai.calls (k : Nat) (g : Nat) (s0_0 : List Int) (s0_1 : Int) (s0_2 : Int) (a1 : Int) (r1 : List (List Int)) (r2 : Int) (r3 : Int) {Bs : Nat → Prop} (w0 w : World) (hI : al Bs w0 w g s0_0 s0_1 s0_2) (hB : bR g w0 w) (h : ai.f k s0_0 s0_1 s0_2 a1 = some (r1, r2, r3)) :
  Calls Try.prog 223 #[.pointer (some ⟨g, 0, none⟩), .int .i64 a1] w fun e w' => ∃ v0_ : Value, e = .returned (v0_) ∧ Kd.S (Kd.slice 2 (Kd.int .i64)) 29 w' w.heap.size (fun _ => True) v0_ r1 ∧ al Bs w0 w' g s0_0 r2 r3 ∧ bR g w0 w' ∧ aR w w' g none := by
 have HI0 := ab.mk hI
 have HK := ab.mk (aR.refl w g none)
 have HL := ab.mk hB.size
 clear hI
 have HW0 := ab.mk hB.size
 have HB := ab.mk hB
 clear hB
 have H : ((ak.f s0_0 s0_1 s0_2 3).bind fun bt499 => ((ak.f s0_0 bt499.2.1 bt499.2.2 8).bind fun bt502 => (ai.l0 k a1 (wrap64 (1 + bt499.1)) (wrap64 (1 + bt502.1)) (([] : List (List Int))) 0 s0_0 bt502.2.1 bt502.2.2))) = some (r1, r2, r3) := h
 clear h
 replace H := Option.bind_eq_some_iff.mp H
 obtain ⟨⟨t499, t500, t501⟩, A30, H⟩ := H
 replace H : ((ak.f s0_0 t500 t501 8).bind fun bt502 => (ai.l0 k a1 (wrap64 (1 + t499)) (wrap64 (1 + bt502.1)) (([] : List (List Int))) 0 s0_0 bt502.2.1 bt502.2.2)) = some (r1, r2, r3) := H
 have A3 := ab.mk A30
 clear A30
 replace H := Option.bind_eq_some_iff.mp H
 obtain ⟨⟨t502, t503, t504⟩, A40, H⟩ := H
 replace H : (ai.l0 k a1 (wrap64 (1 + t499)) (wrap64 (1 + t502)) (([] : List (List Int))) 0 s0_0 t503 t504) = some (r1, r2, r3) := H
 have A4 := ab.mk A40
 clear A40
 obtain ⟨y505, hy505⟩ : ∃ y_ : List (List Int), y_ = (([] : List (List Int))) := ⟨_, rfl⟩
 replace H : (ai.l0 k a1 (wrap64 (1 + t499)) (wrap64 (1 + t502)) y505 0 s0_0 t503 t504) = some (r1, r2, r3) := by first | (rw [hy505]; with_reducible exact H) | (have H2_ := (Option.bind_some _ _).symm.trans H; rw [hy505]; with_reducible exact H2_) | (have H2_ := (Option.bind_some _ _).symm.trans H; with_reducible exact H2_) | with_reducible exact H | (rw [hy505]; exact H) | exact H
 have Ny505 := ab.mk hy505
 clear hy505
 have H' := ab.mk H
 clear H
 go_enter Try.func223, Try.ntmps223
 go_wp2_with (first | (go_at_call 147; (with_reducible refine (ak.calls (Bs := Bs) g s0_0 s0_1 s0_2 3 t499 t500 t501 w0 _ ?side1 ?side2 A3.out).mono ?_); (case side1 => exact zq2); (case side2 => exact zq5); rintro e w5 ⟨rfl, hi, hb, hk⟩; have n0_ := ab.mk (aR.trans zq6 hk (.inl rfl)); have n1_ := ab.mk (hb); have n2_ := ab.mk (hi); clear HK; clear HB; clear HI0; have HK := n0_; have HB := n1_; have HI0 := n2_; clear n0_ n1_ n2_; (try clear hb); (try clear hb2); (try clear hk); (try clear hi)) | (go_at_call 147; (with_reducible refine (ak.calls (Bs := Bs) g s0_0 t500 t501 8 t502 t503 t504 w0 _ ?side1 ?side2 A4.out).mono ?_); (case side1 => exact zq2); (case side2 => exact zq5); rintro e w6 ⟨rfl, hi, hb, hk⟩; have n0_ := ab.mk (aR.trans zq6 hk (.inl rfl)); have n1_ := ab.mk (hb); have n2_ := ab.mk (hi); clear HK; clear HB; clear HI0; have HK := n0_; have HB := n1_; have HI0 := n2_; clear n0_ n1_ n2_; (try clear hb); (try clear hb2); (try clear hk); (try clear hi)) | ((with_reducible refine iv (N := 21) rfl ?_); refine Kd.Gl (Kd.slice 2 (Kd.int .i64)) _ 29 ?hg (N := 21) ?hd (xs := ([] : List (List Int))) (inner := []) (ok := fun _ => True) (okp := fun _ => True) ?hr ?hp (fun _ hk => hk) trivial (Below.refl _ _) (Nat.le_refl _) (by simp) ?_; (case hd => rfl); (case hg => rfl); (case hr => exact qf); (case hp => exact (dC.none _ _)); intro v506 w7 ho8 hb hg_ hnew_; clear hg_ hnew_; (first | rw [← Ny505.out] at ho8 | (simp only [Int.reduceToNat] at ho8; rw [← Ny505.out] at ho8)); have n0_ := ab.mk (Kd.wR ho8 (gf (w := w) (g := g) (row := none) zq6)); have n1_ := ab.mk (al.below zq2 hb); have n2_ := ab.mk (aR.trans zq6 (aR.oG hb g none) (.inl rfl)); have n3_ := ab.mk (bR.Ez zq5 hb); clear HI0; clear HK; clear HB; have HO507 := n0_; have HI0 := n1_; have HK := n2_; have HB := n3_; clear n0_ n1_ n2_ n3_; clear hb ho8))
 repeat (go_quiet (first | (go_at_call 147; (with_reducible refine (ak.calls (Bs := Bs) g s0_0 s0_1 s0_2 3 t499 t500 t501 w0 _ ?side1 ?side2 A3.out).mono ?_); (case side1 => exact zq2); (case side2 => exact zq5); rintro e w5 ⟨rfl, hi, hb, hk⟩; have n0_ := ab.mk (aR.trans zq6 hk (.inl rfl)); have n1_ := ab.mk (hb); have n2_ := ab.mk (hi); clear HK; clear HB; clear HI0; have HK := n0_; have HB := n1_; have HI0 := n2_; clear n0_ n1_ n2_; (try clear hb); (try clear hb2); (try clear hk); (try clear hi)) | (go_at_call 147; (with_reducible refine (ak.calls (Bs := Bs) g s0_0 t500 t501 8 t502 t503 t504 w0 _ ?side1 ?side2 A4.out).mono ?_); (case side1 => exact zq2); (case side2 => exact zq5); rintro e w6 ⟨rfl, hi, hb, hk⟩; have n0_ := ab.mk (aR.trans zq6 hk (.inl rfl)); have n1_ := ab.mk (hb); have n2_ := ab.mk (hi); clear HK; clear HB; clear HI0; have HK := n0_; have HB := n1_; have HI0 := n2_; clear n0_ n1_ n2_; (try clear hb); (try clear hb2); (try clear hk); (try clear hi)) | ((with_reducible refine iv (N := 21) rfl ?_); refine Kd.Gl (Kd.slice 2 (Kd.int .i64)) _ 29 ?hg (N := 21) ?hd (xs := ([] : List (List Int))) (inner := []) (ok := fun _ => True) (okp := fun _ => True) ?hr ?hp (fun _ hk => hk) trivial (Below.refl _ _) (Nat.le_refl _) (by simp) ?_; (case hd => rfl); (case hg => rfl); (case hr => exact qf); (case hp => exact (dC.none _ _)); intro v506 w7 ho8 hb hg_ hnew_; clear hg_ hnew_; (first | rw [← Ny505.out] at ho8 | (simp only [Int.reduceToNat] at ho8; rw [← Ny505.out] at ho8)); have n0_ := ab.mk (Kd.wR ho8 (gf (w := w) (g := g) (row := none) zq6)); have n1_ := ab.mk (al.below zq2 hb); have n2_ := ab.mk (aR.trans zq6 (aR.oG hb g none) (.inl rfl)); have n3_ := ab.mk (bR.Ez zq5 hb); clear HI0; clear HK; clear HB; have HO507 := n0_; have HI0 := n1_; have HK := n2_; have HB := n3_; clear n0_ n1_ n2_ n3_; clear hb ho8)); try go_wp2)
 go_loopg [7, 8] k (fun kq v7 v8 w' => ∃ (x7_1 : List (List Int)) (x8_1 : Int) (x1001_1 : Int) (x1002_1 : Int), v8 = .int .i64 x8_1 ∧ ab (ai.l0 kq a1 (wrap64 (1 + t499)) (wrap64 (1 + t502)) x7_1 x8_1 s0_0 x1001_1 x1002_1 = some (r1, r2, r3)) ∧ ab (kq ≤ k) ∧ ab (Kd.S (Kd.slice 2 (Kd.int .i64)) 29 w' w.heap.size (fun _ => True) v7 x7_1) ∧ ab (al Bs w0 w' g s0_0 x1001_1 x1002_1) ∧ ab (aR w w' g none) ∧ ab (bR g w0 w'))
 case atStart => exact ⟨(y505), (0), (t503), (t504), dQ, H', ⟨Nat.le_refl _⟩, ⟨by (with_reducible repeat (first | apply Kd.S_alloc | apply Kd.bN | apply Kd.b9)); exact HO507.out⟩, ⟨by repeat (first | (with_reducible first | exact HI0.out | apply al.alloc | apply al.drewN | apply al.drew | apply al.eL | apply al.eM) | exact HI0.out)⟩, ⟨by repeat (first | (with_reducible first | exact HK.out | apply aR.fv | apply cG | apply keep_drew | apply keep_alloc) | exact HK.out)⟩, ⟨by repeat (first | (with_reducible first | exact HB.out | apply bR.alloc_ | apply bR.eT | apply bR.drew_ | apply bR.fv) | exact HB.out)⟩⟩
 clear H'
 obtain ⟨x7_1, x8_1, x1001_1, x1002_1, rfl, HA, HK1, HO_7, HI0, HK, HB⟩ := hrel
 cases gk with
 | zero => exact absurd HA.out (by simp [ai.l0])
 | succ k1 =>
  have H := HA.out
  clear HA
  simp only [ai.l0] at H
  by_cases c9 : x8_1 < (wrap64 (1 + t499))
  ·rw [if_pos c9] at H
   have c9b0 : decide (x8_1 < (wrap64 (1 + t499))) = true := decide_eq_true c9
   clear c9
   obtain ⟨y508, hy508⟩ : ∃ y_ : List Int, y_ = (([] : List Int)) := ⟨_, rfl⟩
   replace H : (ai.l1 k1 a1 (wrap64 (1 + t499)) (wrap64 (1 + t502)) x7_1 x8_1 y508 0 s0_0 x1001_1 x1002_1) = some (r1, r2, r3) := by first | (rw [hy508]; with_reducible exact H) | (have H2_ := (Option.bind_some _ _).symm.trans H; rw [hy508]; with_reducible exact H2_) | (have H2_ := (Option.bind_some _ _).symm.trans H; with_reducible exact H2_) | with_reducible exact H | (rw [hy508]; exact H) | exact H
   have Ny508 := ab.mk hy508
   clear hy508
   have H' := ab.mk H
   clear H
   go_wp2_with (first | ((with_reducible refine iv (N := 27) rfl ?_); refine Kd.vu (Kd.int .i64) _ 2 ?hg (N := 27) ?hd (xs := ([] : List Int)) (inner := []) (ok := fun _ => True) (okp := fun _ => True) ?hr ?hp (fun _ hk => hk) trivial (Below.refl _ _) (Nat.le_refl _) (by simp) ?_; (case hd => rfl); (case hg => rfl); (case hr => exact qf); (case hp => exact (dC.none _ _)); intro v509 w10 ho11 hb hg_ hnew_; clear hg_ hnew_; (first | rw [← Ny508.out] at ho11 | (simp only [Int.reduceToNat] at ho11; rw [← Ny508.out] at ho11)); have n0_ := ab.mk (Kd.lr AD (Kd.nz ho11) hb); have n1_ := ab.mk (Kd.kA ho11 (gf (w := w) (g := g) (row := none) zq6)); have n2_ := ab.mk (al.below zq2 hb); have n3_ := ab.mk (aR.trans zq6 (aR.oG hb g none) (.inl rfl)); have n4_ := ab.mk (bR.Ez zq5 hb); clear HO_7; clear HI0; clear HK; clear HB; have HO_7 := n0_; have HO510 := n1_; have HI0 := n2_; have HK := n3_; have HB := n4_; clear n0_ n1_ n2_ n3_ n4_; clear hb ho11))
   repeat (go_quiet (first | ((with_reducible refine iv (N := 27) rfl ?_); refine Kd.vu (Kd.int .i64) _ 2 ?hg (N := 27) ?hd (xs := ([] : List Int)) (inner := []) (ok := fun _ => True) (okp := fun _ => True) ?hr ?hp (fun _ hk => hk) trivial (Below.refl _ _) (Nat.le_refl _) (by simp) ?_; (case hd => rfl); (case hg => rfl); (case hr => exact qf); (case hp => exact (dC.none _ _)); intro v509 w10 ho11 hb hg_ hnew_; clear hg_ hnew_; (first | rw [← Ny508.out] at ho11 | (simp only [Int.reduceToNat] at ho11; rw [← Ny508.out] at ho11)); have n0_ := ab.mk (Kd.lr AD (Kd.nz ho11) hb); have n1_ := ab.mk (Kd.kA ho11 (gf (w := w) (g := g) (row := none) zq6)); have n2_ := ab.mk (al.below zq2 hb); have n3_ := ab.mk (aR.trans zq6 (aR.oG hb g none) (.inl rfl)); have n4_ := ab.mk (bR.Ez zq5 hb); clear HO_7; clear HI0; clear HK; clear HB; have HO_7 := n0_; have HO510 := n1_; have HI0 := n2_; have HK := n3_; have HB := n4_; clear n0_ n1_ n2_ n3_ n4_; clear hb ho11)); try go_wp2)
   go_loopg [9, 10] k1 (fun kq v9 v10 w' => ∃ (x9_2 : List Int) (x10_2 : Int) (x1001_2 : Int) (x1002_2 : Int), v10 = .int .i64 x10_2 ∧ ab (ai.l1 kq a1 (wrap64 (1 + t499)) (wrap64 (1 + t502)) x7_1 x8_1 x9_2 x10_2 s0_0 x1001_2 x1002_2 = some (r1, r2, r3)) ∧ ab (kq ≤ k1) ∧ ab (Kd.S (Kd.slice 2 (Kd.int .i64)) 29 w' w.heap.size (fun k_ => some k_ ≠ (v9 : Value).ownBlock) u7 x7_1) ∧ ab (Kd.R (Kd.int .i64) 2 w' w.heap.size (fun _ => True) v9 x9_2) ∧ ab (al Bs w0 w' g s0_0 x1001_2 x1002_2) ∧ ab (aR w w' g none) ∧ ab (bR g w0 w'))
   case atStart => exact ⟨(y508), (0), (x1001_1), (x1002_1), dQ, H', ⟨Nat.le_refl _⟩, ⟨by (with_reducible repeat (first | apply Kd.S_alloc | apply Kd.bN | apply Kd.b9)); exact Kd.ei HO_7.out (fun _ hk => hk.2)⟩, ⟨by (with_reducible repeat (first | apply Kd.R_alloc | apply Kd.bt | apply Kd.bV)); exact HO510.out⟩, ⟨by repeat (first | (with_reducible first | exact HI0.out | apply al.alloc | apply al.drewN | apply al.drew | apply al.eL | apply al.eM) | exact HI0.out)⟩, ⟨by repeat (first | (with_reducible first | exact HK.out | apply aR.fv | apply cG | apply keep_drew | apply keep_alloc) | exact HK.out)⟩, ⟨by repeat (first | (with_reducible first | exact HB.out | apply bR.alloc_ | apply bR.eT | apply bR.drew_ | apply bR.fv) | exact HB.out)⟩⟩
   clear H' c9b0
   obtain ⟨x9_2, x10_2, x1001_2, x1002_2, rfl, HA, HK2, HO_7, HO_9, HI0, HK, HB⟩ := hrel
   cases gk with
   | zero => exact absurd HA.out (by simp [ai.l1])
   | succ k2 =>
    have H := HA.out
    clear HA
    simp only [ai.l1] at H
    by_cases c12 : x10_2 < (wrap64 (1 + t502))
    rotate_left
    ·rw [if_neg c12] at H
     have c12b0 : decide (x10_2 < (wrap64 (1 + t502))) = false := decide_eq_false c12
     clear c12
     by_cases c17 : x7_1.length < 5864062014805
     rotate_left
     ·rw [if_neg c17] at H
      exact absurd H (by simp)
     rw [if_pos c17] at H
     have LMc17 := ab.mk c17
     clear c17
     obtain ⟨y517, hy517⟩ : ∃ y_ : List (List Int), y_ = (x7_1 ++ [x9_2]) := ⟨_, rfl⟩
     replace H : (ai.l0 k2 a1 (wrap64 (1 + t499)) (wrap64 (1 + t502)) y517 (wrap64 (x8_1 + 1)) s0_0 x1001_2 x1002_2) = some (r1, r2, r3) := by first | (rw [hy517]; with_reducible exact H) | (have H2_ := (Option.bind_some _ _).symm.trans H; rw [hy517]; with_reducible exact H2_) | (have H2_ := (Option.bind_some _ _).symm.trans H; with_reducible exact H2_) | with_reducible exact H | (rw [hy517]; exact H) | exact H
     have Ny517 := ab.mk hy517
     clear hy517
     have H' := ab.mk H
     clear H
     obtain ⟨Ao19, co19, eo19⟩ := Kd.eZ HO_9.out
     subst eo19
     go_wp2_with (first | ((with_reducible refine eE (b := .append) (xs := #[.tmp 41, .tmp 43]) rfl ?_); at_builtin; refine Kd.rN (Kd.slice 2 (Kd.int .i64)) w.heap.size rfl (.tmp 41) (.tmp 43) 86 29 (.slice none 0 0) 24 rfl Try.underlying86 BH rfl (by decide) (by omega) u7 x7_1 x9_2 [.slice Ao19 x9_2.length co19] (fun _ => True) (fun k_ => some k_ = (.slice Ao19 x9_2.length co19 : Value).ownBlock) rfl rfl ?aP (fun k_ hk_ => ((Kd.cr (ok' := fun k_ => ((fun _ => True)) k_ ∧ some k_ ≠ (u7 : Value).ownBlock) (Kd.kd (HO_9.out) (Kd.kC HO_7.out) (by decide)) (fun k_ hk => ⟨trivial, hk.2⟩))).1 k_ hk_.symm) ?aF ?aO (Below.refl _ _) ?aS ?aL ?_; (case aP => exact Kd.yU (Kd.cr (Kd.ri rfl (Kd.cr (ok' := fun k_ => ((fun _ => True)) k_ ∧ some k_ ≠ (u7 : Value).ownBlock) (Kd.kd (HO_9.out) (Kd.kC HO_7.out) (by decide)) (fun k_ hk => ⟨trivial, hk.2⟩))) (fun _ h_ => h_))); (case aF => exact (fun _ _ => trivial)); (case aO => exact zq4); (case aS => exact (gf (w := w) (g := g) (row := none) zq6)); (case aL => have := LMc17.out; omega); intro v518 w18 ho hb hg hat; rw [← Ny517.out] at ho; have n0_ := ab.mk (al.grown zq2 hg (al.Ek HI0.out HO_7.out (Nat.lt_of_lt_of_le (al.gl HI0.out) HL.out))); have n1_ := ab.mk (bR.Ax zq5 HL.out hb); have n2_ := ab.mk (aR.trans zq6 (aR.ko hg g) (Kd.wQ HO_7.out)); have n3_ := ab.mk (ho); clear HI0; clear HB; clear HK; clear HO_7; clear HO_9; have HI0 := n0_; have HB := n1_; have HK := n2_; have HO519 := n3_; clear n0_ n1_ n2_ n3_; clear ho hb hg hat))
     repeat (go_quiet (first | ((with_reducible refine eE (b := .append) (xs := #[.tmp 41, .tmp 43]) rfl ?_); at_builtin; refine Kd.rN (Kd.slice 2 (Kd.int .i64)) w.heap.size rfl (.tmp 41) (.tmp 43) 86 29 (.slice none 0 0) 24 rfl Try.underlying86 BH rfl (by decide) (by omega) u7 x7_1 x9_2 [.slice Ao19 x9_2.length co19] (fun _ => True) (fun k_ => some k_ = (.slice Ao19 x9_2.length co19 : Value).ownBlock) rfl rfl ?aP (fun k_ hk_ => ((Kd.cr (ok' := fun k_ => ((fun _ => True)) k_ ∧ some k_ ≠ (u7 : Value).ownBlock) (Kd.kd (HO_9.out) (Kd.kC HO_7.out) (by decide)) (fun k_ hk => ⟨trivial, hk.2⟩))).1 k_ hk_.symm) ?aF ?aO (Below.refl _ _) ?aS ?aL ?_; (case aP => exact Kd.yU (Kd.cr (Kd.ri rfl (Kd.cr (ok' := fun k_ => ((fun _ => True)) k_ ∧ some k_ ≠ (u7 : Value).ownBlock) (Kd.kd (HO_9.out) (Kd.kC HO_7.out) (by decide)) (fun k_ hk => ⟨trivial, hk.2⟩))) (fun _ h_ => h_))); (case aF => exact (fun _ _ => trivial)); (case aO => exact zq4); (case aS => exact (gf (w := w) (g := g) (row := none) zq6)); (case aL => have := LMc17.out; omega); intro v518 w18 ho hb hg hat; rw [← Ny517.out] at ho; have n0_ := ab.mk (al.grown zq2 hg (al.Ek HI0.out HO_7.out (Nat.lt_of_lt_of_le (al.gl HI0.out) HL.out))); have n1_ := ab.mk (bR.Ax zq5 HL.out hb); have n2_ := ab.mk (aR.trans zq6 (aR.ko hg g) (Kd.wQ HO_7.out)); have n3_ := ab.mk (ho); clear HI0; clear HB; clear HK; clear HO_7; clear HO_9; have HI0 := n0_; have HB := n1_; have HK := n2_; have HO519 := n3_; clear n0_ n1_ n2_ n3_; clear ho hb hg hat)); try go_wp2)
     go_roundg k2
     case measure => have := HK1.out; have := HK2.out; omega
     case rel => exact ⟨(y517), (wrap64 (x8_1 + 1)), (x1001_2), (x1002_2), dQ, H', ⟨by have := HK1.out; have := HK2.out; omega⟩, ⟨by (with_reducible repeat (first | apply Kd.S_alloc | apply Kd.bN | apply Kd.b9)); exact HO519.out⟩, ⟨by repeat (first | (with_reducible first | exact HI0.out | apply al.alloc | apply al.drewN | apply al.drew | apply al.eL | apply al.eM) | exact HI0.out)⟩, ⟨by repeat (first | (with_reducible first | exact HK.out | apply aR.fv | apply cG | apply keep_drew | apply keep_alloc) | exact HK.out)⟩, ⟨by repeat (first | (with_reducible first | exact HB.out | apply bR.alloc_ | apply bR.eT | apply bR.drew_ | apply bR.fv) | exact HB.out)⟩⟩
    rw [if_pos c12] at H
    have c12b0 : decide (x10_2 < (wrap64 (1 + t502))) = true := decide_eq_true c12
    clear c12
    replace H := Option.bind_eq_some_iff.mp H
    obtain ⟨⟨t511, t512, t513⟩, A130, H⟩ := H
    replace H : (if x9_2.length < 17592186044416 then (ai.l1 k2 a1 (wrap64 (1 + t499)) (wrap64 (1 + t502)) x7_1 x8_1 (x9_2 ++ [wrap64 (t511 - 1)]) (wrap64 (x10_2 + 1)) s0_0 t512 t513) else (none)) = some (r1, r2, r3) := H
    have A13 := ab.mk A130
    clear A130
    by_cases c14 : x9_2.length < 17592186044416
    rotate_left
    ·rw [if_neg c14] at H
     exact absurd H (by simp)
    rw [if_pos c14] at H
    have LMc14 := ab.mk c14
    clear c14
    obtain ⟨y514, hy514⟩ : ∃ y_ : List Int, y_ = (x9_2 ++ [wrap64 (t511 - 1)]) := ⟨_, rfl⟩
    replace H : (ai.l1 k2 a1 (wrap64 (1 + t499)) (wrap64 (1 + t502)) x7_1 x8_1 y514 (wrap64 (x10_2 + 1)) s0_0 t512 t513) = some (r1, r2, r3) := by first | (rw [hy514]; with_reducible exact H) | (have H2_ := (Option.bind_some _ _).symm.trans H; rw [hy514]; with_reducible exact H2_) | (have H2_ := (Option.bind_some _ _).symm.trans H; with_reducible exact H2_) | with_reducible exact H | (rw [hy514]; exact H) | exact H
    have Ny514 := ab.mk hy514
    clear hy514
    have H' := ab.mk H
    clear H
    go_wp2_with (first | (go_at_call 147; (with_reducible refine (ak.calls (Bs := Bs) g s0_0 x1001_2 x1002_2 (wrap64 (a1 + 1)) t511 t512 t513 w0 _ ?side1 ?side2 A13.out).mono ?_); (case side1 => exact zq2); (case side2 => exact zq5); rintro e w15 ⟨rfl, hi, hb, hk⟩; have n0_ := ab.mk (Kd.ei (Kd.ph (al.eD (show al Bs w0 _ g s0_0 x1001_2 x1002_2 from by repeat (first | (with_reducible first | exact HI0.out | apply al.alloc | apply al.drewN | apply al.drew | apply al.eL | apply al.eM) | exact HI0.out)) AD (Nat.lt_of_lt_of_le (al.gl HI0.out) HL.out)) hk (fun _ h => h.2)) (fun _ h => h.1)); have n1_ := ab.mk (Kd.cr (Kd.Gf (al.apart (show al Bs w0 _ g s0_0 x1001_2 x1002_2 from by repeat (first | (with_reducible first | exact HI0.out | apply al.alloc | apply al.drewN | apply al.drew | apply al.eL | apply al.eM) | exact HI0.out)) KD (Nat.lt_of_lt_of_le (al.gl HI0.out) HL.out)) hk (fun _ h => h.2)) (fun _ h => h.1)); have n2_ := ab.mk (aR.trans zq6 hk (.inl rfl)); have n3_ := ab.mk (hb); have n4_ := ab.mk (hi); clear HO_7; clear HO_9; clear HK; clear HB; clear HI0; have HO_7 := n0_; have HO_9 := n1_; have HK := n2_; have HB := n3_; have HI0 := n4_; clear n0_ n1_ n2_ n3_ n4_; (try clear hb); (try clear hb2); (try clear hk); (try clear hi)) | ((with_reducible refine eE (b := .append) (xs := #[.tmp 33, .tmp 39]) rfl ?_); at_builtin; refine Kd.lp (Kd.int .i64) w.heap.size rfl (.tmp 33) (.tmp 39) 29 2 (.int .i64 0) 8 rfl Try.underlying29 zE rfl (by decide) (by omega) u9 x9_2 (wrap64 (t511 - 1)) [.int .i64 (wrap64 (t511 - 1))] (fun _ => True) (fun _ => False) rfl rfl ?aP (fun _ hk => hk.elim) ?aF ?aO (Below.refl _ _) ?aS ?aL ?_; (case aP => exact rfl); (case aF => exact (fun _ _ => trivial)); (case aO => exact KD); (case aS => exact (gf (w := w) (g := g) (row := none) zq6)); (case aL => have := LMc14.out; omega); intro v515 w16 ho hb hg hat; rw [← Ny514.out] at ho; have n0_ := ab.mk (Kd.kB (ok := (fun _ => True)) PB hg hat); have n1_ := ab.mk (al.grown zq2 hg (al.yn HI0.out HO_9.out (Nat.lt_of_lt_of_le (al.gl HI0.out) HL.out))); have n2_ := ab.mk (bR.Ax zq5 HL.out hb); have n3_ := ab.mk (aR.trans zq6 (aR.ko hg g) (Kd.mB HO_9.out)); have n4_ := ab.mk (ho); clear HO_7; clear HI0; clear HB; clear HK; clear HO_9; have HO_7 := n0_; have HI0 := n1_; have HB := n2_; have HK := n3_; have HO516 := n4_; clear n0_ n1_ n2_ n3_ n4_; clear ho hb hg hat))
    repeat (go_quiet (first | (go_at_call 147; (with_reducible refine (ak.calls (Bs := Bs) g s0_0 x1001_2 x1002_2 (wrap64 (a1 + 1)) t511 t512 t513 w0 _ ?side1 ?side2 A13.out).mono ?_); (case side1 => exact zq2); (case side2 => exact zq5); rintro e w15 ⟨rfl, hi, hb, hk⟩; have n0_ := ab.mk (Kd.ei (Kd.ph (al.eD (show al Bs w0 _ g s0_0 x1001_2 x1002_2 from by repeat (first | (with_reducible first | exact HI0.out | apply al.alloc | apply al.drewN | apply al.drew | apply al.eL | apply al.eM) | exact HI0.out)) AD (Nat.lt_of_lt_of_le (al.gl HI0.out) HL.out)) hk (fun _ h => h.2)) (fun _ h => h.1)); have n1_ := ab.mk (Kd.cr (Kd.Gf (al.apart (show al Bs w0 _ g s0_0 x1001_2 x1002_2 from by repeat (first | (with_reducible first | exact HI0.out | apply al.alloc | apply al.drewN | apply al.drew | apply al.eL | apply al.eM) | exact HI0.out)) KD (Nat.lt_of_lt_of_le (al.gl HI0.out) HL.out)) hk (fun _ h => h.2)) (fun _ h => h.1)); have n2_ := ab.mk (aR.trans zq6 hk (.inl rfl)); have n3_ := ab.mk (hb); have n4_ := ab.mk (hi); clear HO_7; clear HO_9; clear HK; clear HB; clear HI0; have HO_7 := n0_; have HO_9 := n1_; have HK := n2_; have HB := n3_; have HI0 := n4_; clear n0_ n1_ n2_ n3_ n4_; (try clear hb); (try clear hb2); (try clear hk); (try clear hi)) | ((with_reducible refine eE (b := .append) (xs := #[.tmp 33, .tmp 39]) rfl ?_); at_builtin; refine Kd.lp (Kd.int .i64) w.heap.size rfl (.tmp 33) (.tmp 39) 29 2 (.int .i64 0) 8 rfl Try.underlying29 zE rfl (by decide) (by omega) u9 x9_2 (wrap64 (t511 - 1)) [.int .i64 (wrap64 (t511 - 1))] (fun _ => True) (fun _ => False) rfl rfl ?aP (fun _ hk => hk.elim) ?aF ?aO (Below.refl _ _) ?aS ?aL ?_; (case aP => exact rfl); (case aF => exact (fun _ _ => trivial)); (case aO => exact KD); (case aS => exact (gf (w := w) (g := g) (row := none) zq6)); (case aL => have := LMc14.out; omega); intro v515 w16 ho hb hg hat; rw [← Ny514.out] at ho; have n0_ := ab.mk (Kd.kB (ok := (fun _ => True)) PB hg hat); have n1_ := ab.mk (al.grown zq2 hg (al.yn HI0.out HO_9.out (Nat.lt_of_lt_of_le (al.gl HI0.out) HL.out))); have n2_ := ab.mk (bR.Ax zq5 HL.out hb); have n3_ := ab.mk (aR.trans zq6 (aR.ko hg g) (Kd.mB HO_9.out)); have n4_ := ab.mk (ho); clear HO_7; clear HI0; clear HB; clear HK; clear HO_9; have HO_7 := n0_; have HI0 := n1_; have HB := n2_; have HK := n3_; have HO516 := n4_; clear n0_ n1_ n2_ n3_ n4_; clear ho hb hg hat)); try go_wp2)
    go_roundg k2
    case measure => have := HK1.out; have := HK2.out; omega
    case rel => exact ⟨(y514), (wrap64 (x10_2 + 1)), (t512), (t513), dQ, H', ⟨by have := HK1.out; have := HK2.out; omega⟩, ⟨by (with_reducible repeat (first | apply Kd.S_alloc | apply Kd.bN | apply Kd.b9)); exact Kd.ei HO_7.out (fun _ hk => hk.2)⟩, ⟨by (with_reducible repeat (first | apply Kd.R_alloc | apply Kd.bt | apply Kd.bV)); exact HO516.out⟩, ⟨by repeat (first | (with_reducible first | exact HI0.out | apply al.alloc | apply al.drewN | apply al.drew | apply al.eL | apply al.eM) | exact HI0.out)⟩, ⟨by repeat (first | (with_reducible first | exact HK.out | apply aR.fv | apply cG | apply keep_drew | apply keep_alloc) | exact HK.out)⟩, ⟨by repeat (first | (with_reducible first | exact HB.out | apply bR.alloc_ | apply bR.eT | apply bR.drew_ | apply bR.fv) | exact HB.out)⟩⟩
  rw [if_neg c9] at H
  have c9b0 : decide (x8_1 < (wrap64 (1 + t499))) = false := decide_eq_false c9
  clear c9
  replace H := Option.bind_eq_some_iff.mp H
  obtain ⟨⟨t520, t521, t522⟩, A200, H⟩ := H
  replace H : (if t520 = 0 then (ai.l2 k1 (wrap64 (1 + t502)) x7_1 0 s0_0 t521 t522) else (some (x7_1, t521, t522))) = some (r1, r2, r3) := H
  have A20 := ab.mk A200
  clear A200
  by_cases c21 : t520 = 0
  rotate_left
  ·rw [if_neg c21] at H
   have c21b0 : (t520 == 0) = false := beq_eq_false_iff_ne.mpr c21
   have c21b1 : (t520 != 0) = true := bne_iff_ne.mpr c21
   simp only [Option.some.injEq, Prod.mk.injEq] at H
   obtain ⟨rfl, rfl, rfl⟩ := H
   go_wp2_with (first | (go_at_call 147; (with_reducible refine (ak.calls (Bs := Bs) g s0_0 x1001_1 x1002_1 2 t520 t521 t522 w0 _ ?side1 ?side2 A20.out).mono ?_); (case side1 => exact zq2); (case side2 => exact zq5); rintro e w38 ⟨rfl, hi, hb, hk⟩; have n0_ := ab.mk (Kd.ei (Kd.ph (al.eD (show al Bs w0 _ g s0_0 x1001_1 x1002_1 from by repeat (first | (with_reducible first | exact HI0.out | apply al.alloc | apply al.drewN | apply al.drew | apply al.eL | apply al.eM) | exact HI0.out)) AD (Nat.lt_of_lt_of_le (al.gl HI0.out) HL.out)) hk (fun _ h => h.2)) (fun _ h => h.1)); have n1_ := ab.mk (aR.trans zq6 hk (.inl rfl)); have n2_ := ab.mk (hb); have n3_ := ab.mk (hi); clear HO_7; clear HK; clear HB; clear HI0; have HO_7 := n0_; have HK := n1_; have HB := n2_; have HI0 := n3_; clear n0_ n1_ n2_ n3_; (try clear hb); (try clear hb2); (try clear hk); (try clear hi)))
   repeat (go_quiet (first | (go_at_call 147; (with_reducible refine (ak.calls (Bs := Bs) g s0_0 x1001_1 x1002_1 2 t520 t521 t522 w0 _ ?side1 ?side2 A20.out).mono ?_); (case side1 => exact zq2); (case side2 => exact zq5); rintro e w38 ⟨rfl, hi, hb, hk⟩; have n0_ := ab.mk (Kd.ei (Kd.ph (al.eD (show al Bs w0 _ g s0_0 x1001_1 x1002_1 from by repeat (first | (with_reducible first | exact HI0.out | apply al.alloc | apply al.drewN | apply al.drew | apply al.eL | apply al.eM) | exact HI0.out)) AD (Nat.lt_of_lt_of_le (al.gl HI0.out) HL.out)) hk (fun _ h => h.2)) (fun _ h => h.1)); have n1_ := ab.mk (aR.trans zq6 hk (.inl rfl)); have n2_ := ab.mk (hb); have n3_ := ab.mk (hi); clear HO_7; clear HK; clear HB; clear HI0; have HO_7 := n0_; have HK := n1_; have HB := n2_; have HI0 := n3_; clear n0_ n1_ n2_ n3_; (try clear hb); (try clear hb2); (try clear hk); (try clear hi))); try go_wp2)
   go_ret
   exact ⟨_, by first | rfl | (simp [errW_none, errW_some] <;> rfl) | (simp [*, errW_none, errW_some] <;> rfl), by (with_reducible repeat (first | apply Kd.S_alloc | apply Kd.bN | apply Kd.b9)); exact HO_7.out, by repeat (first | (with_reducible first | exact HI0.out | apply al.alloc | apply al.drewN | apply al.drew | apply al.eL | apply al.eM) | exact HI0.out), by repeat (first | (with_reducible first | exact HB.out | apply bR.alloc_ | apply bR.eT | apply bR.drew_ | apply bR.fv) | exact HB.out), by repeat (first | (with_reducible first | exact HK.out | apply aR.fv | apply cG | apply keep_drew | apply keep_alloc) | exact HK.out)⟩
  rw [if_pos c21] at H
  have c21b0 : (t520 == 0) = true := beq_iff_eq.mpr c21
  have c21b1 : (t520 != 0) = false := bne_eq_false_iff_eq.mpr c21
  clear c21
  have H' := ab.mk H
  clear H
  go_wp2_with (first | (go_at_call 147; (with_reducible refine (ak.calls (Bs := Bs) g s0_0 x1001_1 x1002_1 2 t520 t521 t522 w0 _ ?side1 ?side2 A20.out).mono ?_); (case side1 => exact zq2); (case side2 => exact zq5); rintro e w22 ⟨rfl, hi, hb, hk⟩; have n0_ := ab.mk (Kd.ei (Kd.ph (al.eD (show al Bs w0 _ g s0_0 x1001_1 x1002_1 from by repeat (first | (with_reducible first | exact HI0.out | apply al.alloc | apply al.drewN | apply al.drew | apply al.eL | apply al.eM) | exact HI0.out)) AD (Nat.lt_of_lt_of_le (al.gl HI0.out) HL.out)) hk (fun _ h => h.2)) (fun _ h => h.1)); have n1_ := ab.mk (aR.trans zq6 hk (.inl rfl)); have n2_ := ab.mk (hb); have n3_ := ab.mk (hi); clear HO_7; clear HK; clear HB; clear HI0; have HO_7 := n0_; have HK := n1_; have HB := n2_; have HI0 := n3_; clear n0_ n1_ n2_ n3_; (try clear hb); (try clear hb2); (try clear hk); (try clear hi)))
  repeat (go_quiet (first | (go_at_call 147; (with_reducible refine (ak.calls (Bs := Bs) g s0_0 x1001_1 x1002_1 2 t520 t521 t522 w0 _ ?side1 ?side2 A20.out).mono ?_); (case side1 => exact zq2); (case side2 => exact zq5); rintro e w22 ⟨rfl, hi, hb, hk⟩; have n0_ := ab.mk (Kd.ei (Kd.ph (al.eD (show al Bs w0 _ g s0_0 x1001_1 x1002_1 from by repeat (first | (with_reducible first | exact HI0.out | apply al.alloc | apply al.drewN | apply al.drew | apply al.eL | apply al.eM) | exact HI0.out)) AD (Nat.lt_of_lt_of_le (al.gl HI0.out) HL.out)) hk (fun _ h => h.2)) (fun _ h => h.1)); have n1_ := ab.mk (aR.trans zq6 hk (.inl rfl)); have n2_ := ab.mk (hb); have n3_ := ab.mk (hi); clear HO_7; clear HK; clear HB; clear HI0; have HO_7 := n0_; have HK := n1_; have HB := n2_; have HI0 := n3_; clear n0_ n1_ n2_ n3_; (try clear hb); (try clear hb2); (try clear hk); (try clear hi))); try go_wp2)
  go_loopg [11] k1 (fun kq v11 w' => ∃ (x7_2 : List (List Int)) (x11_2 : Int), v11 = .int .i64 x11_2 ∧ ab (ai.l2 kq (wrap64 (1 + t502)) x7_2 x11_2 s0_0 t521 t522 = some (r1, r2, r3)) ∧ ab (kq ≤ k1) ∧ ab (Kd.S (Kd.slice 2 (Kd.int .i64)) 29 w' w.heap.size (fun _ => True) u7 x7_2) ∧ ab (al Bs w0 w' g s0_0 t521 t522) ∧ ab (aR w w' g none) ∧ ab (bR g w0 w'))
  case atStart => exact ⟨x7_1, (0), dQ, H', ⟨Nat.le_refl _⟩, ⟨by (with_reducible repeat (first | apply Kd.S_alloc | apply Kd.bN | apply Kd.b9)); exact HO_7.out⟩, ⟨by repeat (first | (with_reducible first | exact HI0.out | apply al.alloc | apply al.drewN | apply al.drew | apply al.eL | apply al.eM) | exact HI0.out)⟩, ⟨by repeat (first | (with_reducible first | exact HK.out | apply aR.fv | apply cG | apply keep_drew | apply keep_alloc) | exact HK.out)⟩, ⟨by repeat (first | (with_reducible first | exact HB.out | apply bR.alloc_ | apply bR.eT | apply bR.drew_ | apply bR.fv) | exact HB.out)⟩⟩
  clear H' c9b0 c21b0 c21b1
  obtain ⟨x7_2, x11_2, rfl, HA, HK2, HO_7, HI0, HK, HB⟩ := hrel
  cases gk with
  | zero => exact absurd HA.out (by simp [ai.l2])
  | succ k2 =>
   have H := HA.out
   clear HA
   simp only [ai.l2] at H
   by_cases c23 : x11_2 < (wrap64 (1 + t502))
   rotate_left
   ·rw [if_neg c23] at H
    have c23b0 : decide (x11_2 < (wrap64 (1 + t502))) = false := decide_eq_false c23
    clear c23
    simp only [Option.some.injEq, Prod.mk.injEq] at H
    obtain ⟨rfl, rfl, rfl⟩ := H
    go_wp2
    repeat (go_quiet (fail); try go_wp2)
    go_ret
    exact ⟨_, by first | rfl | (simp [errW_none, errW_some] <;> rfl) | (simp [*, errW_none, errW_some] <;> rfl), by (with_reducible repeat (first | apply Kd.S_alloc | apply Kd.bN | apply Kd.b9)); exact HO_7.out, by repeat (first | (with_reducible first | exact HI0.out | apply al.alloc | apply al.drewN | apply al.drew | apply al.eL | apply al.eM) | exact HI0.out), by repeat (first | (with_reducible first | exact HB.out | apply bR.alloc_ | apply bR.eT | apply bR.drew_ | apply bR.fv) | exact HB.out), by repeat (first | (with_reducible first | exact HK.out | apply aR.fv | apply cG | apply keep_drew | apply keep_alloc) | exact HK.out)⟩
   rw [if_pos c23] at H
   have c23b0 : decide (x11_2 < (wrap64 (1 + t502))) = true := decide_eq_true c23
   clear c23
   have H' := ab.mk H
   clear H
   obtain ⟨Ao24, co24, eo24⟩ := Kd.Dj HO_7.out
   subst eo24
   go_wp2
   repeat (go_quiet (fail); try go_wp2)
   go_loopg [55] k2 (fun kq v55 w' => ∃ (x7_3 : List (List Int)) (x55_3 : Int), v55 = .int .i64 x55_3 ∧ ab (ai.l3 kq (wrap64 (1 + t502)) x7_3 x11_2 (x7_2.length : Int) x55_3 s0_0 t521 t522 = some (r1, r2, r3)) ∧ ab (kq ≤ k2) ∧ ab (Kd.S (Kd.slice 2 (Kd.int .i64)) 29 w' w.heap.size (fun _ => True) (.slice Ao24 x7_2.length co24) x7_3) ∧ ab (al Bs w0 w' g s0_0 t521 t522) ∧ ab (aR w w' g none) ∧ ab (bR g w0 w'))
   case atStart => exact ⟨x7_2, (0), dQ, H', ⟨Nat.le_refl _⟩, ⟨by (with_reducible repeat (first | apply Kd.S_alloc | apply Kd.bN | apply Kd.b9)); exact HO_7.out⟩, ⟨by repeat (first | (with_reducible first | exact HI0.out | apply al.alloc | apply al.drewN | apply al.drew | apply al.eL | apply al.eM) | exact HI0.out)⟩, ⟨by repeat (first | (with_reducible first | exact HK.out | apply aR.fv | apply cG | apply keep_drew | apply keep_alloc) | exact HK.out)⟩, ⟨by repeat (first | (with_reducible first | exact HB.out | apply bR.alloc_ | apply bR.eT | apply bR.drew_ | apply bR.fv) | exact HB.out)⟩⟩
   clear H' c23b0
   obtain ⟨x7_3, x55_3, rfl, HA, HK3, HO_7, HI0, HK, HB⟩ := hrel
   have hl7_3 := ab.mk (Kd.dA HO_7.out).1
   cases gk with
   | zero => exact absurd HA.out (by simp [ai.l3])
   | succ k3 =>
    have H := HA.out
    clear HA
    simp only [ai.l3] at H
    by_cases c25 : x55_3 < (x7_2.length : Int)
    rotate_left
    ·rw [if_neg c25] at H
     have c25b0 : decide (x55_3 < (x7_2.length : Int)) = false := decide_eq_false c25
     clear c25
     have H' := ab.mk H
     clear H
     go_wp2
     repeat (go_quiet (fail); try go_wp2)
     go_roundg k3
     case measure => have := HK1.out; have := HK2.out; have := HK3.out; omega
     case rel => exact ⟨x7_3, (wrap64 (x11_2 + 1)), dQ, H', ⟨by have := HK1.out; have := HK2.out; have := HK3.out; omega⟩, ⟨by (with_reducible repeat (first | apply Kd.S_alloc | apply Kd.bN | apply Kd.b9)); exact HO_7.out⟩, ⟨by repeat (first | (with_reducible first | exact HI0.out | apply al.alloc | apply al.drewN | apply al.drew | apply al.eL | apply al.eM) | exact HI0.out)⟩, ⟨by repeat (first | (with_reducible first | exact HK.out | apply aR.fv | apply cG | apply keep_drew | apply keep_alloc) | exact HK.out)⟩, ⟨by repeat (first | (with_reducible first | exact HB.out | apply bR.alloc_ | apply bR.eT | apply bR.drew_ | apply bR.fv) | exact HB.out)⟩⟩
    rw [if_pos c25] at H
    have c25b0 : decide (x55_3 < (x7_2.length : Int)) = true := decide_eq_true c25
    clear c25
    have H' := ab.mk H
    clear H
    go_wp2
    repeat (go_quiet (fail); try go_wp2)
    go_loopg [13] k3 (fun kq v13 w' => ∃ (x7_4 : List (List Int)) (x13_4 : Int), v13 = .int .i64 x13_4 ∧ ab (ai.l4 kq (wrap64 (1 + t502)) x7_4 x11_2 x55_3 x13_4 (x7_2.length : Int) x55_3 s0_0 t521 t522 = some (r1, r2, r3)) ∧ ab (kq ≤ k3) ∧ ab (Kd.S (Kd.slice 2 (Kd.int .i64)) 29 w' w.heap.size (fun _ => True) (.slice Ao24 x7_2.length co24) x7_4) ∧ ab (al Bs w0 w' g s0_0 t521 t522) ∧ ab (aR w w' g none) ∧ ab (bR g w0 w'))
    case atStart => exact ⟨x7_3, (0), dQ, H', ⟨Nat.le_refl _⟩, ⟨by (with_reducible repeat (first | apply Kd.S_alloc | apply Kd.bN | apply Kd.b9)); exact HO_7.out⟩, ⟨by repeat (first | (with_reducible first | exact HI0.out | apply al.alloc | apply al.drewN | apply al.drew | apply al.eL | apply al.eM) | exact HI0.out)⟩, ⟨by repeat (first | (with_reducible first | exact HK.out | apply aR.fv | apply cG | apply keep_drew | apply keep_alloc) | exact HK.out)⟩, ⟨by repeat (first | (with_reducible first | exact HB.out | apply bR.alloc_ | apply bR.eT | apply bR.drew_ | apply bR.fv) | exact HB.out)⟩⟩
    clear H' c25b0
    obtain ⟨x7_4, x13_4, rfl, HA, HK4, HO_7, HI0, HK, HB⟩ := hrel
    have hl7_4 := ab.mk (Kd.dA HO_7.out).1
    cases gk with
    | zero => exact absurd HA.out (by simp [ai.l4])
    | succ k4 =>
     have H := HA.out
     clear HA
     simp only [ai.l4] at H
     rw [← hl7_4.out] at H
     by_cases c26 : x13_4 < x55_3
     rotate_left
     ·rw [if_neg c26] at H
      have c26b0 : decide (x13_4 < x55_3) = false := decide_eq_false c26
      clear c26
      have H' := ab.mk H
      clear H
      go_wp2
      repeat (go_quiet (fail); try go_wp2)
      go_roundg k4
      case measure => have := HK1.out; have := HK2.out; have := HK3.out; have := HK4.out; omega
      case rel => exact ⟨x7_4, (wrap64 (x55_3 + 1)), dQ, H', ⟨by have := HK1.out; have := HK2.out; have := HK3.out; have := HK4.out; omega⟩, ⟨by (with_reducible repeat (first | apply Kd.S_alloc | apply Kd.bN | apply Kd.b9)); exact HO_7.out⟩, ⟨by repeat (first | (with_reducible first | exact HI0.out | apply al.alloc | apply al.drewN | apply al.drew | apply al.eL | apply al.eM) | exact HI0.out)⟩, ⟨by repeat (first | (with_reducible first | exact HK.out | apply aR.fv | apply cG | apply keep_drew | apply keep_alloc) | exact HK.out)⟩, ⟨by repeat (first | (with_reducible first | exact HB.out | apply bR.alloc_ | apply bR.eT | apply bR.drew_ | apply bR.fv) | exact HB.out)⟩⟩
     rw [if_pos c26] at H
     have c26b0 : decide (x13_4 < x55_3) = true := decide_eq_true c26
     clear c26
     by_cases c27 : 0 ≤ x55_3
     rotate_left
     ·rw [if_neg c27] at H
      exact absurd H (by simp)
     rw [if_pos c27] at H
     have c27b0 : decide (0 ≤ x55_3) = true := decide_eq_true c27
     clear c27
     by_cases c28 : x55_3 < (x7_2.length : Int)
     rotate_left
     ·rw [if_neg c28] at H
      exact absurd H (by simp)
     rw [if_pos c28] at H
     have c28b0 : decide (x55_3 < (x7_2.length : Int)) = true := decide_eq_true c28
     clear c28
     by_cases c29 : 0 ≤ x11_2
     rotate_left
     ·rw [if_neg c29] at H
      exact absurd H (by simp)
     rw [if_pos c29] at H
     have c29b0 : decide (0 ≤ x11_2) = true := decide_eq_true c29
     clear c29
     by_cases c30 : x11_2 < ((cE x7_4 x55_3).length : Int)
     rotate_left
     ·rw [if_neg c30] at H
      exact absurd H (by simp)
     rw [if_pos c30] at H
     have c30b0 : decide (x11_2 < ((cE x7_4 x55_3).length : Int)) = true := decide_eq_true c30
     clear c30
     by_cases c31 : 0 ≤ x13_4
     rotate_left
     ·rw [if_neg c31] at H
      exact absurd H (by simp)
     rw [if_pos c31] at H
     have c31b0 : decide (0 ≤ x13_4) = true := decide_eq_true c31
     clear c31
     by_cases c32 : x13_4 < (x7_2.length : Int)
     rotate_left
     ·rw [if_neg c32] at H
      exact absurd H (by simp)
     rw [if_pos c32] at H
     have c32b0 : decide (x13_4 < (x7_2.length : Int)) = true := decide_eq_true c32
     clear c32
     by_cases c33 : x11_2 < ((cE x7_4 x13_4).length : Int)
     rotate_left
     ·rw [if_neg c33] at H
      exact absurd H (by simp)
     rw [if_pos c33] at H
     have c33b0 : decide (x11_2 < ((cE x7_4 x13_4).length : Int)) = true := decide_eq_true c33
     clear c33
     by_cases c34 : (rd (cE x7_4 x55_3) x11_2) = (rd (cE x7_4 x13_4) x11_2)
     rotate_left
     ·rw [if_neg c34] at H
      have c34b0 : ((rd (cE x7_4 x55_3) x11_2) == (rd (cE x7_4 x13_4) x11_2)) = false := beq_eq_false_iff_ne.mpr c34
      have c34b1 : ((rd (cE x7_4 x55_3) x11_2) != (rd (cE x7_4 x13_4) x11_2)) = true := bne_iff_ne.mpr c34
      have H' := ab.mk H
      clear H
      have p523 : 0 ≤ (x55_3 : Int) := of_decide_eq_true cm
      have q523 : x55_3 < (x7_2.length : Int) := of_decide_eq_true cm
      obtain ⟨ad523, A523_0, c523_0, e523, hx523_0, hl523_0, hi523_0⟩ := ze (Kd.dA HO_7.out).2.2 x55_3 p523 (by rw [← hl7_4.out]; exact q523)
      cases e523
      obtain ⟨ce523, hce523, hMe523, hcc523⟩ := Kd.y4 HO_7.out [] x55_3 p523 zq7
      obtain ⟨ve523_0, rfl, ge523_0⟩ := hMe523
      have hv523_0 := hcc523 0 _ rfl
      rw [Nat.add_zero, show ((Kd.slice 2 (Kd.int .i64))).sz = 1 from rfl, Nat.mul_one] at hv523_0
      replace hv523_0 := Option.some.inj (hv523_0.symm.trans hx523_0)
      rw [hv523_0] at ge523_0
      have HL523_0 := ab.mk (show Kd.R (Kd.int .i64) 2 _ _ _ _ (cE x7_4 x55_3) from ge523_0)
      clear hv523_0 ge523_0
      have HX523_0 := ab.mk hx523_0
      clear hcc523 hce523
      have HR523_0 := ab.mk hi523_0
      have HC523_0 := ab.mk hl523_0
      clear hi523_0 hl523_0
      replace p523 := eq_true p523
      replace q523 := eq_true q523
      have p524 : 0 ≤ (x11_2 : Int) := of_decide_eq_true cm
      have q524 : x11_2 < ((cE x7_4 x55_3).length : Int) := of_decide_eq_true cm
      obtain ⟨ad524, e524, hx524_0⟩ := Kd.dD zq0 x11_2 p524 q524
      cases e524
      replace p524 := eq_true p524
      replace q524 := eq_true q524
      have p525 : 0 ≤ (x13_4 : Int) := of_decide_eq_true cm
      have q525 : x13_4 < (x7_2.length : Int) := of_decide_eq_true cm
      obtain ⟨ad525, A525_0, c525_0, e525, hx525_0, hl525_0, hi525_0⟩ := ze (Kd.dA HO_7.out).2.2 x13_4 p525 (by rw [← hl7_4.out]; exact q525)
      obtain rfl : ad523 = ad525 := (by injection e525)
      obtain ⟨ce525, hce525, hMe525, hcc525⟩ := Kd.y4 HO_7.out [] x13_4 p525 zq8
      obtain ⟨ve525_0, rfl, ge525_0⟩ := hMe525
      have hv525_0 := hcc525 0 _ rfl
      rw [Nat.add_zero, show ((Kd.slice 2 (Kd.int .i64))).sz = 1 from rfl, Nat.mul_one] at hv525_0
      replace hv525_0 := Option.some.inj (hv525_0.symm.trans hx525_0)
      rw [hv525_0] at ge525_0
      have HL525_0 := ab.mk (show Kd.R (Kd.int .i64) 2 _ _ _ _ (cE x7_4 x13_4) from ge525_0)
      clear hv525_0 ge525_0
      have HX525_0 := ab.mk hx525_0
      clear hcc525 hce525
      have HR525_0 := ab.mk hi525_0
      have HC525_0 := ab.mk hl525_0
      clear hi525_0 hl525_0
      replace p525 := eq_true p525
      replace q525 := eq_true q525
      have p526 : 0 ≤ (x11_2 : Int) := of_decide_eq_true cm
      have q526 : x11_2 < ((cE x7_4 x13_4).length : Int) := of_decide_eq_true cm
      obtain ⟨ad526, e526, hx526_0⟩ := Kd.dD zq1 x11_2 p526 q526
      cases e526
      replace p526 := eq_true p526
      replace q526 := eq_true q526
      go_wp2
      repeat (go_quiet (fail); try go_wp2)
      go_roundg k4
      case measure => have := HK1.out; have := HK2.out; have := HK3.out; have := HK4.out; omega
      case rel => exact ⟨x7_4, (wrap64 (x13_4 + 1)), dQ, H', ⟨by have := HK1.out; have := HK2.out; have := HK3.out; have := HK4.out; omega⟩, ⟨by (with_reducible repeat (first | apply Kd.S_alloc | apply Kd.bN | apply Kd.b9)); exact HO_7.out⟩, ⟨by repeat (first | (with_reducible first | exact HI0.out | apply al.alloc | apply al.drewN | apply al.drew | apply al.eL | apply al.eM) | exact HI0.out)⟩, ⟨by repeat (first | (with_reducible first | exact HK.out | apply aR.fv | apply cG | apply keep_drew | apply keep_alloc) | exact HK.out)⟩, ⟨by repeat (first | (with_reducible first | exact HB.out | apply bR.alloc_ | apply bR.eT | apply bR.drew_ | apply bR.fv) | exact HB.out)⟩⟩
     rw [if_pos c34] at H
     have c34b0 : ((rd (cE x7_4 x55_3) x11_2) == (rd (cE x7_4 x13_4) x11_2)) = true := beq_iff_eq.mpr c34
     have c34b1 : ((rd (cE x7_4 x55_3) x11_2) != (rd (cE x7_4 x13_4) x11_2)) = false := bne_eq_false_iff_eq.mpr c34
     clear c34
     obtain ⟨y527, hy527⟩ : ∃ y_ : List Int, y_ = ((cE x7_4 x55_3).set (x11_2 : Int).toNat (-1)) := ⟨_, rfl⟩
     replace H : (ai.l4 k4 (wrap64 (1 + t502)) (x7_4.set (x55_3 : Int).toNat y527) x11_2 x55_3 (wrap64 (x13_4 + 1)) (x7_2.length : Int) x55_3 s0_0 t521 t522) = some (r1, r2, r3) := by first | (rw [hy527]; with_reducible exact H) | (have H2_ := (Option.bind_some _ _).symm.trans H; rw [hy527]; with_reducible exact H2_) | (have H2_ := (Option.bind_some _ _).symm.trans H; with_reducible exact H2_) | with_reducible exact H | (rw [hy527]; exact H) | exact H
     have Ny527 := ab.mk hy527
     clear hy527
     obtain ⟨y529, hy529⟩ : ∃ y_ : List (List Int), y_ = (x7_4.set (x55_3 : Int).toNat y527) := ⟨_, rfl⟩
     replace H : (ai.l4 k4 (wrap64 (1 + t502)) y529 x11_2 x55_3 (wrap64 (x13_4 + 1)) (x7_2.length : Int) x55_3 s0_0 t521 t522) = some (r1, r2, r3) := by first | (rw [hy529]; with_reducible exact H) | (have H2_ := (Option.bind_some _ _).symm.trans H; rw [hy529]; with_reducible exact H2_) | (have H2_ := (Option.bind_some _ _).symm.trans H; with_reducible exact H2_) | with_reducible exact H | (rw [hy529]; exact H) | exact H
     have Ny529 := ab.mk hy529
     clear hy529
     have H' := ab.mk H
     clear H
     have p523 : 0 ≤ (x55_3 : Int) := of_decide_eq_true cm
     have q523 : x55_3 < (x7_2.length : Int) := of_decide_eq_true cm
     obtain ⟨ad523, A523_0, c523_0, e523, hx523_0, hl523_0, hi523_0⟩ := ze (Kd.dA HO_7.out).2.2 x55_3 p523 (by rw [← hl7_4.out]; exact q523)
     cases e523
     obtain ⟨ce523, hce523, hMe523, hcc523⟩ := Kd.y4 HO_7.out [] x55_3 p523 zq7
     obtain ⟨ve523_0, rfl, ge523_0⟩ := hMe523
     have hv523_0 := hcc523 0 _ rfl
     rw [Nat.add_zero, show ((Kd.slice 2 (Kd.int .i64))).sz = 1 from rfl, Nat.mul_one] at hv523_0
     replace hv523_0 := Option.some.inj (hv523_0.symm.trans hx523_0)
     rw [hv523_0] at ge523_0
     have HL523_0 := ab.mk (show Kd.R (Kd.int .i64) 2 _ _ _ _ (cE x7_4 x55_3) from ge523_0)
     clear hv523_0 ge523_0
     have HX523_0 := ab.mk hx523_0
     clear hcc523 hce523
     have HR523_0 := ab.mk hi523_0
     have HC523_0 := ab.mk hl523_0
     clear hi523_0 hl523_0
     replace p523 := eq_true p523
     replace q523 := eq_true q523
     have p524 : 0 ≤ (x11_2 : Int) := of_decide_eq_true cm
     have q524 : x11_2 < ((cE x7_4 x55_3).length : Int) := of_decide_eq_true cm
     obtain ⟨ad524, e524, hx524_0⟩ := Kd.dD zq0 x11_2 p524 q524
     cases e524
     replace p524 := eq_true p524
     replace q524 := eq_true q524
     have p525 : 0 ≤ (x13_4 : Int) := of_decide_eq_true cm
     have q525 : x13_4 < (x7_2.length : Int) := of_decide_eq_true cm
     obtain ⟨ad525, A525_0, c525_0, e525, hx525_0, hl525_0, hi525_0⟩ := ze (Kd.dA HO_7.out).2.2 x13_4 p525 (by rw [← hl7_4.out]; exact q525)
     obtain rfl : ad523 = ad525 := (by injection e525)
     obtain ⟨ce525, hce525, hMe525, hcc525⟩ := Kd.y4 HO_7.out [] x13_4 p525 zq8
     obtain ⟨ve525_0, rfl, ge525_0⟩ := hMe525
     have hv525_0 := hcc525 0 _ rfl
     rw [Nat.add_zero, show ((Kd.slice 2 (Kd.int .i64))).sz = 1 from rfl, Nat.mul_one] at hv525_0
     replace hv525_0 := Option.some.inj (hv525_0.symm.trans hx525_0)
     rw [hv525_0] at ge525_0
     have HL525_0 := ab.mk (show Kd.R (Kd.int .i64) 2 _ _ _ _ (cE x7_4 x13_4) from ge525_0)
     clear hv525_0 ge525_0
     have HX525_0 := ab.mk hx525_0
     clear hcc525 hce525
     have HR525_0 := ab.mk hi525_0
     have HC525_0 := ab.mk hl525_0
     clear hi525_0 hl525_0
     replace p525 := eq_true p525
     replace q525 := eq_true q525
     have p526 : 0 ≤ (x11_2 : Int) := of_decide_eq_true cm
     have q526 : x11_2 < ((cE x7_4 x13_4).length : Int) := of_decide_eq_true cm
     obtain ⟨ad526, e526, hx526_0⟩ := Kd.dD zq1 x11_2 p526 q526
     cases e526
     replace p526 := eq_true p526
     replace q526 := eq_true q526
     have p35 : 0 ≤ (x11_2 : Int) := of_decide_eq_true cm
     have q35 : (x11_2 : Int) < (((cE x7_4 x55_3).length : Int) : Int) := of_decide_eq_true cm
     obtain ⟨go35, co35, eo35, gb35, gl35, cl35, HG35⟩ := Kd.rL HL523_0.out (by omega)
     (first | cases eo35 | (injection eo35 with ea_ en_ ec_; (first | subst ea_ | (injection ea_ with ea_; subst ea_)); subst ec_; clear en_))
     have GB35 := ab.mk gb35
     have GG35 := ab.mk HG35
     clear gb35 gl35 HG35
     (first | simp only [add_plain] at hx524_0 | skip)
     obtain ⟨hx35_0, hf35_0⟩ := Kd.kz 0 HL523_0.out (x11_2 : Int) p35 q35
     replace p35 := eq_true p35
     replace q35 := eq_true q35
     have hq36 : (x55_3 : Int) < (x7_2.length : Int) := (by have h_ : (x55_3 : Int) < ((x7_2.length : Int) : Int) := of_decide_eq_true cm; first | exact h_ | (have e_ := (Kd.dA HO_7.out).1; omega) | simpa only [List.length_set, List.length_set] using h_)
     obtain ⟨oki36, ce36, hcl36, hM36, hcc36, hok36, hbk36⟩ := Kd.rO HO_7.out [] (x55_3 : Int) (of_decide_eq_true cm) hq36
     obtain ⟨ve36_0, rfl, ge36_0⟩ := hM36
     have hv36 := hcc36 0 _ rfl
     rw [Nat.add_zero, show ((Kd.slice 2 (Kd.int .i64))).sz = 1 from rfl, Nat.mul_one] at hv36
     replace hv36 := Option.some.inj (hv36.symm.trans HX523_0.out)
     subst hv36
     clear hcc36 hcl36
     replace ge36_0 := (show Kd.R (Kd.int .i64) 2 _ _ _ _ (cE x7_4 x55_3) from ge36_0)
     have HP36 := Kd.pg ge36_0 (x11_2 : Int) (-1)
     go_wp2_with (first | ((with_reducible refine jq (t := 2) (p := 81) rfl ?_); (try (rw [sX wr]; generalize hq_ : World.drewN wr _ = wr; have n0_ := ab.mk (Kd.Oz hq_ HO_7.out); have n1_ := ab.mk (Kd.I0 hq_ HL523_0.out); have n5_ := ab.mk (Kd.I0 hq_ HL525_0.out); have n6_ := ab.mk (Ds hq_ HX523_0.out); have n2_ := ab.mk (al.at_ hq_ HI0.out); have n3_ := ab.mk (DP hq_ HK.out); have n4_ := ab.mk (bR.at_ hq_ HB.out); clear hq_ HO_7 HL523_0 HL525_0 HX523_0 HI0 HK HB; have HO_7 := n0_; have HL523_0 := n1_; have HL525_0 := n5_; have HX523_0 := n6_; have HI0 := n2_; have HK := n3_; have HB := n4_; clear n0_ n1_ n2_ n3_ n4_ n5_ n6_; obtain ⟨hx35_0, hf35_0⟩ := Kd.kz 0 HL523_0.out (x11_2 : Int) (of_eq_true p35) (of_eq_true q35); (try (have hq36 : (x55_3 : Int) < (x7_2.length : Int) := (by have h_ : (x55_3 : Int) < ((x7_2.length : Int) : Int) := of_decide_eq_true cm; first | exact h_ | (have e_ := (Kd.dA HO_7.out).1; omega) | simpa only [List.length_set, List.length_set] using h_))); (try (obtain ⟨oki36, ce36, hcl36, hM36, hcc36, hok36, hbk36⟩ := Kd.rO HO_7.out [] (x55_3 : Int) (of_decide_eq_true cm) hq36)); (try (obtain ⟨ve36_0, rfl, ge36_0⟩ := hM36)); (try (have hv36 := hcc36 0 _ rfl)); (try (rw [Nat.add_zero, show ((Kd.slice 2 (Kd.int .i64))).sz = 1 from rfl, Nat.mul_one] at hv36)); (try (replace hv36 := Option.some.inj (hv36.symm.trans HX523_0.out))); (try (subst hv36)); (try (clear hcc36 hcl36)); (try (replace ge36_0 := (show Kd.R (Kd.int .i64) 2 _ _ _ _ (cE x7_4 x55_3) from ge36_0))); (try (have HP36 := Kd.pg ge36_0 (x11_2 : Int) (-1))))); refine iC (t := 2) (p := 81) (v := ?vo_w37) (w1 := (wr.setCell ⟨go35, (x11_2 : Int).toNat, none⟩ (.int .i64 (-1)))) ?hg ?ho ?hn ?hr ?_; (case ho => rfl); (case hg => rfl); (case hn => rfl); (case hr => exact qf); intro w37 hw; have hg : wr.grownBy w37 (some go35) := (by rw [hw]; exact HP36.2); have hz_ : Kd.R (Kd.int .i64) 2 w37 w.heap.size oki36 (.slice (some ⟨go35, 0, none⟩) (cE x7_4 x55_3).length c523_0) y527 := (by rw [hw, Ny527.out]; exact HP36.1); have hp_ : Kd.S (Kd.slice 2 (Kd.int .i64)) 29 w37 w.heap.size (fun _ => True) (.slice (some ad523) x7_2.length co24) y529 := PC; have hm_ := Kd.cr hz_ hok36; clear HP36 hbk36; have n0_ := ab.mk (hp_); have n1_ := ab.mk (al.grown zq2 hg (al.yn HI0.out HL523_0.out (Nat.lt_of_lt_of_le (al.gl HI0.out) HL.out))); have n2_ := ab.mk ((by rw [hw]; exact bR.KV (HB.out) (Nat.le_trans HL.out GB35.out) : bR g w0 w37)); have n3_ := ab.mk (aR.trans zq6 (aR.ko hg g) (Kd.mB HL523_0.out)); have n4_ := ab.mk (hm_); have n5_ := ab.mk ((Kd.cQ hm_).2.1); clear HO_7; clear HI0; clear HB; clear HK; clear HL523_0; clear HL525_0; have HO_7 := n0_; have HI0 := n1_; have HB := n2_; have HK := n3_; have HL530 := n4_; have HC528 := n5_; clear n0_ n1_ n2_ n3_ n4_ n5_; clear hg hw hp_ hz_ hm_ hok36))
     repeat (go_quiet (fail); try go_wp2_with (first | ((with_reducible refine jq (t := 2) (p := 81) rfl ?_); (try (rw [sX wr]; generalize hq_ : World.drewN wr _ = wr; have n0_ := ab.mk (Kd.Oz hq_ HO_7.out); have n1_ := ab.mk (Kd.I0 hq_ HL523_0.out); have n5_ := ab.mk (Kd.I0 hq_ HL525_0.out); have n6_ := ab.mk (Ds hq_ HX523_0.out); have n2_ := ab.mk (al.at_ hq_ HI0.out); have n3_ := ab.mk (DP hq_ HK.out); have n4_ := ab.mk (bR.at_ hq_ HB.out); clear hq_ HO_7 HL523_0 HL525_0 HX523_0 HI0 HK HB; have HO_7 := n0_; have HL523_0 := n1_; have HL525_0 := n5_; have HX523_0 := n6_; have HI0 := n2_; have HK := n3_; have HB := n4_; clear n0_ n1_ n2_ n3_ n4_ n5_ n6_; obtain ⟨hx35_0, hf35_0⟩ := Kd.kz 0 HL523_0.out (x11_2 : Int) (of_eq_true p35) (of_eq_true q35); (try (have hq36 : (x55_3 : Int) < (x7_2.length : Int) := (by have h_ : (x55_3 : Int) < ((x7_2.length : Int) : Int) := of_decide_eq_true cm; first | exact h_ | (have e_ := (Kd.dA HO_7.out).1; omega) | simpa only [List.length_set, List.length_set] using h_))); (try (obtain ⟨oki36, ce36, hcl36, hM36, hcc36, hok36, hbk36⟩ := Kd.rO HO_7.out [] (x55_3 : Int) (of_decide_eq_true cm) hq36)); (try (obtain ⟨ve36_0, rfl, ge36_0⟩ := hM36)); (try (have hv36 := hcc36 0 _ rfl)); (try (rw [Nat.add_zero, show ((Kd.slice 2 (Kd.int .i64))).sz = 1 from rfl, Nat.mul_one] at hv36)); (try (replace hv36 := Option.some.inj (hv36.symm.trans HX523_0.out))); (try (subst hv36)); (try (clear hcc36 hcl36)); (try (replace ge36_0 := (show Kd.R (Kd.int .i64) 2 _ _ _ _ (cE x7_4 x55_3) from ge36_0))); (try (have HP36 := Kd.pg ge36_0 (x11_2 : Int) (-1))))); refine iC (t := 2) (p := 81) (v := ?vo_w37) (w1 := (wr.setCell ⟨go35, (x11_2 : Int).toNat, none⟩ (.int .i64 (-1)))) ?hg ?ho ?hn ?hr ?_; (case ho => rfl); (case hg => rfl); (case hn => rfl); (case hr => exact qf); intro w37 hw; have hg : wr.grownBy w37 (some go35) := (by rw [hw]; exact HP36.2); have hz_ : Kd.R (Kd.int .i64) 2 w37 w.heap.size oki36 (.slice (some ⟨go35, 0, none⟩) (cE x7_4 x55_3).length c523_0) y527 := (by rw [hw, Ny527.out]; exact HP36.1); have hp_ : Kd.S (Kd.slice 2 (Kd.int .i64)) 29 w37 w.heap.size (fun _ => True) (.slice (some ad523) x7_2.length co24) y529 := PC; have hm_ := Kd.cr hz_ hok36; clear HP36 hbk36; have n0_ := ab.mk (hp_); have n1_ := ab.mk (al.grown zq2 hg (al.yn HI0.out HL523_0.out (Nat.lt_of_lt_of_le (al.gl HI0.out) HL.out))); have n2_ := ab.mk ((by rw [hw]; exact bR.KV (HB.out) (Nat.le_trans HL.out GB35.out) : bR g w0 w37)); have n3_ := ab.mk (aR.trans zq6 (aR.ko hg g) (Kd.mB HL523_0.out)); have n4_ := ab.mk (hm_); have n5_ := ab.mk ((Kd.cQ hm_).2.1); clear HO_7; clear HI0; clear HB; clear HK; clear HL523_0; clear HL525_0; have HO_7 := n0_; have HI0 := n1_; have HB := n2_; have HK := n3_; have HL530 := n4_; have HC528 := n5_; clear n0_ n1_ n2_ n3_ n4_ n5_; clear hg hw hp_ hz_ hm_ hok36)))
     go_roundg k4
     case measure => have := HK1.out; have := HK2.out; have := HK3.out; have := HK4.out; omega
     case rel => exact ⟨y529, (wrap64 (x13_4 + 1)), dQ, H', ⟨by have := HK1.out; have := HK2.out; have := HK3.out; have := HK4.out; omega⟩, ⟨by (with_reducible repeat (first | apply Kd.S_alloc | apply Kd.bN | apply Kd.b9)); exact HO_7.out⟩, ⟨by repeat (first | (with_reducible first | exact HI0.out | apply al.alloc | apply al.drewN | apply al.drew | apply al.eL | apply al.eM) | exact HI0.out)⟩, ⟨by repeat (first | (with_reducible first | exact HK.out | apply aR.fv | apply cG | apply keep_drew | apply keep_alloc) | exact HK.out)⟩, ⟨by repeat (first | (with_reducible first | exact HB.out | apply bR.alloc_ | apply bR.eT | apply bR.drew_ | apply bR.fv) | exact HB.out)⟩⟩
end Go.Proofs.Ytcbhhbkghbnljaa.K
