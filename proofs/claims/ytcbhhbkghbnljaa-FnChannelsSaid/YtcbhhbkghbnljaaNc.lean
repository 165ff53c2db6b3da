/- From the print's contracts to plain functions of draws. Conditions: as each theorem states. My own. -/
import Derived.Test.YtcbhhbkghbnljaaFa
import Derived.Test.YtcbhhbkghbnljaaVc
import Derived.Deep.OwnRows
import Derived.Laws.CopyOwn
import Derived.Laws.MakeOwn
import Derived.Deep.LoopGhost
import Derived.Tactics
import Derived.WalkKit
import Derived.BigQuiet
import Derived.Deep.RegionLaw
import Derived.Deep.DeepCutAuto
import Derived.Handy
import Derived.OwnWalk
import Derived.Maps.AppendAt
import Derived.Test.YtcbhhbkghbnljaaNa
import Derived.Test.YtcbhhbkghbnljaaNb
section
set_option linter.unusedVariables false
set_option maxRecDepth 100000
namespace Go.Proofs.Ytcbhhbkghbnljaa.Vf
open Go Go.V Go.RowKit Go.Proofs
structure cJ (p : Prop) : Prop where mk :: (out : p)
abbrev bLT : Ty := .list (.int .i64)
def bRL (w : World) (N : Nat → Prop) (v : Value) (l : List Int) : Prop := Rc w N bLT l [v]
def bOw (w : World) (base : Nat) (v : Value) (l : List Int) : Prop := w.ownsRow base 2 1 v l.length (l.map (Value.int .i64))
theorem kE {w : World} {N : Nat → Prop} : ∀ {l : List Int} {xs : List Value}, cw w N (.int .i64) l xs ↔ xs = l.map (Value.int .i64)
 | [], xs => Iff.rfl
 | x :: l, xs => by
  constructor
  ·rintro ⟨c, d, e, h, k⟩
   have h : c = [Value.int .i64 x] := h
   rw [e, h, kE.1 k]; rfl
  ·intro h
   exact ⟨[Value.int .i64 x], l.map (Value.int .i64), h, rfl, kE.2 rfl⟩
theorem bOw.Gz {w : World} {base : Nat} {v : Value} {l : List Int} (h : bOw w base v l) : bOw w 0 v l := by
 refine ⟨h.1, ?_⟩
 rcases h.2 with h | ⟨g, cap, cur, e, hb, rest⟩
 ·exact .inl h
 ·exact .inr ⟨g, cap, cur, e, Nat.zero_le _, rest⟩
theorem bOw.rl {w : World} {base : Nat} {v : Value} {l : List Int} {N : Nat → Prop} (h : bOw w base v l) (hN : ∀ r, base ≤ r → ¬ N r) : bRL w N v l := by
 refine ue (t := .int .i64) (N := N) (show w.ownsRow 0 2 1 v (List.length l) _ from h.Gz) (kE.2 rfl) (fun _ h => h) (fun r hr => ?_)
 rcases h.2 with ⟨rfl, _⟩ | ⟨g, cap, cur, rfl, hb, rest⟩
 ·cases hr
 ·have e : g = r := by simpa [az] using hr
  exact hN r (by omega)
theorem bOw.jH {w w' : World} {base : Nat} {v : Value} {l : List Int} (h : bOw w base v l) (hk : ∀ r, base ≤ r → r < w.heap.size → w'.heap[r]? = w.heap[r]?) : bOw w' base v l := by
 refine ⟨h.1, ?_⟩
 rcases h.2 with h | ⟨g, cap, cur, e, hb, hg, rest⟩
 ·exact .inl h
 ·have hlt : g < w.heap.size := by
   rcases Nat.lt_or_ge g w.heap.size with c | c
   ·exact c
   ·rw [Array.getElem?_eq_none c] at hg; cases hg
  exact .inr ⟨g, cap, cur, e, hb, (hk g hb hlt).trans hg, rest⟩
theorem bOw.mono {w : World} {base base' : Nat} {v : Value} {l : List Int} (h : bOw w base v l) (hb : base' ≤ base) : bOw w base' v l := by
 refine ⟨h.1, ?_⟩
 rcases h.2 with h | ⟨g, cap, cur, e, hg, rest⟩
 ·exact .inl h
 ·exact .inr ⟨g, cap, cur, e, Nat.le_trans hb hg, rest⟩
theorem bRL.jH {w w' : World} {N N' : Nat → Prop} {v : Value} {l : List Int} (h : bRL w N v l) (hk : ∀ r, ¬ N r → r < w.heap.size → ¬ N' r ∧ w'.heap[r]? = w.heap[r]?) : bRL w' N' v l := by
 refine Rc.move (fun r o hn ho => ?_) h
 have hlt : r < w.heap.size := by
  rcases Nat.lt_or_ge r w.heap.size with c | c
  ·exact c
  ·rw [Array.getElem?_eq_none c] at ho; cases ho
 exact ⟨(hk r hn hlt).1, (hk r hn hlt).2.trans ho⟩
theorem bRL.one {w : World} {N : Nat → Prop} {v : Value} {l : List Int} (h : bRL w N v l) : v.oneCell' = true := Rc.fR h v (List.mem_singleton.2 rfl)
end Go.Proofs.Ytcbhhbkghbnljaa.Vf
end
section
set_option linter.unusedVariables false
set_option maxRecDepth 100000
namespace Go.Proofs.Ytcbhhbkghbnljaa.Vf
open Go Go.V Go.RowKit Go.Proofs
abbrev nST : Ty := .struct (.pair (.list (.int .u8)) (.pair (.int .i64) (.int .u64)))
abbrev dg := List Int × Int × Int
def km (w : World) (B : Nat → Prop) (r : Nat) (s : dg) : Prop := ∃ vs e, w.heap[r]? = some (.cells (List.toArray vs) e (0, 0)) ∧ Rc w (fun q => B q ∨ q = r) nST s vs
theorem jv {w : World} {b : Nat} {o : Obj} (e : w.heap[b]? = some o) : b < w.heap.size := by
 rcases Nat.lt_or_ge b w.heap.size with c | c
 ·exact c
 ·rw [Array.getElem?_eq_none c] at e; cases e
theorem km.jH {w w' : World} {B B' : Nat → Prop} {r : Nat} {s : dg} (h : km w B r s) (hk : ∀ q, q < w.heap.size → ¬ B q → w'.heap[q]? = w.heap[q]?) (hB : ∀ q, q < w.heap.size → B' q → B q) (hr : ¬ B r) : km w' B' r s := by
 obtain ⟨vs, e, h1, h2⟩ := h
 have hl := jv h1
 refine ⟨vs, e, (hk r hl hr).trans h1, Rc.move (fun q o hn ho => ?_) h2⟩
 have hq := jv ho
 have nb : ¬ B q := fun x => hn (Or.inl x)
 exact ⟨fun x => hn (x.imp (hB q hq) id), (hk q hq nb).trans ho⟩
theorem LQ {w : World} {B : Nat → Prop} {r : Nat} {s s' : dg} {n y : Int} (hs : km w B r s) (hB : ∀ q, B q → q < w.heap.size ∧ q ≠ r) (hy : ak.f s n = some (y, s')) :
  Calls Try.prog 147 #[.pointer (some ⟨r, 0, none⟩), .int .i64 n] w fun e w' => e = .returned (.int .i64 y) ∧ km w' B r s' ∧ dX w w' (fun q => q = r) := by
 obtain ⟨vs, et, h1, h2⟩ := hs
 refine ((uH 0).calls w B [.pointer (some ⟨r, 0, none⟩), .int .i64 n] [.pointer (some ⟨r, 0, none⟩), .int .i64 n] (s, n) (y, s') ?_ ?_ ?_ ?_ hy).mono ?_
 ·exact ⟨_, _, _, rfl, rfl, rfl, rfl, _, _, _, rfl, rfl, rfl, rfl, rfl, rfl⟩
 ·intro q hq
  refine ⟨(hB q hq).1, ?_⟩
  show q ∉ [r]
  simpa using (hB q hq).2
 ·refine ⟨_, _, rfl, ⟨r, vs, et, rfl, h1, by decide, ?_⟩, _, rfl, rfl⟩
  exact Rc.weaken (fun q hq => by
   rcases hq with hq | hq
   ·exact Or.inl hq
   ·have hq : q ∈ [r] := hq
    exact Or.inr (by simpa using hq)) h2
 ·show [r].Nodup
  simp
 ·rintro e w' ⟨u, vs', rc, rfl, hg, hc, hf, hp, -, -⟩
  obtain ⟨v1, vs1, cs1, -, rfl, -, rfl, rfl, rfl⟩ := hc
  obtain ⟨u1, us, e1, p1, u2, e2, p2⟩ := hp
  obtain ⟨rfl, rfl⟩ := List.cons.inj e1
  obtain ⟨rfl, -⟩ := List.cons.inj e2
  have p1 : [v1] = [Value.int .i64 y] := p1
  cases p1
  have hg : u = _ := hg
  subst hg
  obtain ⟨r', vs2, et2, e3, h3, -, h4⟩ := p2
  cases e3
  refine ⟨rfl, ⟨vs2, et2, h3, Rc.weaken (fun q hq => ?_) h4⟩, ⟨hf.os, hf.tape, hf.output, hf.size, fun q hq hn => hf.block q hq (fun x => hn ?_)⟩⟩
  ·rcases hq with hq | hq
   ·exact Or.inl hq
   ·exact Or.inr (Or.inl (by rw [hq]; show r ∈ [r]; simp))
  ·have x : q ∈ [r] := x
   simpa using x
def nBl (v : Value) (hs : List Value) (q : Nat) : Prop := az v = some q ∨ ∃ h ∈ hs, az h = some q
structure lY (w : World) (v : Value) (hs : List Value) (ls : List (List Int)) : Prop where
 hd : w.ownsRow 0 29 1 v ls.length hs
 el : ∀ i : Nat, i < ls.length → bOw w 0 (hs.getD i undef) (ls.getD i [])
 far : ∀ i : Nat, i < ls.length → ∀ q, az (hs.getD i undef) = some q → az v ≠ some q
 dis : ∀ i j : Nat, i < ls.length → j < ls.length → i ≠ j → ∀ q, az (hs.getD i undef) = some q → az (hs.getD j undef) ≠ some q
theorem lY.len {w : World} {v : Value} {hs : List Value} {ls : List (List Int)} (h : lY w v hs ls) : hs.length = ls.length := by have := h.hd.1; omega
theorem bOw.block {w : World} {base : Nat} {v : Value} {l : List Int} (h : bOw w base v l) {q : Nat} (hq : az v = some q) : q < w.heap.size ∧ base ≤ q := by
 rcases h.2 with ⟨rfl, _⟩ | ⟨g, cap, cur, rfl, hb, hg, _⟩
 ·cases hq
 ·have e : g = q := by simpa [az] using hq
  subst e
  exact ⟨jv hg, hb⟩
theorem FH.block {w : World} {base : Nat} {e : TypeId} {size : Nat} {v : Value} {n : Nat} {xs : List Value} (h : w.ownsRow base e size v n xs) {q : Nat} (hq : az v = some q) : q < w.heap.size ∧ base ≤ q := by
 rcases h.2 with ⟨rfl, _⟩ | ⟨g, cap, cur, rfl, hb, hg, _⟩
 ·cases hq
 ·have e : g = q := by simpa [az] using hq
  subst e
  exact ⟨jv hg, hb⟩
theorem lY.block {w : World} {v : Value} {hs : List Value} {ls : List (List Int)} (h : lY w v hs ls) {q : Nat} (hq : nBl v hs q) : q < w.heap.size := by
 rcases hq with hq | ⟨x, hx, hq⟩
 ·exact (FH.block h.hd hq).1
 ·obtain ⟨i, hi, rfl⟩ := List.mem_iff_getElem.1 hx
  have e : hs.getD i undef = hs[i] := by rw [List.getD_eq_getElem?_getD, List.getElem?_eq_getElem hi, Option.getD_some]
  exact ((h.el i (by rw [← h.len]; exact hi)).block (by rw [e]; exact hq)).1
theorem lY.jH {w w' : World} {v : Value} {hs : List Value} {ls : List (List Int)} (h : lY w v hs ls) (hk : ∀ q, nBl v hs q → w'.heap[q]? = w.heap[q]?) : lY w' v hs ls := by
 have hlen := h.len
 refine ⟨cT h.hd fun q hq => hk q (Or.inl hq), fun i hi => ?_, h.far, h.dis⟩
 have := h.el i hi
 refine cT this fun q hq => hk q (Or.inr ⟨_, ?_, hq⟩)
 rw [List.getD_eq_getElem?_getD, List.getElem?_eq_getElem (by omega), Option.getD_some]
 exact List.getElem_mem _
end Go.Proofs.Ytcbhhbkghbnljaa.Vf
end
section
set_option linter.unusedVariables false
set_option maxRecDepth 100000
namespace Go.Proofs.Ytcbhhbkghbnljaa.Vf
open Go Go.V Go.RowKit Go.Proofs
open Go.Proofs.YtcbhhbkghbnljaaW.PrintWords (Kd aR)
theorem D9 {w : World} {N : Nat → Prop} {k : IntKind} : ∀ {l : List Int} {A : Option Addr} {cap : Nat}, Rc w N (.list (.int k)) l [.slice A l.length cap] → l.length ≤ 9223372036854775807 → Kd.C (Kd.int k) w A l.length l ∧ l.length ≤ cap ∧ (A = none → cap = 0) ∧ ∀ a : Addr, A = some a → l ≠ [] → ¬ N a.block := by
 rintro l A cap ⟨A', cap', e, h1, h2, h3⟩ hl
 injection e with e _
 injection e with e1 e2 e3
 subst e1; subst e3
 refine ⟨⟨rfl, hl, fun hp => ?_⟩, h1, h2, ?_⟩
 ·obtain ⟨a, ea, -⟩ := h3 0 hp
  refine ⟨a, ea, fun j p hj => ?_⟩
  obtain ⟨hlt, hp'⟩ := List.getElem?_eq_some_iff.1 hj
  obtain ⟨a', ea', c, hc, hat, hv⟩ := h3 j hlt
  rw [ea] at ea'; obtain rfl := Option.some.inj ea'
  have hv : c = [Value.int k (l.get ⟨j, hlt⟩)] := hv
  refine ⟨c, by rw [hv]; rfl, by rw [hv]; show [Value.int k (l.get ⟨j, hlt⟩)] = [Value.int k p]; rw [← hp']; rfl, fun i u hu => ?_⟩
  obtain ⟨hi, rfl⟩ := List.getElem?_eq_some_iff.1 hu
  have hi1 : i = 0 := by rw [hv] at hi; simp at hi; exact hi
  subst hi1
  have := (hat 0 hi).2
  rw [show (a.add (j * (Kd.int k).sz + 0)) = ((a.add (j * (Ty.int k).size)).add 0) from (add_add _ _ _).symm]
  exact this
 ·rintro a rfl hne
  have hp : 0 < l.length := List.length_pos_iff.2 hne
  obtain ⟨a', ea', c, hc, hat, hv⟩ := h3 0 hp
  obtain rfl := Option.some.inj ea'
  have := (hat 0 (by rw [hc]; exact Nat.one_pos)).1
  rwa [eo, eo] at this
theorem QY {w : World} {N : Nat → Prop} {k : IntKind} {l : List Int} {A : Option Addr} {cap : Nat} (h : Kd.C (Kd.int k) w A l.length l) (h1 : l.length ≤ cap) (h2 : A = none → cap = 0) (h3 : ∀ a : Addr, A = some a → l ≠ [] → ¬ N a.block) : Rc w N (.list (.int k)) l [.slice A l.length cap] := by
 refine ⟨A, cap, rfl, h1, h2, fun i hi => ?_⟩
 have hi' : i < l.length := hi
 obtain ⟨a, ea, hc⟩ := h.2.2 (by omega)
 obtain ⟨c, hcl, hcv, hcc⟩ := hc i l[i] (List.getElem?_eq_getElem hi')
 have hcv : c = [Value.int k l[i]] := hcv
 refine ⟨a, ea, c, hcl, fun j hj => ?_, hcv⟩
 refine ⟨by rw [eo, eo]; exact h3 a ea (fun e => by rw [e] at hi'; simp at hi'), ?_⟩
 have := hcc j c[j] (List.getElem?_eq_getElem hj)
 rwa [show a.add (i * (Kd.int k).sz + j) = (a.add (i * (Ty.int k).size)).add j from (add_add _ _ _).symm] at this
theorem LM {w w' : World} {r : Nat} {k : IntKind} {l : List Int} {A : Option Addr} (h : Kd.C (Kd.int k) w A l.length l) (hr : ∀ a : Addr, A = some a → l ≠ [] → a.block ≠ r) (hb : K.bR r w w') : Kd.C (Kd.int k) w' A l.length l := by
 refine ⟨rfl, h.2.1, fun hp => ?_⟩
 obtain ⟨a, ea, hc⟩ := h.2.2 hp
 refine ⟨a, ea, fun j p hj => ?_⟩
 obtain ⟨c, h1, h2, h3⟩ := hc j p hj
 refine ⟨c, h1, h2, fun i u hu => ?_⟩
 have hx := h3 i u hu
 have hlt := World.block_lt_of_cell? _ _ hx
 rw [show (a.add (j * (Kd.int k).sz + i)).block = a.block from eo _ _] at hlt
 refine Eq.trans ?_ hx
 have hn : a.block ≠ r := hr a ea (fun e => by rw [e] at hp; simp at hp)
 exact World.cell?_of_block (hb.block _ (by rw [eo]; exact hlt) (by rw [eo]; exact hn))
theorem QW {w : World} {B : Nat → Prop} {r : Nat} {s : dg} (h : km w B r s) (hl : s.1.length ≤ 9223372036854775807) : K.al B w w r s.1 s.2.1 s.2.2 := by
 obtain ⟨vs, e, h1, h2⟩ := h
 have hlt := jv h1
 obtain ⟨c, d, e1, h3, c2, d2, e2, h4, h5⟩ := h2
 have h4 : c2 = [.int .i64 s.2.1] := h4
 have h5 : d2 = [.int .u64 s.2.2] := h5
 have h3 : Rc w (fun q => B q ∨ q = r) (.list (.int .u8)) s.1 c := h3
 obtain ⟨A, cap, e3, -⟩ := id h3
 have e3 : c = [.slice A s.1.length cap] := e3
 subst e3; subst h4; subst h5; subst e2; subst e1
 obtain ⟨q1, q2, q3, q4⟩ := D9 h3 hl
 have hr : ∀ a : Addr, A = some a → s.1 ≠ [] → a.block ≠ r := fun a ha hn hx => q4 a ha hn (Or.inr hx)
 exact ⟨A, cap, e, h1, ⟨hlt, q2, q3, fun a ha hn => ⟨hr a ha hn, fun hx => q4 a ha hn (Or.inl hx)⟩⟩, fun W' hW => LM q1 hr hW⟩
theorem QX {w w' : World} {B B' : Nat → Prop} {r : Nat} {l : List Int} {p q : Int} (h : K.al B w w' r l p q) (hb : K.bR r w w') (hB : ∀ k, k < w.heap.size → B' k → B k) : km w' B' r (l, p, q) := by
 obtain ⟨A, c, et, h1, ⟨-, h2, h3, h4⟩, h5⟩ := h
 refine ⟨_, et, h1, ?_⟩
 have hc := h5 w' hb
 have h0 := h5 w (K.bR.refl _ _)
 refine ⟨[.slice A l.length c], [.int .i64 p, .int .u64 q], rfl, ?_, [.int .i64 p], [.int .u64 q], rfl, rfl, rfl⟩
 show Rc w' (fun k => B' k ∨ k = r) (.list (.int .u8)) l [.slice A l.length c]
 refine QY hc h2 h3 fun a ha hn hx => ?_
 have hlt : a.block < w.heap.size := by
  have hp : 0 < l.length := List.length_pos_iff.2 hn
  obtain ⟨a', ea, hcc⟩ := h0.2.2 hp
  rw [ea] at ha; obtain rfl := Option.some.inj ha
  obtain ⟨c', g1, g2, g3⟩ := hcc 0 l[0] (List.getElem?_eq_getElem hp)
  have g1 : c'.length = 1 := g1
  have := World.block_lt_of_cell? _ _ (g3 0 c'[0] (List.getElem?_eq_getElem (by omega)))
  rwa [show (a'.add (0 * (Kd.int .u8).sz + 0)).block = a'.block from eo _ _] at this
 rcases hx with hx | hx
 ·exact (h4 a ha hn).2 (hB _ hlt hx)
 ·exact (h4 a ha hn).1 hx
theorem pR {w : World} {base : Nat} {e : TypeId} {size : Nat} {v : Value} {n : Nat} {xs : List Value} (h : w.ownsRow base e size v n xs) {q : Nat} : v.ownBlock = some q ↔ az v = some q := by
 rcases h.2 with ⟨rfl, _⟩ | ⟨g, cap, cur, rfl, _⟩ <;> simp [Value.ownBlock, az]
theorem Ha {xs : List Int} {inner : List Value} {w : World} {base : Nat} {ok : Nat → Prop} (h : Go.Proofs.YtcbhhbkghbnljaaW.PrintWords.dC ((Kd.int .i64).M w base ok) 1 xs inner) : inner = xs.map (Value.int .i64) := by
 obtain ⟨h1, h2⟩ := h
 refine List.ext_getElem (by rw [h1, List.length_map]; omega) fun i a b => ?_
 have hx : i < xs.length := by rw [List.length_map] at b; exact b
 have := h2 i xs[i] (List.getElem?_eq_getElem hx)
 have : (inner.drop (i * 1)).take 1 = [Value.int .i64 xs[i]] := this
 rw [Nat.mul_one] at this
 have h0 : ((inner.drop i).take 1)[0]? = some (Value.int .i64 xs[i]) := by rw [this]; rfl
 rw [List.getElem?_take_of_lt (by omega), List.getElem?_drop, Nat.add_zero, List.getElem?_eq_getElem a] at h0
 rw [Option.some.inj h0, List.getElem_map]
theorem KQ {w : World} {base : Nat} {ok : Nat → Prop} {v : Value} {ls : List (List Int)} (h : Kd.S (Kd.slice 2 (Kd.int .i64)) 29 w base ok v ls) : ∃ hs, lY w v hs ls ∧ ∀ q, nBl v hs q → base ≤ q := by
 obtain ⟨f, -, inner, ho, hr⟩ := h
 rw [List.length_zipIdx] at ho
 have hlen : inner.length = ls.length := by have := ho.1; have h1 : inner.length = ls.length * 1 := this; omega
 have hel : ∀ i : Nat, i < ls.length → bOw w base (inner.getD i undef) (ls.getD i []) ∧ ∀ q, az (inner.getD i undef) = some q → az v ≠ some q ∧ f q = i := by
  intro i hi
  have := hr.2 i (ls[i], i) (by rw [List.getElem?_zipIdx, List.getElem?_eq_getElem hi]; simp)
  obtain ⟨u, hu, hok, inn, ho2, hr2⟩ := this
  have hu : (inner.drop (i * 1)).take 1 = [u] := hu
  rw [Nat.mul_one] at hu
  have h0 : ((inner.drop i).take 1)[0]? = some u := by rw [hu]; rfl
  rw [List.getElem?_take_of_lt (by omega), List.getElem?_drop, Nat.add_zero] at h0
  have e1 : inner.getD i undef = u := by rw [List.getD_eq_getElem?_getD, h0]; rfl
  have e2 : ls.getD i [] = ls[i] := by rw [List.getD_eq_getElem?_getD, List.getElem?_eq_getElem hi]; rfl
  rw [e1, e2]
  have := Ha hr2
  subst this
  refine ⟨ho2, fun q hq => ?_⟩
  obtain ⟨⟨-, c1⟩, c2⟩ := hok q ((pR ho2).2 hq)
  exact ⟨fun hv => c1 ((pR ho).2 hv).symm, c2⟩
 refine ⟨inner, ⟨?_, fun i hi => (hel i hi).1.Gz, fun i hi q hq => ((hel i hi).2 q hq).1, fun i j hi hj hne q hq hq2 => hne ?_⟩, ?_⟩
 ·refine ⟨ho.1, ?_⟩
  rcases ho.2 with h | ⟨g, cap, cur, e, hb, rest⟩
  ·exact .inl h
  ·exact .inr ⟨g, cap, cur, e, Nat.zero_le _, rest⟩
 ·rw [← ((hel i hi).2 q hq).2, ((hel j hj).2 q hq2).2]
 ·rintro q (hq | ⟨x, hx, hq⟩)
  ·exact (FH.block ho hq).2
  ·obtain ⟨i, hi, rfl⟩ := List.mem_iff_getElem.1 hx
   have e : inner.getD i undef = inner[i] := by rw [List.getD_eq_getElem?_getD, List.getElem?_eq_getElem hi, Option.getD_some]
   exact ((hel i (by omega)).1.block (by rw [e]; exact hq)).2
end Go.Proofs.Ytcbhhbkghbnljaa.Vf
end
section
set_option linter.unusedVariables false
set_option maxRecDepth 100000
namespace Go.Proofs.Ytcbhhbkghbnljaa.Vf
open Go Go.V Go.RowKit Go.Proofs
open Go.Proofs.YtcbhhbkghbnljaaW.PrintWords (Kd aR)
structure nS (w W : World) (X : Nat → Prop) (b2 b5 g : Nat) (s : dg) (vt : Value) (lt : List Int) (v : Value) (hs : List Value) (ls : List (List Int)) : Prop where
 src : km W (fun q => X q ∨ q = b2 ∨ q = b5 ∨ nBl v hs q) g s
 tt : bOw W w.heap.size vt lt
 row : lY W v hs ls
 new : ∀ q, nBl v hs q → w.heap.size ≤ q ∧ q ≠ b2 ∧ q ≠ b5 ∧ q ≠ g ∧ az vt ≠ some q
 tn : ∀ q, az vt = some q → q ≠ b2 ∧ q ≠ b5 ∧ q ≠ g
 c2 : W.heap[b2]? = some (.cells #[.slice none 0 0] 35 (0, 0))
 c5 : W.heap[b5]? = some (.cells #[vt] 35 (0, 0))
 far : w.heap.size ≤ b2 ∧ w.heap.size ≤ b5 ∧ w.heap.size ≤ g ∧ b2 ≠ g ∧ b5 ≠ g ∧ b2 ≠ b5
 old : ∀ q, X q → q < w.heap.size
 fr : Below w.heap.size w W
theorem nS.gl {w W : World} {X : Nat → Prop} {b2 b5 g : Nat} {s : dg} {vt : Value} {lt : List Int} {v : Value} {hs : List Value} {ls : List (List Int)} (h : nS w W X b2 b5 g s vt lt v hs ls) : g < W.heap.size := by
 obtain ⟨vs, e, h1, -⟩ := h.src
 exact jv h1
theorem nS.inB {w W : World} {X : Nat → Prop} {b2 b5 g : Nat} {s : dg} {vt : Value} {lt : List Int} {v : Value} {hs : List Value} {ls : List (List Int)} (h : nS w W X b2 b5 g s vt lt v hs ls) :
  ∀ q, (X q ∨ q = b2 ∨ q = b5 ∨ nBl v hs q) → q < W.heap.size ∧ q ≠ g := by
 rintro q (hq | rfl | rfl | hq)
 ·have := h.old q hq; have := h.far; exact ⟨Nat.lt_of_lt_of_le (h.old q hq) h.fr.size, by omega⟩
 ·exact ⟨jv h.c2, h.far.2.2.2.1⟩
 ·exact ⟨jv h.c5, h.far.2.2.2.2.1⟩
 ·exact ⟨h.row.block hq, (h.new q hq).2.2.2.1⟩
theorem nS.jP {w W W' : World} {X : Nat → Prop} {b2 b5 g : Nat} {s : dg} {vt : Value} {lt : List Int} {v : Value} {hs : List Value} {ls : List (List Int)} (h : nS w W X b2 b5 g s vt lt v hs ls) (hb : Below W.heap.size W W') : nS w W' X b2 b5 g s vt lt v hs ls :=
 {src := h.src.jH (fun q hq _ => hb.block q hq) (fun _ _ => id) (fun hg => (h.inB g hg).2 rfl)
  tt := bOw.jH h.tt fun r _ hr => hb.block r hr
  row := h.row.jH fun q hq => hb.block q (h.row.block hq)
  new := h.new
  tn := h.tn
  c2 := (hb.block _ (jv h.c2)).trans h.c2
  c5 := (hb.block _ (jv h.c5)).trans h.c5
  far := h.far
  old := h.old
  fr := h.fr.trans (hb.mono h.fr.size) }
theorem nS.drawn {w W W' : World} {X : Nat → Prop} {b2 b5 g : Nat} {s s' : dg} {vt : Value} {lt : List Int} {v : Value} {hs : List Value} {ls : List (List Int)} (h : nS w W X b2 b5 g s vt lt v hs ls) (hf : dX W W' (fun q => q = g)) (hs' : km W' (fun q => X q ∨ q = b2 ∨ q = b5 ∨ nBl v hs q) g s') : nS w W' X b2 b5 g s' vt lt v hs ls :=
 {src := hs'
  tt := cT h.tt fun q hq => hf.block q (bOw.block h.tt hq).1 (h.tn q hq).2.2
  row := h.row.jH fun q hq => hf.block q (h.row.block hq) (h.new q hq).2.2.2.1
  new := h.new
  tn := h.tn
  c2 := (hf.block _ (jv h.c2) h.far.2.2.2.1).trans h.c2
  c5 := (hf.block _ (jv h.c5) h.far.2.2.2.2.1).trans h.c5
  far := h.far
  old := h.old
  fr := ⟨hf.os.trans h.fr.os, hf.tape.trans h.fr.tape, hf.output.trans h.fr.output, Nat.le_trans h.fr.size hf.size, fun k hk => by
   have := h.far
   exact (hf.block k (Nat.lt_of_lt_of_le hk h.fr.size) (by omega)).trans (h.fr.block k hk)⟩ }
theorem nS.rl {w W : World} {X : Nat → Prop} {b2 b5 g : Nat} {s : dg} {vt : Value} {lt : List Int} {v : Value} {hs : List Value} {ls : List (List Int)} (h : nS w W X b2 b5 g s vt lt v hs ls) {N : Nat → Prop} (hN : ∀ r, az vt = some r → ¬ N r) : bRL W N vt lt := by
 have ht := h.tt
 refine ue (t := .int .i64) (N := N) (show W.ownsRow 0 2 1 vt (List.length lt) _ from ht.Gz) (kE.2 rfl) (fun _ h => h) hN
theorem LU {P : Program} {f : FuncId} {F : List Int → Option Int} {w : World} {N : Nat → Prop} {v : Value} {l : List Int} {y : Int} (hm : bf P f ⟨[(true, [.dat bLT])], [(false, [.dat (.int .i64)])], F⟩) (h : bRL w N v l) (hy : F l = some y) :
  Calls P f #[.agg #[v]] w fun e w' => e = .returned (.int .i64 y) ∧ Below w.heap.size w w' := by
 refine (hm.calls w (fun _ => False) [.agg #[v]] [v] l y ?_ (fun _ h => h.elim) ?_ List.nodup_nil hy).mono ?_
 ·exact ⟨[v], [], [], rfl, rfl, rfl, rfl, rfl⟩
 ·exact ⟨_, rfl, h.weaken (fun b hb => by rcases hb with hb | hb; exact hb.elim; cases hb)⟩
 ·rintro e w' ⟨u, vs, rc, rfl, hg, hc, hf, hp, -, -⟩
  obtain ⟨v1, vs1, cs1, -, rfl, -, rfl, rfl, rfl⟩ := hc
  obtain ⟨u1, e1, h1⟩ := hp
  obtain ⟨rfl, -⟩ := List.cons.inj e1
  have h1 : [v1] = [Value.int .i64 y] := h1
  cases h1
  have hg : u = _ := hg
  subst hg
  exact ⟨rfl, hf.os, hf.tape, hf.output, hf.size, fun k hk => hf.block k hk fun h => by cases h⟩
theorem LO (k : Nat) {w : World} {X : Nat → Prop} {v : Value} {code : List Int} {s : dg} (hX : ∀ q, X q → q < w.heap.size) (h : Rc w X (.list (.int .u8)) code [v]) (hy : bC.f k code = some s) :
  Calls Try.prog 135 #[v] w fun e w' => ∃ g, e = .returned (.pointer (some ⟨g, 0, none⟩)) ∧ w.heap.size ≤ g ∧ km w' X g s ∧ Below w.heap.size w w' := by
 refine ((Of k).calls w X [v] [v] code s ?_ (fun q hq => ⟨hX q hq, by show q ∉ []; simp⟩) ?_ List.nodup_nil hy).mono ?_
 ·exact ⟨_, _, _, rfl, rfl, Rc.fR h v (List.mem_singleton.2 rfl), rfl, rfl, rfl⟩
 ·exact ⟨_, rfl, Rc.weaken (fun b hb => by rcases hb with hb | hb; exact hb; cases hb) h⟩
 ·rintro e w' ⟨u, vs, rc, rfl, hg, hc, hf, hp, -, hfr⟩
  obtain ⟨v1, vs1, cs1, -, rfl, -, rfl, rfl, rfl⟩ := hc
  obtain ⟨u1, e1, g, vs2, et, e2, h2, -, h3⟩ := hp
  obtain ⟨rfl, -⟩ := List.cons.inj e1
  have hg : u = _ := hg
  subst hg; subst e2
  have hm : g ∈ bo (flatC (Bh k).rs) [.pointer (some ⟨g, 0, none⟩)] := by show g ∈ [g]; simp
  refine ⟨g, rfl, hfr g hm, ⟨vs2, et, h2, Rc.weaken (fun q hq => ?_) h3⟩, hf.os, hf.tape, hf.output, hf.size, fun k hk => hf.block k hk fun h => by cases h⟩
  rcases hq with hq | hq
  ·exact Or.inl hq
  ·exact Or.inr (Or.inr (by show q ∈ [g]; simpa using hq))
theorem LN (k : Nat) {w : World} {B : Nat → Prop} {r : Nat} {s s' : dg} {y : List Int} (hs : km w B r s) (hB : ∀ q, B q → q < w.heap.size ∧ q ≠ r) (hy : dN.f k s = some (y, s')) :
  Calls Try.prog 213 #[.pointer (some ⟨r, 0, none⟩)] w fun e w' => ∃ u, e = .returned (.agg #[u]) ∧ bOw w' w.heap.size u y ∧ km w' (fun q => B q ∨ az u = some q) r s' ∧ dX w w' (fun q => q = r) := by
 obtain ⟨vs, et, h1, h2⟩ := hs
 refine ((QC k).calls w B [.pointer (some ⟨r, 0, none⟩)] [.pointer (some ⟨r, 0, none⟩)] s (y, s') ?_ ?_ ?_ ?_ hy).mono ?_
 ·exact ⟨_, _, _, rfl, rfl, rfl, rfl, rfl, rfl⟩
 ·intro q hq
  refine ⟨(hB q hq).1, ?_⟩
  show q ∉ [r]
  simpa using (hB q hq).2
 ·refine ⟨_, rfl, ⟨r, vs, et, rfl, h1, by decide, ?_⟩⟩
  exact Rc.weaken (fun q hq => by
   rcases hq with hq | hq
   ·exact Or.inl hq
   ·have hq : q ∈ [r] := hq
    exact Or.inr (by simpa using hq)) h2
 ·show [r].Nodup
  simp
 ·rintro e w' ⟨u, vs', rc, rfl, hg, hc, hf, hp, -, hfr⟩
  obtain ⟨us, vs1, cs1, rfl, hl, rfl, rfl, rfl⟩ := hc
  obtain ⟨v1, rfl⟩ : ∃ v, us = [v] := by
   match us, hl with
   | [v], _ => exact ⟨v, rfl⟩
  obtain ⟨u1, us, e1, ⟨xs, p1, p1'⟩, u2, e2, p2⟩ := hp
  obtain ⟨rfl, rfl⟩ := List.cons.inj e1
  obtain ⟨rfl, -⟩ := List.cons.inj e2
  obtain rfl := kE.1 p1'
  have hg : u = _ := hg
  subst hg
  obtain ⟨r', vs2, et2, e3, h3, -, h4⟩ := p2
  cases e3
  refine ⟨v1, rfl, ⟨p1.1, ?_⟩, ⟨vs2, et2, h3, Rc.weaken (fun q hq => ?_) h4⟩, ⟨hf.os, hf.tape, hf.output, hf.size, fun q hq hn => hf.block q hq (fun x => hn ?_)⟩⟩
  ·rcases p1.2 with h | ⟨g, cap, cur, e, hb, rest⟩
   ·exact .inl h
   ·refine .inr ⟨g, cap, cur, e, hfr g ?_, rest⟩
    subst e
    show g ∈ bo [.own 2 (.int .i64)] ([.slice (some ⟨g, 0, none⟩) _ _] ++ [])
    simp [bo, az]
  ·rcases hq with (hq | hq) | hq
   ·exact Or.inl hq
   ·refine Or.inr (Or.inr ?_)
    show q ∈ bo [.own 2 (.int .i64)] ([v1] ++ [])
    simp [bo, hq]
   ·exact Or.inr (Or.inl (by rw [hq]; show r ∈ [r]; simp))
  ·have x : q ∈ [r] := x
   simpa using x
theorem LP (k : Nat) {w : World} {B : Nat → Prop} {r : Nat} {s : dg} {a p q : Int} {ls : List (List Int)} (hs : km w B r s) (hl : s.1.length ≤ 9223372036854775807) (hy : K.ai.f k s.1 s.2.1 s.2.2 a = some (ls, p, q)) (hB : ∀ q, B q → q < w.heap.size ∧ q ≠ r) :
  Calls Try.prog 223 #[.pointer (some ⟨r, 0, none⟩), .int .i64 a] w fun e w' => ∃ v hs, e = .returned v ∧ lY w' v hs ls ∧ (∀ q, nBl v hs q → w.heap.size ≤ q) ∧ km w' (fun q => B q ∨ nBl v hs q) r (s.1, p, q) ∧ dX w w' (fun q => q = r) := by
 refine (K.ai.calls k r s.1 s.2.1 s.2.2 a ls p q w w (QW hs hl) (K.bR.refl _ _) hy).mono ?_
 rintro e w' ⟨v, rfl, hS, hI, hb, -⟩
 obtain ⟨hs', h1, h2⟩ := KQ hS
 refine ⟨v, hs', rfl, h1, h2, QX hI hb fun q hq hx => ?_, hb.os, hb.tape, hb.output, hb.size, fun q hq hn => hb.block q hq hn⟩
 rcases hx with hx | hx
 ·exact hx
 ·have := h2 q hx; omega
theorem OU (k : Nat) {w : World} {N : Nat → Prop} {v : Value} {l : List Int} {a b c : Int} {ls : List (List Int)} (hv : bRL w N v l) (hl : l.length ≤ 9223372036854775807) (hy : K.aa.f k a b l = some (ls, c)) :
  Calls Try.prog 224 #[.int .i64 a, .int .i64 b, v] w fun e w' => ∃ v hs, e = .returned (.tuple #[v, .int .i64 c]) ∧ lY w' v hs ls ∧ (∀ q, nBl v hs q → w.heap.size ≤ q) ∧ Below w.heap.size w w' := by
 obtain ⟨A, cap, e, -⟩ := id hv
 have e : [v] = [.slice A l.length cap] := e
 obtain ⟨rfl, -⟩ := List.cons.inj e
 obtain ⟨h1, h2, -, -⟩ := D9 (k := .i64) hv hl
 refine (K.aa.calls k a b A cap l ls c w h1 h2 hy).mono ?_
 rintro e w' ⟨v, rfl, hS, hb⟩
 obtain ⟨hs', h3, h4⟩ := KQ hS
 exact ⟨v, hs', rfl, h3, h4, hb⟩
theorem LS (k : Nat) {w : World} {B : Nat → Prop} {N : Nat → Prop} {r : Nat} {s s' : dg} {v : Value} {l : List Int} {y : Int} (hs : km w B r s) (hv : bRL w (fun q => B q ∨ q = r) v l) (hB : ∀ q, B q → q < w.heap.size ∧ q ≠ r) (hy : bT.f s l = some (y, s')) :
  Calls Try.prog 136 #[.pointer (some ⟨r, 0, none⟩), v] w fun e w' => e = .returned (.int .i64 y) ∧ km w' B r s' ∧ dX w w' (fun q => q = r) := by
 obtain ⟨vs, et, h1, h2⟩ := hs
 refine ((yT 0).calls w B [.pointer (some ⟨r, 0, none⟩), v] [.pointer (some ⟨r, 0, none⟩), v] (s, l) (y, s') ?_ ?_ ?_ ?_ hy).mono ?_
 ·exact ⟨_, _, _, rfl, rfl, rfl, rfl, _, _, _, rfl, rfl, hv.one, rfl, rfl, rfl⟩
 ·intro q hq
  refine ⟨(hB q hq).1, ?_⟩
  show q ∉ [r]
  simpa using (hB q hq).2
 ·refine ⟨_, _, rfl, ⟨r, vs, et, rfl, h1, by decide, ?_⟩, _, rfl, ?_⟩
  ·exact Rc.weaken (fun q hq => by
    rcases hq with hq | hq
    ·exact Or.inl hq
    ·have hq : q ∈ [r] := hq
     exact Or.inr (by simpa using hq)) h2
  ·exact Rc.weaken (fun q hq => by
    rcases hq with hq | hq
    ·exact Or.inl hq
    ·have hq : q ∈ [r] := hq
     exact Or.inr (by simpa using hq)) hv
 ·show [r].Nodup
  simp
 ·rintro e w' ⟨u, vs', rc, rfl, hg, hc, hf, hp, -, -⟩
  obtain ⟨v1, vs1, cs1, -, rfl, -, rfl, rfl, rfl⟩ := hc
  obtain ⟨u1, us, e1, p1, u2, e2, p2⟩ := hp
  obtain ⟨rfl, rfl⟩ := List.cons.inj e1
  obtain ⟨rfl, -⟩ := List.cons.inj e2
  have p1 : [v1] = [Value.int .i64 y] := p1
  cases p1
  have hg : u = _ := hg
  subst hg
  obtain ⟨r', vs2, et2, e3, h3, -, h4⟩ := p2
  cases e3
  refine ⟨rfl, ⟨vs2, et2, h3, Rc.weaken (fun q hq => ?_) h4⟩, ⟨hf.os, hf.tape, hf.output, hf.size, fun q hq hn => hf.block q hq (fun x => hn ?_)⟩⟩
  ·rcases hq with hq | hq
   ·exact Or.inl hq
   ·exact Or.inr (Or.inl (by rw [hq]; show r ∈ [r]; simp))
  ·have x : q ∈ [r] := x
   simpa using x
theorem OT (k : Nat) {w : World} {B : Nat → Prop} {r : Nat} {s s' : dg} {v : Value} {l y : List Int} (hs : km w B r s) (hv : bRL w (fun q => B q ∨ q = r) v l) (hB : ∀ q, B q → q < w.heap.size ∧ q ≠ r) (hy : aY.f k s l = some (y, s')) :
  Calls Try.prog 190 #[.pointer (some ⟨r, 0, none⟩), .agg #[v]] w fun e w' => ∃ u, e = .returned (.agg #[u]) ∧ bRL w' (fun q => B q ∨ q = r) u y ∧ km w' B r s' ∧ dX w w' (fun q => q = r) := by
 obtain ⟨vs, et, h1, h2⟩ := hs
 refine ((Qu k).calls w B [.pointer (some ⟨r, 0, none⟩), .agg #[v]] [.pointer (some ⟨r, 0, none⟩), v] (s, l) (y, s') ?_ ?_ ?_ ?_ hy).mono ?_
 ·exact ⟨_, _, _, rfl, rfl, rfl, rfl, [v], [], [], rfl, rfl, rfl, rfl, rfl⟩
 ·intro q hq
  refine ⟨(hB q hq).1, ?_⟩
  show q ∉ [r]
  simpa using (hB q hq).2
 ·refine ⟨_, _, rfl, ⟨r, vs, et, rfl, h1, by decide, ?_⟩, _, rfl, ?_⟩
  ·exact Rc.weaken (fun q hq => by
    rcases hq with hq | hq
    ·exact Or.inl hq
    ·have hq : q ∈ [r] := hq
     exact Or.inr (by simpa using hq)) h2
  ·exact Rc.weaken (fun q hq => by
    rcases hq with hq | hq
    ·exact Or.inl hq
    ·have hq : q ∈ [r] := hq
     exact Or.inr (by simpa using hq)) hv
 ·show [r].Nodup
  simp
 ·rintro e w' ⟨u, vs', rc, rfl, hg, hc, hf, hp, -, -⟩
  obtain ⟨us, vs1, cs1, rfl, hl, rfl, rfl, rfl⟩ := hc
  obtain ⟨v1, rfl⟩ : ∃ v, us = [v] := by
   match us, hl with
   | [v], _ => exact ⟨v, rfl⟩
  obtain ⟨u1, us, e1, p1, u2, e2, p2⟩ := hp
  obtain ⟨rfl, rfl⟩ := List.cons.inj e1
  obtain ⟨rfl, -⟩ := List.cons.inj e2
  have hg : u = _ := hg
  subst hg
  obtain ⟨r', vs2, et2, e3, h3, -, h4⟩ := p2
  cases e3
  have wk : ∀ q, (B q ∨ q = r) → (B q ∨ q ∈ bo (flatC (Bl k).ps) [.pointer (some ⟨r, 0, none⟩), v] ∨ q ∈ bo (flatC (Bl k).rs) ([v1] ++ [])) := fun q hq => by
   rcases hq with hq | hq
   ·exact Or.inl hq
   ·exact Or.inr (Or.inl (by rw [hq]; show r ∈ [r]; simp))
  refine ⟨v1, rfl, Rc.weaken wk p1, ⟨vs2, et2, h3, Rc.weaken wk h4⟩, ⟨hf.os, hf.tape, hf.output, hf.size, fun q hq hn => hf.block q hq (fun x => hn ?_)⟩⟩
  have x : q ∈ [r] := x
  simpa using x
theorem LR {e e' : TypeId} {t t' d : Ty} {v1 v2 v3 : Value} {g : Nat} (h : az v2 = some g) : g ∈ bo [.own e t, .own e' t', .dat d] [v1, v2, v3] := by
 cases hb : az v1 <;> simp [bo, hb, h]
theorem JT (k : Nat) {w : World} {N : Nat → Prop} {v : Value} {l y1 y2 : List Int} {a c : Int} (h : bRL w N v l) (hy : aq.f k l a = some (y1, y2, c)) :
  Calls Try.prog 22 #[.agg #[v], .int .i64 a] w fun e w' => ∃ u1 u2, e = .returned (.tuple #[u1, u2, .int .i64 c]) ∧ bOw w' w.heap.size u2 y2 ∧ Below w.heap.size w w' := by
 refine ((M22 k).calls w (fun _ => False) [.agg #[v], .int .i64 a] [v, .int .i64 a] (l, a) (y1, y2, c) ?_ (fun _ h => h.elim) ?_ List.nodup_nil hy).mono ?_
 ·exact ⟨[v], _, _, rfl, rfl, rfl, _, _, _, rfl, rfl, rfl, rfl, rfl, rfl⟩
 ·exact ⟨_, _, rfl, h.weaken (fun b hb => by rcases hb with hb | hb; exact hb.elim; cases hb), _, rfl, rfl⟩
 ·rintro e w' ⟨u, vs, rc, rfl, hg, hc, hf, hp, -, hfr⟩
  obtain ⟨v1, vs1, cs1, -, rfl, -, rfl, v2, vs2, cs2, -, rfl, -, rfl, v3, vs3, cs3, -, rfl, -, rfl, rfl, rfl⟩ := hc
  obtain ⟨u1, us1, e1, p1, u2, us2, e2, ⟨xs, p2, p2'⟩, u3, e3, p3⟩ := hp
  obtain ⟨rfl, rfl⟩ := List.cons.inj e1
  obtain ⟨rfl, rfl⟩ := List.cons.inj e2
  obtain ⟨rfl, -⟩ := List.cons.inj e3
  obtain rfl := kE.1 p2'
  have p3 : [v3] = [Value.int .i64 c] := p3
  cases p3
  have hg : u = _ := hg
  subst hg
  refine ⟨v1, v2, rfl, ⟨p2.1, ?_⟩, hf.os, hf.tape, hf.output, hf.size, fun k hk => hf.block k hk fun h => by cases h⟩
  rcases p2.2 with h | ⟨g, cap, cur, e, hb, rest⟩
  ·exact .inl h
  ·refine .inr ⟨g, cap, cur, e, hfr g ?_, rest⟩
   subst e
   exact LR rfl
end Go.Proofs.Ytcbhhbkghbnljaa.Vf
end
section
set_option linter.unusedVariables false
set_option maxRecDepth 100000
namespace Go.Proofs.Ytcbhhbkghbnljaa.Vf
open Go Go.V Go.RowKit Go.Proofs
open Go.Proofs.YtcbhhbkghbnljaaW.PrintWords (Kd aR)
noncomputable def evN {α : Type} (f : Nat → Option α) : Option α := open Classical in if h : ∃ r N, ∀ k, N ≤ k → f k = some r then some h.choose else none
theorem GM {α : Type} {f : Nat → Option α} {r : α} {N : Nat} (h : ∀ k, N ≤ k → f k = some r) : evN f = some r := by
 have hx : ∃ r N, ∀ k, N ≤ k → f k = some r := ⟨r, N, h⟩
 unfold evN
 rw [dif_pos hx]
 obtain ⟨M, hM⟩ := hx.choose_spec
 have h1 := hM (max N M) (Nat.le_max_right _ _)
 rw [h (max N M) (Nat.le_max_left _ _)] at h1
 exact h1.symm
theorem DD {α : Type} {f : Nat → Option α} {r : α} (h : evN f = some r) : ∃ k, f k = some r := by
 unfold evN at h
 split at h
 ·rename_i hx
  obtain ⟨M, hM⟩ := hx.choose_spec
  obtain rfl := Option.some.inj h
  exact ⟨M, hM M (Nat.le_refl _)⟩
 ·cases h
noncomputable def ba.mid (k : Nat) (lt : List Int) (ls : List (List Int)) (s : dg) (c : Int) : Option (List (List Int) × dg) :=
 if c = 0 then (ak.f s 2).bind fun y => if y.1 = 0 then (aq.f k lt 2).bind fun p =>
  if p.2.2 = 0 then (if p.2.1.length ≤ 120 then (di.f lt).bind fun a => (evN fun k => K.aa.f k a 2 p.2.1).bind fun o => some (o.1, y.2) else some (ls, y.2)) else some (ls, y.2)
  else some (ls, y.2) else some (ls, s)
noncomputable def ba.fin (ls : List (List Int)) (s : dg) (z : Int) : Option (List (List Int) × dg) :=
 if z = 0 then (if ls.length + 1 ≤ 1099511627776 then some (ls ++ [[0]], s) else none) else if z = 1 then (if 0 < ls.length then (if 0 < (ls.getD 0 []).length then (bT.f s [8, -2, 0]).bind fun y => some (ls.set 0 ((ls.getD 0 []).set 0 y.1), y.2) else none) else none) else some (ls, s)
noncomputable def ba.f (k : Nat) (code : List Int) : Option (List Int × List (List Int)) :=
 (bC.f k code).bind fun s => (dN.f k s).bind fun t => (di.f t.1).bind fun a =>
 if t.2.1.length ≤ 9223372036854775807 then (evN fun k => K.ai.f k t.2.1 t.2.2.1 t.2.2.2 a).bind fun d => (gq.f k t.1).bind fun c =>
 (ba.mid k t.1 d.1 (t.2.1, d.2.1, d.2.2) c).bind fun m => (ak.f m.2 24).bind fun z => (ba.fin m.1 z.2 z.1).bind fun f =>
 (aY.f k f.2 t.1).bind fun b => some (b.1, f.1) else none
theorem Gy {w : World} {b : Nat} {v : Value} {e : TypeId} (h : w.heap[b]? = some (.cells #[v] e (0, 0))) : w.cell? ⟨b, 0, none⟩ = some v := by simp [World.cell?, h]
theorem Ln {w : World} {b : Nat} {v : Value} {e : TypeId} (h : w.heap[b]? = some (.cells #[v] e (0, 0))) : w.frozen? ⟨b, 0, none⟩ = false := by simp [World.frozen?, h]
theorem OE {w : World} {b b' : Nat} {v u : Value} {e : TypeId} (h : w.heap[b]? = some (.cells #[v] e (0, 0))) : (w.setCell ⟨b, 0, none⟩ u).heap[b]? = some (.cells #[u] e (0, 0)) := by
 simp [World.setCell, Array.getElem?_modify, h]
structure nA (w W : World) (X : Nat → Prop) (g : Nat) (s : dg) : Prop where
 src : km W (fun q => X q ∨ q = w.heap.size) g s
 c2 : W.heap[w.heap.size]? = some (.cells #[.slice none 0 0] 35 (0, 0))
 far : w.heap.size < g
 old : ∀ q, X q → q < w.heap.size
 fr : Below w.heap.size w W
theorem nA.tasks (k : Nat) {w W : World} {X : Nat → Prop} {g : Nat} {s s' : dg} {lt : List Int} (h : nA w W X g s) (hy : dN.f k s = some (lt, s')) :
  Calls Try.prog 213 #[.pointer (some ⟨g, 0, none⟩)] W fun e w' => ∃ vt, e = .returned (.agg #[vt]) ∧ nS w (w'.alloc (.cells #[vt] 35)) X w.heap.size w'.heap.size g s' vt lt (.slice none 0 0) [] [] := by
 have hg := jv h.src.choose_spec.choose_spec.1
 have hinB : ∀ q, (X q ∨ q = w.heap.size) → q < W.heap.size ∧ q ≠ g := by
  rintro q (hq | rfl)
  ·have := h.old q hq; have := h.far; have := h.fr.size; omega
  ·exact ⟨jv h.c2, Nat.ne_of_lt h.far⟩
 refine (LN k h.src hinB hy).mono ?_
 rintro e w' ⟨u, rfl, ho, hs, hf⟩
 have hbl : ∀ q, az u = some q → W.heap.size ≤ q ∧ q < w'.heap.size := fun q hq => ⟨(ho.block hq).2, (ho.block hq).1⟩
 have hz := hf.size
 have hlt := jv h.c2
 refine ⟨u, rfl, ?_⟩
 have hal : ∀ q, q < w'.heap.size → (w'.alloc (.cells #[u] 35)).heap[q]? = w'.heap[q]? := fun q hq => Below.heap_alloc _ _ _ hq
 have hno : ∀ q, ¬ nBl (.slice none 0 0) [] q := by
  rintro q (hq | ⟨x, hx, -⟩)
  ·cases hq
  ·cases hx
 exact {
  src := by
   refine hs.jH (fun q hq _ => hal q hq) (fun q hq hx => ?_) (fun hx => ?_)
   ·rcases hx with hx | rfl | rfl | hx
    ·exact Or.inl (Or.inl hx)
    ·exact Or.inl (Or.inr rfl)
    ·omega
    ·exact absurd hx (hno _)
   ·rcases hx with hx | hx
    ·exact (hinB g hx).2 rfl
    ·have := hbl g hx; omega
  tt := bOw.mono (bOw.jH ho fun r _ hr => hal r hr) h.fr.size
  row := ⟨World.ownsRow_nil _ _ _ _, fun i hi => absurd hi (Nat.not_lt_zero _), fun i hi => absurd hi (Nat.not_lt_zero _), fun i j hi => absurd hi (Nat.not_lt_zero _)⟩
  new := fun q hq => absurd hq (hno q)
  tn := fun q hq => by have := hbl q hq; omega
  c2 := (hal _ (by omega)).trans ((hf.block _ hlt (Nat.ne_of_lt h.far)).trans h.c2)
  c5 := heap_alloc_new w' _
  far := by have := h.far; omega
  old := h.old
  fr := by
   have h1 : Below w.heap.size w w' := ⟨hf.os.trans h.fr.os, hf.tape.trans h.fr.tape, hf.output.trans h.fr.output, Nat.le_trans h.fr.size hf.size, fun q hq => (hf.block q (Nat.lt_of_lt_of_le hq h.fr.size) (by have := h.far; omega)).trans (h.fr.block q hq)⟩
   exact h1.alloc h1.size _ }
theorem nA.first (k : Nat) {w : World} {X : Nat → Prop} {vc : Value} {code : List Int} {s : dg} (hX : ∀ q, X q → q < w.heap.size) (h : Rc w X (.list (.int .u8)) code [vc]) (hy : bC.f k code = some s) :
  Calls Try.prog 135 #[vc] (w.alloc (.cells #[.slice none 0 0] 35)) fun e w' => ∃ g, e = .returned (.pointer (some ⟨g, 0, none⟩)) ∧ nA w w' X g s := by
 have hal : ∀ q, q < w.heap.size → (w.alloc (.cells #[.slice none 0 0] 35)).heap[q]? = w.heap[q]? := fun q hq => Below.heap_alloc _ _ _ hq
 have sz : (w.alloc (.cells #[.slice none 0 0] 35)).heap.size = w.heap.size + 1 := by simp
 have h' : Rc (w.alloc (.cells #[.slice none 0 0] 35)) (fun q => X q ∨ q = w.heap.size) (.list (.int .u8)) code [vc] := Rc.move (fun r o hn ho => by
  have hr := jv ho
  exact ⟨fun hx => by rcases hx with hx | hx; exact hn hx; omega, (hal r hr).trans ho⟩) h
 refine (LO k (fun q hq => ?_) h' hy).mono ?_
 ·rcases hq with hq | rfl
  ·have := hX q hq; omega
  ·omega
 ·rintro e w' ⟨g, rfl, hg, hs, hb⟩
  rw [sz] at hg hb
  refine ⟨g, rfl, hs, (hb.block _ (by omega)).trans (heap_alloc_new w _), hg, hX, hb.os, hb.tape, hb.output, ?_, fun q hq => (hb.block q (by omega)).trans (hal q hq)⟩
  have := hb.size
  rw [sz] at this
  omega
section
variable {w W : World} {X : Nat → Prop} {b2 b5 g : Nat} {s s' : dg} {vt : Value} {lt : List Int} {v : Value} {hs : List Value} {ls : List (List Int)}
theorem nS.rows {W' : World} {v' : Value} {hs' : List Value} {ls' : List (List Int)} {s' : dg} (h : nS w W X b2 b5 g s vt lt v hs ls) (hf : dX W W' (fun q => q = g)) (hr : lY W' v' hs' ls') (hn : ∀ q, nBl v' hs' q → W.heap.size ≤ q) (hs2 : km W' (fun q => X q ∨ q = b2 ∨ q = b5 ∨ nBl v' hs' q) g s') : nS w W' X b2 b5 g s' vt lt v' hs' ls' :=
 {src := hs2
  tt := cT h.tt fun q hq => hf.block q (bOw.block h.tt hq).1 (h.tn q hq).2.2
  row := hr
  new := fun q hq => by
   have h1 := hn q hq
   have h2 := jv h.c2
   have h5 := jv h.c5
   have hg := h.gl
   have hz := h.fr.size
   exact ⟨by omega, by omega, by omega, by omega, fun hx => by have := (bOw.block h.tt hx).1; omega⟩
  tn := h.tn
  c2 := (hf.block _ (jv h.c2) h.far.2.2.2.1).trans h.c2
  c5 := (hf.block _ (jv h.c5) h.far.2.2.2.2.1).trans h.c5
  far := h.far
  old := h.old
  fr := ⟨hf.os.trans h.fr.os, hf.tape.trans h.fr.tape, hf.output.trans h.fr.output, Nat.le_trans h.fr.size hf.size, fun k hk => by
   have := h.far
   exact (hf.block k (Nat.lt_of_lt_of_le hk h.fr.size) (by omega)).trans (h.fr.block k hk)⟩ }
theorem nS.list (k : Nat) {a p q : Int} {ls' : List (List Int)} (h : nS w W X b2 b5 g s vt lt v hs ls) (hl : s.1.length ≤ 9223372036854775807) (hy : K.ai.f k s.1 s.2.1 s.2.2 a = some (ls', p, q)) :
  Calls Try.prog 223 #[.pointer (some ⟨g, 0, none⟩), .int .i64 a] W fun e w' => ∃ v' hs', e = .returned v' ∧ nS w w' X b2 b5 g (s.1, p, q) vt lt v' hs' ls' := by
 refine (LP k h.src hl hy h.inB).mono ?_
 rintro e w' ⟨v', hs', rfl, hr, hn, hs2, hf⟩
 refine ⟨v', hs', rfl, h.rows hf hr hn ?_⟩
 obtain ⟨vs, et, h1, h2⟩ := hs2
 exact ⟨vs, et, h1, Rc.weaken (fun q hq => by
  rcases hq with (hq | hq | hq | hq) | hq
  ·exact Or.inl (Or.inl (Or.inl hq))
  ·exact Or.inl (Or.inl (Or.inr (Or.inl hq)))
  ·exact Or.inl (Or.inl (Or.inr (Or.inr (Or.inl hq))))
  ·exact Or.inl (Or.inr hq)
  ·exact Or.inr hq) h2⟩
theorem nS.put (k : Nat) {a b c : Int} {u : Value} {l : List Int} {ls' : List (List Int)} (h : nS w W X b2 b5 g s vt lt v hs ls) (hu : bRL W (fun _ => False) u l) (hl : l.length ≤ 9223372036854775807) (hy : K.aa.f k a b l = some (ls', c)) :
  Calls Try.prog 224 #[.int .i64 a, .int .i64 b, u] W fun e w' => ∃ v' hs', e = .returned (.tuple #[v', .int .i64 c]) ∧ nS w w' X b2 b5 g s vt lt v' hs' ls' := by
 refine (OU k hu hl hy).mono ?_
 rintro e w' ⟨v', hs', rfl, hr, hn, hb⟩
 refine ⟨v', hs', rfl, h.rows ⟨hb.os, hb.tape, hb.output, hb.size, fun r hr _ => hb.block r hr⟩ hr hn ?_⟩
 refine h.src.jH (fun q hq _ => hb.block q hq) (fun q hq hx => ?_) (fun hx => (h.inB g hx).2 rfl)
 rcases hx with hx | hx | hx | hx
 ·exact Or.inl hx
 ·exact Or.inr (Or.inl hx)
 ·exact Or.inr (Or.inr (Or.inl hx))
 ·have := hn q hx; omega
theorem nS.next {n y : Int} {s' : dg} (h : nS w W X b2 b5 g s vt lt v hs ls) (hy : ak.f s n = some (y, s')) :
  Calls Try.prog 147 #[.pointer (some ⟨g, 0, none⟩), .int .i64 n] W fun e w' => e = .returned (.int .i64 y) ∧ nS w w' X b2 b5 g s' vt lt v hs ls :=
 (LQ h.src h.inB hy).mono fun e w' ⟨h1, h2, h3⟩ => ⟨h1, h.drawn h3 h2⟩
theorem nS.num {f : FuncId} {F : List Int → Option Int} {y : Int} (hm : bf Try.prog f ⟨[(true, [.dat bLT])], [(false, [.dat (.int .i64)])], F⟩) (h : nS w W X b2 b5 g s vt lt v hs ls) (hy : F lt = some y) :
  Calls Try.prog f #[.agg #[vt]] W fun e w' => e = .returned (.int .i64 y) ∧ nS w w' X b2 b5 g s vt lt v hs ls ∧ Below W.heap.size W w' :=
 (LU hm (h.rl (N := fun _ => False) fun _ _ => id) hy).mono fun e w' ⟨h1, h2⟩ => ⟨h1, h.jP h2, h2⟩
theorem nS.least (k : Nat) {y1 y2 : List Int} {a c : Int} (h : nS w W X b2 b5 g s vt lt v hs ls) (hy : aq.f k lt a = some (y1, y2, c)) :
  Calls Try.prog 22 #[.agg #[vt], .int .i64 a] W fun e w' => ∃ u1 u2, e = .returned (.tuple #[u1, u2, .int .i64 c]) ∧ nS w w' X b2 b5 g s vt lt v hs ls ∧ bRL w' (fun _ => False) u2 y2 :=
 (JT k (h.rl (N := fun _ => False) fun _ _ => id) hy).mono fun e w' ⟨u1, u2, h1, h2, h3⟩ => ⟨u1, u2, h1, h.jP h3, h2.rl fun _ _ => id⟩
theorem nS.bad (k : Nat) {y : List Int} {s' : dg} (h : nS w W X b2 b5 g s vt lt v hs ls) (hy : aY.f k s lt = some (y, s')) :
  Calls Try.prog 190 #[.pointer (some ⟨g, 0, none⟩), .agg #[vt]] W fun e w' => ∃ u, e = .returned (.agg #[u]) ∧ bRL w' (fun q => X q ∨ q = b2) u y ∧ nS w w' X b2 b5 g s' vt lt v hs ls := by
 refine (OT k h.src (h.rl fun r hr hx => ?_) h.inB hy).mono ?_
 ·rcases hx with (hx | hx | hx | hx) | hx
  ·have := h.old r hx; have := (bOw.block h.tt hr).2; omega
  ·exact (h.tn r hr).1 hx
  ·exact (h.tn r hr).2.1 hx
  ·exact (h.new r hx).2.2.2.2 hr
  ·exact (h.tn r hr).2.2 hx
 ·rintro e w' ⟨u, rfl, h1, h2, h3⟩
  exact ⟨u, rfl, Rc.weaken (fun q hq => hq.elim (fun x => Or.inl (Or.inl x)) fun x => Or.inl (Or.inr (Or.inl x))) h1, h.drawn h3 h2⟩
theorem nS.tsl (h : nS w W X b2 b5 g s vt lt v hs ls) : ∃ A n c, vt = .slice A n c := by
 rcases h.tt.2 with ⟨rfl, _⟩ | ⟨g, cap, cur, rfl, _⟩
 ·exact ⟨_, _, _, rfl⟩
 ·exact ⟨_, _, _, rfl⟩
theorem nS.vsl (h : nS w W X b2 b5 g s vt lt v hs ls) : ∃ A n c, v = .slice A n c := by
 rcases h.row.hd.2 with ⟨rfl, _⟩ | ⟨g, cap, cur, rfl, _⟩
 ·exact ⟨_, _, _, rfl⟩
 ·exact ⟨_, _, _, rfl⟩
theorem bRL.sl {w : World} {N : Nat → Prop} {u : Value} {l : List Int} (h : bRL w N u l) : ∃ A n c, u = .slice A n c := by
 obtain ⟨A, c, e, -⟩ := h
 exact ⟨_, _, _, (List.cons.inj e).1⟩
theorem nS.two (h : nS w W X b2 b5 g s vt lt v hs ls) : W.cell? ⟨b2, 0, none⟩ = some (.slice none 0 0) ∧ W.frozen? ⟨b2, 0, none⟩ = false := ⟨Gy h.c2, Ln h.c2⟩
theorem nS.done {u : Value} {y : List Int} (h : nS w W X b2 b5 g s vt lt v hs ls) (hu : bRL W (fun q => X q ∨ q = b2) u y) :
  bRL (W.setCell ⟨b2, 0, none⟩ u) X u y ∧ lY (W.setCell ⟨b2, 0, none⟩ u) v hs ls ∧ (∀ q, nBl v hs q → w.heap.size ≤ q) ∧ Below w.heap.size w (W.setCell ⟨b2, 0, none⟩ u) := by
 have far : ∀ q, q ≠ b2 → (W.setCell ⟨b2, 0, none⟩ u).heap[q]? = W.heap[q]? := fun q hq => Below.heap_setCell _ _ _ _ hq
 refine ⟨bRL.jH hu fun r hn _ => ⟨fun hx => hn (Or.inl hx), far r fun e => hn (Or.inr e)⟩, h.row.jH fun q hq => far q (h.new q hq).2.1, fun q hq => (h.new q hq).1, h.fr.os, h.fr.tape, h.fr.output, ?_, fun q hq => (far q (by have := h.far; omega)).trans (h.fr.block q hq)⟩
 have := h.fr.size
 simpa [World.setCell] using this
theorem nS.res (h : nS w W X b2 b5 g s vt lt v hs ls) (u : Value) : (W.setCell ⟨b2, 0, none⟩ u).heap[b2]? = some (.cells #[u] 35 (0, 0)) := OE (b' := 0) h.c2
theorem nS.cells (h : nS w W X b2 b5 g s vt lt v hs ls) : W.cell? ⟨b5, 0, none⟩ = some vt := by simp [World.cell?, h.c5]
theorem Eb {w : World} {base : Nat} {e : TypeId} {size : Nat} {v : Value} {n : Nat} {xs : List Value} (h : w.ownsRow base e size v n xs) {q : Nat} : v.ownBlock = some q ↔ az v = some q := pR h
theorem GR {α : Type} {l l' : List α} {i : Nat} {d : α} (h : i < l.length) : (l ++ l').getD i d = l.getD i d := by
 rw [List.getD_eq_getElem?_getD, List.getD_eq_getElem?_getD, List.getElem?_append_left h]
theorem GS {α : Type} {l : List α} {x : α} {d : α} : (l ++ [x]).getD l.length d = x := by
 rw [List.getD_eq_getElem?_getD, List.getElem?_append_right (Nat.le_refl _), Nat.sub_self]; rfl
theorem nS.app {w3 : World} {v3 : Value} (h : nS w W X b2 b5 g s vt lt v hs ls)
  (ho : w3.ownsRow 0 29 1 v3 (ls.length + 1) (hs ++ [Value.slice (some ⟨W.heap.size, 0, none⟩) 1 1]))
  (hg : ((W.alloc (.cells #[.int .i64 0] 2)).alloc (.cells #[.slice (some ⟨W.heap.size, 0, none⟩) 1 1] 29)).grownBy w3 v.ownBlock)
  (hb : v3.ownBlock = v.ownBlock ∨ v3.ownBlock = some ((W.alloc (.cells #[.int .i64 0] 2)).alloc (.cells #[.slice (some ⟨W.heap.size, 0, none⟩) 1 1] 29)).heap.size) :
  nS w w3 X b2 b5 g s vt lt v3 (hs ++ [Value.slice (some ⟨W.heap.size, 0, none⟩) 1 1]) (ls ++ [[0]]) := by
 have sz1 : (W.alloc (.cells #[.int .i64 0] 2)).heap.size = W.heap.size + 1 := by simp
 have sz2 : ((W.alloc (.cells #[.int .i64 0] 2)).alloc (.cells #[.slice (some ⟨W.heap.size, 0, none⟩) 1 1] 29)).heap.size = W.heap.size + 2 := by simp
 have jH : ∀ q, q < W.heap.size → az v ≠ some q → w3.heap[q]? = W.heap[q]? := fun q hq hn =>
  (hg.block q (by omega) (fun hx => hn ((Eb h.row.hd).1 hx.symm))).trans ((Below.heap_alloc _ _ _ (by omega)).trans (Below.heap_alloc _ _ _ hq))
 have hnew : w3.heap[W.heap.size]? = some (.cells #[.int .i64 0] 2 (0, 0)) := by
  refine (hg.block _ (by omega) (fun hx => ?_)).trans ((Below.heap_alloc _ _ _ (by omega)).trans (heap_alloc_new W _))
  have := (FH.block h.row.hd ((Eb h.row.hd).1 hx.symm)).1
  omega
 have hvb : ∀ q, az v = some q → q < W.heap.size := fun q hq => (FH.block h.row.hd hq).1
 have hv3 : ∀ q, az v3 = some q → az v = some q ∨ q = W.heap.size + 2 := by
  intro q hq
  have hq := (Eb ho).2 hq
  rcases hb with hb | hb
  ·rw [hb] at hq; exact Or.inl ((Eb h.row.hd).1 hq)
  ·rw [hb, sz2] at hq; exact Or.inr (Option.some.inj hq).symm
 have hlen := h.row.len
 have hold : ∀ i, i < ls.length → ∀ q, az (hs.getD i undef) = some q → q < W.heap.size ∧ nBl v hs q := by
  intro i hi q hq
  have hm : nBl v hs q := Or.inr ⟨hs.getD i undef, by rw [List.getD_eq_getElem?_getD, List.getElem?_eq_getElem (by omega), Option.getD_some]; exact List.getElem_mem _, hq⟩
  exact ⟨h.row.block hm, hm⟩
 have e1 : ∀ i, i < ls.length → (hs ++ [Value.slice (some ⟨W.heap.size, 0, none⟩) 1 1]).getD i undef = hs.getD i undef := fun i hi => GR (by omega)
 have e2 : (hs ++ [Value.slice (some ⟨W.heap.size, 0, none⟩) 1 1]).getD ls.length undef = .slice (some ⟨W.heap.size, 0, none⟩) 1 1 := by rw [← hlen]; exact GS
 have hl1 : (ls ++ [[0]]).length = ls.length + 1 := by simp
 have hbn : az (.slice (some ⟨W.heap.size, 0, none⟩) 1 1) = some W.heap.size := rfl
 have hz := h.fr.size
 have hgl := h.gl
 have hc2 := jv h.c2
 have hc5 := jv h.c5
 have hnb : ∀ q, nBl v3 (hs ++ [Value.slice (some ⟨W.heap.size, 0, none⟩) 1 1]) q → nBl v hs q ∨ (W.heap.size ≤ q ∧ q < w3.heap.size) := by
  rintro q (hq | ⟨x, hx, hq⟩)
  ·rcases hv3 q hq with h1 | h1
   ·exact Or.inl (Or.inl h1)
   ·exact Or.inr ⟨by omega, (FH.block ho hq).1⟩
  ·rcases List.mem_append.1 hx with hx | hx
   ·exact Or.inl (Or.inr ⟨x, hx, hq⟩)
   ·rw [List.mem_singleton.1 hx, hbn] at hq
    have := Option.some.inj hq
    have := jv hnew
    exact Or.inr (by omega)
 exact {
  src := h.src.jH (fun q hq hx => jH q hq fun hv => hx (Or.inr (Or.inr (Or.inr (Or.inl hv))))) (fun q hq hx => by
   rcases hx with hx | hx | hx | hx
   ·exact Or.inl hx
   ·exact Or.inr (Or.inl hx)
   ·exact Or.inr (Or.inr (Or.inl hx))
   ·rcases hnb q hx with h1 | h1
    ·exact Or.inr (Or.inr (Or.inr h1))
    ·omega) (fun hx => (h.inB g hx).2 rfl)
  tt := cT h.tt fun q hq => jH q (bOw.block h.tt hq).1 fun hv => (h.new q (Or.inl hv)).2.2.2.2 hq
  row := by
   refine ⟨by rw [hl1]; exact ho, fun i hi => ?_, fun i hi q hq hv => ?_, fun i j hi hj hne q hq hq2 => ?_⟩
   ·rw [hl1] at hi
    rcases Nat.lt_succ_iff_lt_or_eq.1 hi with hi | rfl
    ·rw [e1 i hi, GR hi]
     refine cT (h.row.el i hi) fun q hq => jH q (hold i hi q hq).1 (h.row.far i hi q hq)
    ·rw [e2, GS]
     exact ⟨rfl, .inr ⟨W.heap.size, 1, _, rfl, Nat.zero_le _, hnew, Nat.le_refl _, by decide, rfl, rfl⟩⟩
   ·rw [hl1] at hi
    rcases Nat.lt_succ_iff_lt_or_eq.1 hi with hi | rfl
    ·rw [e1 i hi] at hq
     rcases hv3 q hv with h1 | h1
     ·exact h.row.far i hi q hq h1
     ·have := (hold i hi q hq).1; omega
    ·rw [e2, hbn] at hq
     have hq := Option.some.inj hq
     rcases hv3 q hv with h1 | h1
     ·have := hvb q h1; omega
     ·omega
   ·rw [hl1] at hi hj
    rcases Nat.lt_succ_iff_lt_or_eq.1 hi with hi | rfl <;> rcases Nat.lt_succ_iff_lt_or_eq.1 hj with hj | rfl
    ·rw [e1 i hi] at hq; rw [e1 j hj] at hq2
     exact h.row.dis i j hi hj hne q hq hq2
    ·rw [e1 i hi] at hq; rw [e2, hbn] at hq2
     have := Option.some.inj hq2; have := (hold i hi q hq).1; omega
    ·rw [e2, hbn] at hq; rw [e1 j hj] at hq2
     have := Option.some.inj hq; have := (hold j hj q hq2).1; omega
    ·exact hne rfl
  new := fun q hq => by
   rcases hnb q hq with h1 | ⟨h1, -⟩
   ·exact h.new q h1
   ·exact ⟨by omega, by omega, by omega, by omega, fun hx => by have := (bOw.block h.tt hx).1; omega⟩
  tn := h.tn
  c2 := (jH _ hc2 fun hv => (h.new _ (Or.inl hv)).2.1 rfl).trans h.c2
  c5 := (jH _ hc5 fun hv => (h.new _ (Or.inl hv)).2.2.1 rfl).trans h.c5
  far := h.far
  old := h.old
  fr := ⟨hg.os.trans h.fr.os, hg.tape.trans h.fr.tape, hg.output.trans h.fr.output, by have := hg.size; omega, fun q hq => (jH q (by omega) fun hv => by have := (h.new q (Or.inl hv)).1; omega).trans (h.fr.block q hq)⟩ }
theorem nS.set {n1 c1 g1 : Nat} {y : Int} (h : nS w W X b2 b5 g s vt lt v hs ls) (hl : 0 < ls.length) (hl2 : 0 < (ls.getD 0 []).length) (he : hs.getD 0 undef = .slice (some ⟨g1, 0, none⟩) n1 c1) :
  nS w (W.setCell ⟨g1, 0, none⟩ (.int .i64 y)) X b2 b5 g s vt lt v hs (ls.set 0 ((ls.getD 0 []).set 0 y)) := by
 have hlen := h.row.len
 have hb1 : az (hs.getD 0 undef) = some g1 := by rw [he]; rfl
 have hm : nBl v hs g1 := Or.inr ⟨hs.getD 0 undef, by rw [List.getD_eq_getElem?_getD, List.getElem?_eq_getElem (by omega), Option.getD_some]; exact List.getElem_mem _, hb1⟩
 have far : ∀ q, q ≠ g1 → (W.setCell ⟨g1, 0, none⟩ (.int .i64 y)).heap[q]? = W.heap[q]? := fun q hq => Below.heap_setCell _ _ _ _ hq
 have hn := h.new g1 hm
 have sz : (W.setCell ⟨g1, 0, none⟩ (.int .i64 y)).heap.size = W.heap.size := by simp [World.setCell]
 have hll : (ls.set 0 ((ls.getD 0 []).set 0 y)).length = ls.length := List.length_set
 exact {
  src := h.src.jH (fun q hq hx => far q fun e => hx (by rw [e]; exact Or.inr (Or.inr (Or.inr hm)))) (fun q hq => id) (fun hx => (h.inB g hx).2 rfl)
  tt := cT h.tt fun q hq => far q fun e => hn.2.2.2.2 (e ▸ hq)
  row := by
   refine ⟨by rw [hll]; exact cT h.row.hd fun q hq => far q fun e => h.row.far 0 hl g1 hb1 (e ▸ hq), fun i hi => ?_, fun i hi => h.row.far i (by rw [hll] at hi; exact hi), fun i j hi hj => h.row.dis i j (by rw [hll] at hi; exact hi) (by rw [hll] at hj; exact hj)⟩
   rw [hll] at hi
   by_cases h0 : i = 0
   ·subst h0
    have e2 : (ls.set 0 ((ls.getD 0 []).set 0 y)).getD 0 [] = (ls.getD 0 []).set 0 y := by
     rw [List.getD_eq_getElem?_getD, List.getElem?_set_self hi, Option.getD_some]
    rw [e2]
    have hel := h.row.el 0 hi
    rcases hel.2 with ⟨e0, h0⟩ | ⟨g', cap, cur, e0, hb, hg, r1, r2, r3, r4⟩
    ·omega
    ·have hgg : g' = g1 := by rw [e0] at he; injection he with he _ _; injection he with he; injection he
     subst hgg
     refine ⟨by rw [List.length_map]; simp, .inr ⟨g', cap, cur.setIfInBounds 0 (.int .i64 y), by rw [e0, List.length_set], hb, ?_, by rw [List.length_set]; exact r1, r2, by rw [Array.size_setIfInBounds]; exact r3, ?_⟩⟩
     ·simp [World.setCell, Array.getElem?_modify, hg]
     ·rw [List.length_set, Array.toList_setIfInBounds, List.take_set, r4, List.map_set]
   ·have e2 : (ls.set 0 ((ls.getD 0 []).set 0 y)).getD i [] = ls.getD i [] := by
     rw [List.getD_eq_getElem?_getD, List.getElem?_set_ne (by omega), ← List.getD_eq_getElem?_getD]
    rw [e2]
    exact cT (h.row.el i hi) fun q hq => far q fun e => h.row.dis i 0 hi hl h0 q hq (e ▸ hb1)
  new := h.new
  tn := h.tn
  c2 := (far _ (Ne.symm hn.2.1)).trans h.c2
  c5 := (far _ (Ne.symm hn.2.2.1)).trans h.c5
  far := h.far
  old := h.old
  fr := ⟨h.fr.os, h.fr.tape, h.fr.output, by rw [sz]; exact h.fr.size, fun q hq => (far q (by have := hn.1; omega)).trans (h.fr.block q hq)⟩ }
theorem bRL.sl2 {w : World} {N : Nat → Prop} {u : Value} {l : List Int} (h : bRL w N u l) : ∃ A c, u = .slice A l.length c := by
 obtain ⟨A, c, e, -⟩ := h
 exact ⟨_, _, (List.cons.inj e).1⟩
theorem bRL.jP {w w' : World} {u : Value} {l : List Int} (h : bRL w (fun _ => False) u l) (hb : Below w.heap.size w w') : bRL w' (fun _ => False) u l := bRL.jH h fun r _ hr => ⟨id, hb.block r hr⟩
theorem nS.pre (h : nS w W X b2 b5 g s vt lt v hs ls) :
  ((W.alloc (.cells #[.int .i64 0] 2)).alloc (.cells #[.slice (some ⟨W.heap.size, 0, none⟩) 1 1] 29)).ownsRow 0 29 1 v ls.length hs ∧
  (∀ j u, [Value.slice (some ⟨W.heap.size, 0, none⟩) 1 1][j]? = some u → ((W.alloc (.cells #[.int .i64 0] 2)).alloc (.cells #[.slice (some ⟨W.heap.size, 0, none⟩) 1 1] 29)).cell? ((⟨W.heap.size + 1, 0, none⟩ : Addr).add j) = some u) := by
 have sz1 : (W.alloc (.cells #[.int .i64 0] 2)).heap.size = W.heap.size + 1 := by simp
 refine ⟨cT h.row.hd fun q hq => ?_, fun j u hu => ?_⟩
 ·have := (FH.block h.row.hd hq).1
  exact (Below.heap_alloc _ _ _ (by omega)).trans (Below.heap_alloc _ _ _ this)
 ·match j, hu with
  | 0, hu =>
   have hu : some (Value.slice (some ⟨W.heap.size, 0, none⟩) 1 1) = some u := hu
   cases hu
   have ea : (⟨W.heap.size + 1, 0, none⟩ : Addr).add 0 = ⟨W.heap.size + 1, 0, none⟩ := by unfold Addr.add; split <;> simp_all
   rw [ea, ← sz1]
   exact Gy (heap_alloc_new (W.alloc (.cells #[.int .i64 0] 2)) _)
  | j + 1, hu => simp at hu
theorem nS.drew (h : nS w W X b2 b5 g s vt lt v hs ls) : nS w W.drew X b2 b5 g s vt lt v hs ls := h.jP ⟨rfl, rfl, rfl, Nat.le_refl _, fun _ _ => rfl⟩
theorem nS.head (h : nS w W X b2 b5 g s vt lt v hs ls) (hl : 0 < ls.length) (hl2 : 0 < (ls.getD 0 []).length) : ∃ gv cv g1 n1 c1, v = .slice (some ⟨gv, 0, none⟩) ls.length cv ∧ hs.getD 0 undef = .slice (some ⟨g1, 0, none⟩) n1 c1 ∧
  W.cell? ⟨gv, 0, none⟩ = some (.slice (some ⟨g1, 0, none⟩) n1 c1) ∧ (0 < n1) = True := by
 have hlen := h.row.len
 rcases h.row.hd.2 with ⟨_, h0⟩ | ⟨gv, cv, cur, rfl, -, h1, h2, -, h3, h4⟩
 ·omega
 rcases (h.row.el 0 hl).2 with ⟨_, h0⟩ | ⟨g1, c1, cur1, e1, -, k1, k2, -, k3, k4⟩
 ·omega
 refine ⟨gv, cv, g1, _, c1, rfl, e1, ?_, eq_true hl2⟩
 rw [← e1]
 have hc : cur[0]? = hs[0]? := by
  rw [← h4, List.getElem?_take_of_lt (by omega)]
  simp
 simp only [World.cell?, h1, hc]
 rw [List.getD_eq_getElem?_getD, List.getElem?_eq_getElem (by omega : 0 < hs.length)]
 rfl
theorem nS.KK {gv cv g1 n1 c1 : Nat} (h : nS w W X b2 b5 g s vt lt v hs ls) (hl : 0 < ls.length) (hl2 : 0 < (ls.getD 0 []).length) (ev : v = .slice (some ⟨gv, 0, none⟩) ls.length cv) (eh : hs.getD 0 undef = .slice (some ⟨g1, 0, none⟩) n1 c1) :
  W.cell? ⟨gv, 0, none⟩ = some (.slice (some ⟨g1, 0, none⟩) n1 c1) ∧ (∃ u, W.cell? ⟨g1, 0, none⟩ = some (.int .i64 u)) ∧ W.frozen? ⟨g1, 0, none⟩ = false := by
 obtain ⟨gv', cv', g1', n1', c1', a1, a2, a3, -⟩ := h.head hl hl2
 rw [ev] at a1
 injection a1 with a1 _ _
 injection a1 with a1
 injection a1 with a1
 subst a1
 rw [eh] at a2
 rw [← a2] at a3
 refine ⟨a3, ?_⟩
 rcases (h.row.el 0 hl).2 with ⟨_, h0⟩ | ⟨g2, c2, cur1, e1, -, k1, k2, -, k3, k4⟩
 ·omega
 rw [eh] at e1
 injection e1 with e1 _ _
 injection e1 with e1
 injection e1 with e1
 subst e1
 have hc : cur1[0]? = some (.int .i64 (ls.getD 0 [])[0]) := by
  have : (cur1.toList.take ((ls.getD 0 []).length * 1))[0]? = ((ls.getD 0 []).map (Value.int .i64))[0]? := by rw [k4]
  rw [List.getElem?_take_of_lt (by omega), List.getElem?_map, List.getElem?_eq_getElem hl2] at this
  simpa using this
 exact ⟨⟨_, by simp only [World.cell?, k1, hc]; rfl⟩, by simp [World.frozen?, k1]⟩
theorem nS.pick {u : Value} {l : List Int} {y : Int} {s' : dg} {W0 : World} (h : nS w W X b2 b5 g s vt lt v hs ls) (h0 : nS w W0 X b2 b5 g s vt lt v hs ls) (hu : bOw W W0.heap.size u l) (hy : bT.f s l = some (y, s')) :
  Calls Try.prog 136 #[.pointer (some ⟨g, 0, none⟩), u] W fun e w' => e = .returned (.int .i64 y) ∧ nS w w' X b2 b5 g s' vt lt v hs ls :=
 (LS 0 (N := fun _ => False) h.src (hu.rl fun r hr hx => by
  rcases hx with hx | hx
  ·have := (h0.inB r hx).1; omega
  ·have := h0.gl; omega) h.inB hy).mono fun e w' ⟨h1, h2, h3⟩ => ⟨h1, h.drawn h3 h2⟩
theorem zR {w : World} {base : Nat} {ok : Nat → Prop} {u : Value} {l : List Int} (h : Kd.R (Kd.int .i64) 2 w base ok u l) : bOw w base u l := by
 obtain ⟨-, inner, ho, hr⟩ := h
 have := Ha hr
 subst this
 exact ho
end
end Go.Proofs.Ytcbhhbkghbnljaa.Vf
end
