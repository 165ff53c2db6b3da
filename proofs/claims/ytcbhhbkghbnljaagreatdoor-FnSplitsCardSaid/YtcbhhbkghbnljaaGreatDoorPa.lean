/- The program's PutSets: what the walk gives. Conditions: as each theorem states. My own. -/
import Derived.Test.YtcbhhbkghbnljaaGreatDoorFa
import Derived.Test.YtcbhhbkghbnljaaGreatDoorVc
import Derived.Deep.OwnRows
import Derived.Laws.CopyOwn
import Derived.Laws.MakeOwn
import Derived.Deep.LoopGhost
import Derived.Tactics
import Derived.WalkKit
import Derived.BigQuiet
import Derived.Deep.RegionLaw
import Derived.Deep.DeepCutAuto
import Derived.OwnWalk
import Derived.Maps.AppendAt
import Derived.Maps.OwnSet
import Derived.Deep.AppendLies
import Derived.BigRegion
import Derived.Handy
import Derived.Carry
section
set_option linter.unusedVariables false
set_option maxRecDepth 100000
noncomputable section
namespace Go.Proofs.YtcbhhbkghbnljaaGreatDoor.Vf
open Go Go.V Go.RowKit Go.Proofs
abbrev bLT : Ty := .list (.int .i64)
def bRL (w : World) (N : Nat → Prop) (v : Value) (l : List Int) : Prop := Rc w N bLT l [v]
def bOw (w : World) (base : Nat) (v : Value) (l : List Int) : Prop := w.ownsRow base 2 1 v l.length (l.map (Value.int .i64))
theorem n_lt {w : World} {b : Nat} {o : Obj} (h : w.heap[b]? = some o) : b < w.heap.size := by
 rcases Nat.lt_or_ge b w.heap.size with c | c
 ·exact c
 ·rw [Array.getElem?_eq_none c] at h; cases h
theorem b_elems {w : World} {N : Nat → Prop} : ∀ {l : List Int} {xs : List Value}, Elems w N (.int .i64) l xs ↔ xs = l.map (Value.int .i64)
 | [], xs => Iff.rfl
 | x :: l, xs => by
  constructor
  ·rintro ⟨c, d, e, h, k⟩
   have h : c = [Value.int .i64 x] := h
   rw [e, h, b_elems.1 k]; rfl
  ·intro h
   exact ⟨[Value.int .i64 x], l.map (Value.int .i64), h, rfl, b_elems.2 rfl⟩
theorem bOw.base0 {w : World} {base : Nat} {v : Value} {l : List Int} (h : bOw w base v l) : bOw w 0 v l := by
 refine ⟨h.1, ?_⟩
 rcases h.2 with h | ⟨g, cap, cur, e, hb, rest⟩
 ·exact .inl h
 ·exact .inr ⟨g, cap, cur, e, Nat.zero_le _, rest⟩
theorem bOw.rl {w : World} {base : Nat} {v : Value} {l : List Int} {N : Nat → Prop} (h : bOw w base v l) (hN : ∀ r, base ≤ r → ¬ N r) : bRL w N v l := by
 refine row_Rc (t := .int .i64) (N := N) (show w.ownsRow 0 2 1 v (List.length l) _ from h.base0) (b_elems.2 rfl) (fun _ h => h) (fun r hr => ?_)
 rcases h.2 with ⟨rfl, _⟩ | ⟨g, cap, cur, rfl, hb, rest⟩
 ·cases hr
 ·have e : g = r := by simpa [blockOf] using hr
  exact hN r (by omega)
theorem bOw.keep {w w' : World} {base : Nat} {v : Value} {l : List Int} (h : bOw w base v l) (hk : ∀ r, base ≤ r → r < w.heap.size → w'.heap[r]? = w.heap[r]?) : bOw w' base v l := by
 refine ⟨h.1, ?_⟩
 rcases h.2 with h | ⟨g, cap, cur, e, hb, hg, rest⟩
 ·exact .inl h
 ·exact .inr ⟨g, cap, cur, e, hb, (hk g hb (n_lt hg)).trans hg, rest⟩
theorem bOw.mono {w : World} {base base' : Nat} {v : Value} {l : List Int} (h : bOw w base v l) (hb : base' ≤ base) : bOw w base' v l := by
 refine ⟨h.1, ?_⟩
 rcases h.2 with h | ⟨g, cap, cur, e, hg, rest⟩
 ·exact .inl h
 ·exact .inr ⟨g, cap, cur, e, Nat.le_trans hb hg, rest⟩
theorem bRL.keep {w w' : World} {N N' : Nat → Prop} {v : Value} {l : List Int} (h : bRL w N v l) (hk : ∀ r, ¬ N r → r < w.heap.size → ¬ N' r ∧ w'.heap[r]? = w.heap[r]?) : bRL w' N' v l := by
 refine Rc.move (fun r o hn ho => ?_) h
 exact ⟨(hk r hn (n_lt ho)).1, (hk r hn (n_lt ho)).2.trans ho⟩
theorem bRL.one {w : World} {N : Nat → Prop} {v : Value} {l : List Int} (h : bRL w N v l) : v.oneCell' = true := Rc.oneCell h v (List.mem_singleton.2 rfl)
theorem bOw.sl {w : World} {base : Nat} {v : Value} {l : List Int} (h : bOw w base v l) (hl : l ≠ []) : ∃ g c, v = .slice (some ⟨g, 0, none⟩) l.length c ∧ l.length ≤ c ∧ base ≤ g ∧ ∀ (i : Nat), i < l.length → w.cell? ⟨g, i, none⟩ = some (.int .i64 (V.rd l i)) := by
 rcases h.2 with ⟨_, h0⟩ | ⟨g, cap, cur, h0, hb, hg, hc, hm, hs, ht⟩
 ·exact absurd (List.eq_nil_of_length_eq_zero h0) hl
 ·refine ⟨g, cap, h0, hc, hb, fun i hi => ?_⟩
  have h3 : (List.take (l.length * 1) cur.toList)[i]? = some (.int .i64 (V.rd l i)) := by
   rw [ht, List.getElem?_map]
   unfold V.rd
   rw [Int.toNat_natCast, List.getD_eq_getElem?_getD, List.getElem?_eq_getElem hi]; rfl
  rw [List.getElem?_take] at h3
  split at h3
  ·simp only [World.cell?, hg]
   rw [← Array.getElem?_toList]; exact h3
  ·cases h3
theorem bOw.take {w : World} {base g c : Nat} {l : List Int} {n : Nat} (h : bOw w base (.slice (some ⟨g, 0, none⟩) l.length c) l) (hn : n ≤ l.length) : bOw w base (.slice (some ⟨g, 0, none⟩) n c) (l.take n) := by
 have e : (l.take n).length = n := by rw [List.length_take]; omega
 unfold bOw
 rw [e]
 refine ⟨by rw [List.length_map, e]; omega, ?_⟩
 rcases h.2 with ⟨h0, _⟩ | ⟨g', cap, cur, h0, hb, hg, hc, hm, hs, ht⟩
 ·cases h0
 ·cases h0
  refine .inr ⟨g, c, cur, rfl, hb, hg, by omega, hm, hs, ?_⟩
  rw [List.map_take, ← ht, List.take_take]
  congr 1; omega
def GB (B : Nat) (W : World) : Prop := Gl Tryz.prog W fun r => B ≤ r
theorem GB.any {B : Nat} {W : World} (h : GB B W) (Q : Nat → Prop) (hQ : ∀ r, Q r → False) : Gl Tryz.prog W Q := h.move (Frame0.refl _ (fun r => B ≤ r)) fun r hr => (hQ r hr).elim
theorem GB.keep {B : Nat} {W W' : World} (h : GB B W) (hs : W.heap.size ≤ W'.heap.size) (hk : ∀ r, r < B → W'.heap[r]? = W.heap[r]?) : GB B W' := by
 intro g hg
 obtain ⟨h1, h2, h3⟩ := h g hg
 refine ⟨h1, Nat.lt_of_lt_of_le h2 hs, ?_⟩
 unfold Lib.TabIs World.var? at h3 ⊢
 rw [hg, Option.bind_some] at h3 ⊢
 rw [hk g (Nat.lt_of_not_le h1)]
 exact h3
theorem GB.below {B : Nat} {W W' : World} (h : GB B W) (hb : Below B W W') : GB B W' := h.keep hb.size fun r hr => hb.block r hr
theorem GB.new {W : World} (h : Gl Tryz.prog W fun _ => False) : GB W.heap.size W := fun g hg => ⟨Nat.not_le.2 (h g hg).2.1, (h g hg).2.1, (h g hg).2.2⟩
abbrev Fin (rs : List (Bool × List D1)) (w w' : World) (e : Ending) (B : Nat → Prop) (N : List Value → Nat → Prop) (us : List Value) (y : dens (flatC rs)) : Prop :=
 ∃ v vs rc, e = .returned v ∧ Gives v vs ∧ CompsV rs vs rc ∧ Frame0 w w' B ∧ PL w' (N rc) (flatC rs) y (rc ++ us) ∧ (ownB (flatC rs) rc).Nodup ∧ ∀ r ∈ ownB (flatC rs) rc, w.heap.size ≤ r
theorem fin_b {w w' : World} {e : Ending} {B : Nat → Prop} {N : List Value → Nat → Prop} {us : List Value} {y : Bool} (h : Fin [(false, [.dat .bool])] w w' e B N us y) (hB : ∀ r, ¬ B r) : e = .returned (.bool y) ∧ Below w.heap.size w w' := by
 obtain ⟨u, vs, rc, rfl, hg, hc, hf, hp, -⟩ := h
 obtain ⟨v1, vs1, cs1, -, rfl, -, rfl, rfl, rfl⟩ := hc
 obtain ⟨u1, e1, h1⟩ := hp
 obtain ⟨rfl, -⟩ := List.cons.inj e1
 have h1 : [v1] = [Value.bool y] := h1
 cases h1
 have hg : u = _ := hg
 subst hg
 exact ⟨rfl, hf.os, hf.tape, hf.output, hf.size, fun k hk => hf.block k hk (hB k)⟩
theorem fin_i {w w' : World} {e : Ending} {B : Nat → Prop} {N : List Value → Nat → Prop} {us : List Value} {y : Int} (h : Fin [(false, [.dat (.int .i64)])] w w' e B N us y) (hB : ∀ r, ¬ B r) : e = .returned (.int .i64 y) ∧ Below w.heap.size w w' := by
 obtain ⟨u, vs, rc, rfl, hg, hc, hf, hp, -⟩ := h
 obtain ⟨v1, vs1, cs1, -, rfl, -, rfl, rfl, rfl⟩ := hc
 obtain ⟨u1, e1, h1⟩ := hp
 obtain ⟨rfl, -⟩ := List.cons.inj e1
 have h1 : [v1] = [Value.int .i64 y] := h1
 cases h1
 have hg : u = _ := hg
 subst hg
 exact ⟨rfl, hf.os, hf.tape, hf.output, hf.size, fun k hk => hf.block k hk (hB k)⟩
theorem fin_s {w w' : World} {e : Ending} {B : Nat → Prop} {N : List Value → Nat → Prop} {us : List Value} {y : ByteArray} (h : Fin [(false, [.dat .str])] w w' e B N us y) (hB : ∀ r, ¬ B r) : e = .returned (.string y) ∧ Below w.heap.size w w' := by
 obtain ⟨u, vs, rc, rfl, hg, hc, hf, hp, -⟩ := h
 obtain ⟨v1, vs1, cs1, -, rfl, -, rfl, rfl, rfl⟩ := hc
 obtain ⟨u1, e1, h1⟩ := hp
 obtain ⟨rfl, -⟩ := List.cons.inj e1
 have h1 : [v1] = [Value.string y] := h1
 cases h1
 have hg : u = _ := hg
 subst hg
 exact ⟨rfl, hf.os, hf.tape, hf.output, hf.size, fun k hk => hf.block k hk (hB k)⟩
theorem fin_bi {w w' : World} {e : Ending} {B : Nat → Prop} {N : List Value → Nat → Prop} {us : List Value} {y : Bool × Int} (h : Fin [(false, [.dat .bool]), (false, [.dat (.int .i64)])] w w' e B N us y) (hB : ∀ r, ¬ B r) : e = .returned (.tuple #[.bool y.1, .int .i64 y.2]) ∧ Below w.heap.size w w' := by
 obtain ⟨u, vs, rc, rfl, hg, hc, hf, hp, -⟩ := h
 obtain ⟨v1, vs1, cs1, -, rfl, -, rfl, v2, vs2, cs2, -, rfl, -, rfl, rfl, rfl⟩ := hc
 obtain ⟨u1, us1, e1, h1, u2, e2, h2⟩ := hp
 obtain ⟨rfl, rfl⟩ := List.cons.inj e1
 obtain ⟨rfl, -⟩ := List.cons.inj e2
 have h1 : [v1] = [Value.bool y.1] := h1
 have h2 : [v2] = [Value.int .i64 y.2] := h2
 cases h1; cases h2
 have hg : u = _ := hg
 subst hg
 exact ⟨rfl, hf.os, hf.tape, hf.output, hf.size, fun k hk => hf.block k hk (hB k)⟩
theorem fin_o {w w' : World} {e : Ending} {B : Nat → Prop} {N : List Value → Nat → Prop} {us : List Value} {y : List Int} (h : Fin [(false, [.own 2 (.int .i64)])] w w' e B N us y) (hB : ∀ r, ¬ B r) : ∃ u, e = .returned u ∧ bOw w' w.heap.size u y ∧ Below w.heap.size w w' := by
 obtain ⟨u, vs, rc, rfl, hg, hc, hf, hp, -, hfr⟩ := h
 obtain ⟨v1, vs1, cs1, -, rfl, -, rfl, rfl, rfl⟩ := hc
 obtain ⟨u1, e1, h1⟩ := hp
 obtain ⟨rfl, -⟩ := List.cons.inj e1
 obtain ⟨xs, ho, hE⟩ := h1
 have hg : u = _ := hg
 subst hg
 have hE := b_elems.1 hE
 subst hE
 refine ⟨_, rfl, ⟨ho.1, ?_⟩, hf.os, hf.tape, hf.output, hf.size, fun k hk => hf.block k hk (hB k)⟩
 rcases ho.2 with h | ⟨g, cap, cur, e, hb, rest⟩
 ·exact .inl h
 ·exact .inr ⟨g, cap, cur, e, hfr g (by subst e; simp [ownB, flatC, blockOf]), rest⟩
abbrev pI : Bool × List D1 := (false, [.dat (.int .i64)])
abbrev pL : Bool × List D1 := (false, [.dat bLT])
abbrev pT : Bool × List D1 := (true, [.dat bLT])
variable {f : FuncId} {w : World} {N : Nat → Prop} {B : Nat} {v : Value} {l : List Int}
theorem c_I_b {F : Int → Option Bool} {x : Int} {y : Bool} (hm : Meets Tryz.prog f ⟨[pI], [(false, [.dat .bool])], F⟩) (hg : GB B w) (hy : F x = some y) : Calls Tryz.prog f #[.int .i64 x] w fun e w' => e = .returned (.bool y) ∧ Below w.heap.size w w' :=
 (hm.calls w (fun _ => False) [.int .i64 x] [.int .i64 x] x y ⟨_, _, _, rfl, rfl, rfl, rfl, rfl, rfl⟩ (fun _ h => h.elim) ⟨_, rfl, rfl⟩ List.nodup_nil (hg.any _ fun r h => by cases h) hy).mono fun e w' h => fin_b h fun r h => by cases h
theorem c_I_i {F : Int → Option Int} {x : Int} {y : Int} (hm : Meets Tryz.prog f ⟨[pI], [(false, [.dat (.int .i64)])], F⟩) (hg : GB B w) (hy : F x = some y) : Calls Tryz.prog f #[.int .i64 x] w fun e w' => e = .returned (.int .i64 y) ∧ Below w.heap.size w w' :=
 (hm.calls w (fun _ => False) [.int .i64 x] [.int .i64 x] x y ⟨_, _, _, rfl, rfl, rfl, rfl, rfl, rfl⟩ (fun _ h => h.elim) ⟨_, rfl, rfl⟩ List.nodup_nil (hg.any _ fun r h => by cases h) hy).mono fun e w' h => fin_i h fun r h => by cases h
theorem c_III_b {F : Int × Int × Int → Option Bool} {a b c : Int} {y : Bool} (hm : Meets Tryz.prog f ⟨[pI, pI, pI], [(false, [.dat .bool])], F⟩) (hg : GB B w) (hy : F (a, b, c) = some y) : Calls Tryz.prog f #[.int .i64 a, .int .i64 b, .int .i64 c] w fun e w' => e = .returned (.bool y) ∧ Below w.heap.size w w' :=
 (hm.calls w (fun _ => False) [.int .i64 a, .int .i64 b, .int .i64 c] [.int .i64 a, .int .i64 b, .int .i64 c] (a, b, c) y ⟨_, _, _, rfl, rfl, rfl, rfl, _, _, _, rfl, rfl, rfl, rfl, _, _, _, rfl, rfl, rfl, rfl, rfl, rfl⟩ (fun _ h => h.elim) ⟨_, _, rfl, rfl, _, _, rfl, rfl, _, rfl, rfl⟩ List.nodup_nil (hg.any _ fun r h => by cases h) hy).mono fun e w' h => fin_b h fun r h => by cases h
theorem c_L_i {F : List Int → Option Int} {y : Int} (hm : Meets Tryz.prog f ⟨[pL], [(false, [.dat (.int .i64)])], F⟩) (hg : GB B w) (h : bRL w N v l) (hy : F l = some y) : Calls Tryz.prog f #[v] w fun e w' => e = .returned (.int .i64 y) ∧ Below w.heap.size w w' :=
 (hm.calls w (fun _ => False) [v] [v] l y ⟨_, _, _, rfl, rfl, h.one, rfl, rfl, rfl⟩ (fun _ h => h.elim) ⟨_, rfl, h.weaken (fun b hb => by rcases hb with hb | hb; exact hb.elim; cases hb)⟩ List.nodup_nil (hg.any _ fun r h => by cases h) hy).mono fun e w' h => fin_i h fun r h => by cases h
theorem c_T_i {F : List Int → Option Int} {y : Int} (hm : Meets Tryz.prog f ⟨[pT], [(false, [.dat (.int .i64)])], F⟩) (hg : GB B w) (h : bRL w N v l) (hy : F l = some y) : Calls Tryz.prog f #[.agg #[v]] w fun e w' => e = .returned (.int .i64 y) ∧ Below w.heap.size w w' :=
 (hm.calls w (fun _ => False) [.agg #[v]] [v] l y ⟨[v], _, _, rfl, rfl, rfl, rfl, rfl⟩ (fun _ h => h.elim) ⟨_, rfl, h.weaken (fun b hb => by rcases hb with hb | hb; exact hb.elim; cases hb)⟩ List.nodup_nil (hg.any _ fun r h => by cases h) hy).mono fun e w' h => fin_i h fun r h => by cases h
theorem c_T_bi {F : List Int → Option (Bool × Int)} {y : Bool × Int} (hm : Meets Tryz.prog f ⟨[pT], [(false, [.dat .bool]), (false, [.dat (.int .i64)])], F⟩) (hg : GB B w) (h : bRL w N v l) (hy : F l = some y) : Calls Tryz.prog f #[.agg #[v]] w fun e w' => e = .returned (.tuple #[.bool y.1, .int .i64 y.2]) ∧ Below w.heap.size w w' :=
 (hm.calls w (fun _ => False) [.agg #[v]] [v] l y ⟨[v], _, _, rfl, rfl, rfl, rfl, rfl⟩ (fun _ h => h.elim) ⟨_, rfl, h.weaken (fun b hb => by rcases hb with hb | hb; exact hb.elim; cases hb)⟩ List.nodup_nil (hg.any _ fun r h => by cases h) hy).mono fun e w' h => fin_bi h fun r h => by cases h
theorem c_TB_i {F : List Int × Bool → Option Int} {b : Bool} {y : Int} (hm : Meets Tryz.prog f ⟨[pT, (false, [.dat .bool])], [(false, [.dat (.int .i64)])], F⟩) (hg : GB B w) (h : bRL w N v l) (hy : F (l, b) = some y) : Calls Tryz.prog f #[.agg #[v], .bool b] w fun e w' => e = .returned (.int .i64 y) ∧ Below w.heap.size w w' :=
 (hm.calls w (fun _ => False) [.agg #[v], .bool b] [v, .bool b] (l, b) y ⟨[v], _, _, rfl, rfl, rfl, _, _, _, rfl, rfl, rfl, rfl, rfl, rfl⟩ (fun _ h => h.elim) ⟨_, _, rfl, h.weaken (fun b hb => by rcases hb with hb | hb; exact hb.elim; cases hb), _, rfl, rfl⟩ List.nodup_nil (hg.any _ fun r h => by cases h) hy).mono fun e w' h => fin_i h fun r h => by cases h
theorem c_LS_s {F : List Int × ByteArray → Option ByteArray} {s y : ByteArray} (hm : Meets Tryz.prog f ⟨[pL, (false, [.dat .str])], [(false, [.dat .str])], F⟩) (hg : GB B w) (h : bRL w N v l) (hy : F (l, s) = some y) : Calls Tryz.prog f #[v, .string s] w fun e w' => e = .returned (.string y) ∧ Below w.heap.size w w' :=
 (hm.calls w (fun _ => False) [v, .string s] [v, .string s] (l, s) y ⟨_, _, _, rfl, rfl, h.one, rfl, _, _, _, rfl, rfl, rfl, rfl, rfl, rfl⟩ (fun _ h => h.elim) ⟨_, _, rfl, h.weaken (fun b hb => by rcases hb with hb | hb; exact hb.elim; cases hb), _, rfl, rfl⟩ List.nodup_nil (hg.any _ fun r h => by cases h) hy).mono fun e w' h => fin_s h fun r h => by cases h
theorem c_LI_b {F : List Int × Int → Option Bool} {x : Int} {y : Bool} (hm : Meets Tryz.prog f ⟨[pL, pI], [(false, [.dat .bool])], F⟩) (hg : GB B w) (h : bRL w N v l) (hy : F (l, x) = some y) : Calls Tryz.prog f #[v, .int .i64 x] w fun e w' => e = .returned (.bool y) ∧ Below w.heap.size w w' :=
 (hm.calls w (fun _ => False) [v, .int .i64 x] [v, .int .i64 x] (l, x) y ⟨_, _, _, rfl, rfl, h.one, rfl, _, _, _, rfl, rfl, rfl, rfl, rfl, rfl⟩ (fun _ h => h.elim) ⟨_, _, rfl, h.weaken (fun b hb => by rcases hb with hb | hb; exact hb.elim; cases hb), _, rfl, rfl⟩ List.nodup_nil (hg.any _ fun r h => by cases h) hy).mono fun e w' h => fin_b h fun r h => by cases h
theorem c_LI_i {F : List Int × Int → Option Int} {x y : Int} (hm : Meets Tryz.prog f ⟨[pL, pI], [(false, [.dat (.int .i64)])], F⟩) (hg : GB B w) (h : bRL w N v l) (hy : F (l, x) = some y) : Calls Tryz.prog f #[v, .int .i64 x] w fun e w' => e = .returned (.int .i64 y) ∧ Below w.heap.size w w' :=
 (hm.calls w (fun _ => False) [v, .int .i64 x] [v, .int .i64 x] (l, x) y ⟨_, _, _, rfl, rfl, h.one, rfl, _, _, _, rfl, rfl, rfl, rfl, rfl, rfl⟩ (fun _ h => h.elim) ⟨_, _, rfl, h.weaken (fun b hb => by rcases hb with hb | hb; exact hb.elim; cases hb), _, rfl, rfl⟩ List.nodup_nil (hg.any _ fun r h => by cases h) hy).mono fun e w' h => fin_i h fun r h => by cases h
theorem c_LI_o {F : List Int × Int → Option (List Int)} {x : Int} {y : List Int} (hm : Meets Tryz.prog f ⟨[pL, pI], [(false, [.own 2 (.int .i64)])], F⟩) (hg : GB B w) (h : bRL w N v l) (hy : F (l, x) = some y) : Calls Tryz.prog f #[v, .int .i64 x] w fun e w' => ∃ u, e = .returned u ∧ bOw w' w.heap.size u y ∧ Below w.heap.size w w' :=
 (hm.calls w (fun _ => False) [v, .int .i64 x] [v, .int .i64 x] (l, x) y ⟨_, _, _, rfl, rfl, h.one, rfl, _, _, _, rfl, rfl, rfl, rfl, rfl, rfl⟩ (fun _ h => h.elim) ⟨_, _, rfl, h.weaken (fun b hb => by rcases hb with hb | hb; exact hb.elim; cases hb), _, rfl, rfl⟩ List.nodup_nil (hg.any _ fun r h => by cases h) hy).mono fun e w' h => fin_o h fun r h => by cases h
theorem c_LC_b {g : FuncId} (hgf : Nat.ble bfst g = false) {F : List Int × (Int × Int) → Option Bool} {b3 b4 : Nat} {x3 x4 : Int} {y : Bool} (hm : Meets Tryz.prog f ⟨[pL, (false, [.dat (.clo g (.pair (.ptr (.int .i64)) (.ptr (.int .i64))))])], [(false, [.dat .bool])], F⟩) (hg : GB B w) (h : bRL w N v l)
  (h3 : w.cell? ⟨b3, 0, none⟩ = some (.int .i64 x3)) (h4 : w.cell? ⟨b4, 0, none⟩ = some (.int .i64 x4)) (hy : F (l, (x3, x4)) = some y) :
  Calls Tryz.prog f #[v, .func (.func g) #[] #[.pointer (some ⟨b3, 0, none⟩), .pointer (some ⟨b4, 0, none⟩)]] w fun e w' => e = .returned (.bool y) ∧ Below w.heap.size w w' := by
 have ea : ∀ b : Nat, (⟨b, 0, none⟩ : Addr).add 0 = ⟨b, 0, none⟩ := fun b => by unfold Addr.add; split <;> simp_all
 have hp : ∀ (N : Nat → Prop) (b : Nat) (x : Int), (∀ r, ¬ N r) → w.cell? ⟨b, 0, none⟩ = some (.int .i64 x) → Rc w N (.ptr (.int .i64)) x [.pointer (some ⟨b, 0, none⟩)] := fun N b x hN hc =>
  ⟨⟨b, 0, none⟩, rfl, [.int .i64 x], rfl, fun j hj => by
   have hj : j < 1 := hj
   obtain rfl : j = 0 := by omega
   rw [ea]
   exact ⟨hN _, hc⟩, rfl⟩
 have hNF : ∀ r, ¬ ((fun r => False ∨ r ∈ ownB (flatC [pL, (false, [D1.dat (.clo g (.pair (.ptr (.int .i64)) (.ptr (.int .i64))))])]) [v, .func (.func g) #[] #[.pointer (some ⟨b3, 0, none⟩), .pointer (some ⟨b4, 0, none⟩)]]) r) := fun r hr => by rcases hr with h | h; exact h; cases h
 exact (hm.calls w (fun _ => False) [v, .func (.func g) #[] #[.pointer (some ⟨b3, 0, none⟩), .pointer (some ⟨b4, 0, none⟩)]] [v, .func (.func g) #[] #[.pointer (some ⟨b3, 0, none⟩), .pointer (some ⟨b4, 0, none⟩)]] (l, (x3, x4)) y
  ⟨_, _, _, rfl, rfl, h.one, rfl, _, _, _, rfl, rfl, rfl, rfl, rfl, rfl⟩ (fun _ h => h.elim) ⟨_, _, rfl, h.weaken (fun b hb => (hNF b hb).elim), _, rfl, [.pointer (some ⟨b3, 0, none⟩), .pointer (some ⟨b4, 0, none⟩)], by rw [cloV_low hgf], [.pointer (some ⟨b3, 0, none⟩)], [.pointer (some ⟨b4, 0, none⟩)], rfl, hp _ _ _ hNF h3, hp _ _ _ hNF h4⟩ List.nodup_nil (hg.any _ fun r h => by cases h) hy).mono fun e w' h => fin_b h fun r h => by cases h
end Go.Proofs.YtcbhhbkghbnljaaGreatDoor.Vf
end
section
set_option linter.unusedVariables false
noncomputable section
namespace Go.Proofs.YtcbhhbkghbnljaaGreatDoor.Vf
open Go Go.V Go.RowKit Go.Proofs
theorem rd_n (l : List Int) (i : Nat) : V.rd l (i : Int) = l.getD i 0 := by unfold V.rd; rw [Int.toNat_natCast]
theorem rd_m {l : List Int} {i : Nat} (h : i < l.length) : V.rd l (i : Int) ∈ l := by
 rw [rd_n, List.getD_eq_getElem?_getD, List.getElem?_eq_getElem h]; exact List.getElem_mem h
theorem mem_set {l : List Int} {n : Nat} {x y : Int} (h : y ∈ l.set n x) : y = x ∨ y ∈ l := by
 rcases List.mem_or_eq_of_mem_set h with h | h
 ·exact .inr h
 ·exact .inl h
def bitS (s : Int) (i : Nat) : Bool := s.toNat.testBit i
def idxS : List Int → Int
 | [] => -1
 | a :: r => if a = -1 then 0 else if idxS r < 0 then -1 else idxS r + 1
theorem idxS_bnd : ∀ sl : List Int, -1 ≤ idxS sl ∧ idxS sl < sl.length ∧ (idxS sl ≠ -1 → 0 ≤ idxS sl ∧ V.rd sl (idxS sl) = -1)
 | [] => by simp [idxS]
 | a :: r => by
  obtain ⟨h1, h2, h3⟩ := idxS_bnd r
  unfold idxS
  by_cases c : a = -1
  ·rw [if_pos c]; subst c
   refine ⟨by omega, by rw [List.length_cons]; omega, fun _ => ⟨by omega, rfl⟩⟩
  ·rw [if_neg c]
   by_cases d : idxS r < 0
   ·rw [if_pos d]; exact ⟨by omega, by rw [List.length_cons]; omega, fun h => absurd rfl h⟩
   ·rw [if_neg d]
    refine ⟨by omega, by rw [List.length_cons]; omega, fun _ => ⟨by omega, ?_⟩⟩
    obtain ⟨-, h5⟩ := h3 (by omega)
    obtain ⟨n, hn⟩ := Int.eq_ofNat_of_zero_le (show 0 ≤ idxS r by omega)
    rw [hn, rd_n] at h5
    rw [hn, show (n : Int) + 1 = ((n + 1 : Nat) : Int) by omega, rd_n]
    exact h5
def stepP (must : Bool) (la : List Int) (s : Int) (i : Nat) (sl : List Int) : List Int :=
 if bitS s i = false then sl else if (i : Int) ∈ sl then sl else
  if (if must = true then V.rd la i else idxS sl) ≠ -1 ∧ V.rd sl (if must = true then V.rd la i else idxS sl) = -1 then sl.set (if must = true then V.rd la i else idxS sl).toNat i else sl
def pasS (must : Bool) (la : List Int) (s : Int) (sl : List Int) : Nat → List Int
 | 0 => sl
 | i + 1 => stepP must la s i (pasS must la s sl i)
def passes (K M : Nat) (la : List Int) (s : Int) : Nat → List Int
 | 0 => List.replicate M (-1)
 | 1 => pasS true la s (List.replicate M (-1)) K
 | _ => pasS false la s (pasS true la s (List.replicate M (-1)) K) K
def slotF (K M : Nat) (la : List Int) (s : Int) : List Int := passes K M la s 2
def lasS (sl la : List Int) : Nat → List Int
 | 0 => la
 | c + 1 => if V.rd sl c ≠ -1 then (lasS sl la c).set (V.rd sl c).toNat c else lasS sl la c
def laA (K M : Nat) (l : List Int) : Nat → List Int
 | 0 => List.replicate K (-1)
 | n + 1 => lasS (slotF K M (laA K M l n) (V.rd l n)) (laA K M l n) M
def slA (K M : Nat) (l : List Int) (n : Nat) : List Int := slotF K M (laA K M l n) (V.rd l n)
def rowA (K M : Nat) (l : List Int) (n c : Nat) : List Int := (List.range n).map fun j => V.rd (slA K M l j) c
theorem rowA_len (K M : Nat) (l : List Int) (n c : Nat) : (rowA K M l n c).length = n := by simp [rowA]
theorem rowA_succ (K M : Nat) (l : List Int) (n c : Nat) : rowA K M l (n + 1) c = rowA K M l n c ++ [V.rd (slA K M l n) c] := by simp [rowA, List.range_succ]
def putA (K M : Nat) (l : List Int) : List (List Int) := (List.range M).map fun c => rowA K M l l.length c
structure OkL (b : Int) (n : Nat) (l : List Int) : Prop where
 len : l.length = n
 el : ∀ x ∈ l, -1 ≤ x ∧ x < b
theorem OkL.rep (b : Int) (n : Nat) (h : 0 ≤ b) : OkL b n (List.replicate n (-1)) := ⟨by simp, fun x hx => by rw [List.eq_of_mem_replicate hx]; omega⟩
theorem OkL.set {b : Int} {n : Nat} {l : List Int} (h : OkL b n l) {j : Nat} {x : Int} (hx : -1 ≤ x ∧ x < b) : OkL b n (l.set j x) := ⟨by rw [List.length_set]; exact h.len, fun y hy => by
 rcases mem_set hy with rfl | hy
 ·exact hx
 ·exact h.el y hy⟩
theorem OkL.rd {b : Int} {n : Nat} {l : List Int} (h : OkL b n l) {i : Nat} (hi : i < n) : -1 ≤ V.rd l i ∧ V.rd l i < b := h.el _ (rd_m (by rw [h.len]; exact hi))
theorem stepP_ok {K M : Nat} {must : Bool} {la sl : List Int} {s : Int} {i : Nat} (hi : i < K) (h : OkL K M sl) : OkL K M (stepP must la s i sl) := by
 unfold stepP
 by_cases c1 : bitS s i = false
 ·rw [if_pos c1]; exact h
 ·rw [if_neg c1]
  by_cases c2 : (i : Int) ∈ sl
  ·rw [if_pos c2]; exact h
  ·rw [if_neg c2]
   by_cases c3 : (if must = true then V.rd la i else idxS sl) ≠ -1 ∧ V.rd sl (if must = true then V.rd la i else idxS sl) = -1
   ·rw [if_pos c3]; exact h.set (by omega)
   ·rw [if_neg c3]; exact h
theorem pasS_ok {K M : Nat} {must : Bool} {la : List Int} {s : Int} {sl : List Int} (h : OkL K M sl) : ∀ i, i ≤ K → OkL K M (pasS must la s sl i)
 | 0, _ => h
 | i + 1, hi => stepP_ok (by omega) (pasS_ok h i (by omega))
theorem passes_ok (K M : Nat) (la : List Int) (s : Int) : ∀ j, OkL K M (passes K M la s j)
 | 0 => .rep _ _ (by omega)
 | 1 => pasS_ok (.rep _ _ (by omega)) K (Nat.le_refl _)
 | _ + 2 => pasS_ok (pasS_ok (.rep _ _ (by omega)) K (Nat.le_refl _)) K (Nat.le_refl _)
theorem lasS_ok {K M : Nat} {sl la : List Int} (h : OkL M K la) : ∀ c, c ≤ M → OkL M K (lasS sl la c)
 | 0, _ => h
 | c + 1, hc => by
  unfold lasS
  split
  ·exact (lasS_ok h c (by omega)).set (by omega)
  ·exact lasS_ok h c (by omega)
theorem laA_ok (K M : Nat) (l : List Int) : ∀ n, OkL M K (laA K M l n)
 | 0 => .rep _ _ (by omega)
 | n + 1 => lasS_ok (laA_ok K M l n) M (Nat.le_refl _)
theorem slA_ok (K M : Nat) (l : List Int) (n : Nat) : OkL K M (slA K M l n) := passes_ok K M _ _ 2
theorem to_ok {K M : Nat} {must : Bool} {la sl : List Int} {i : Nat} (hl : OkL M K la) (hs : OkL K M sl) (hi : i < K) :
  -1 ≤ (if must = true then V.rd la i else idxS sl) ∧ (if must = true then V.rd la i else idxS sl) < M := by
 cases must with
 | true => exact hl.rd hi
 | false => have := idxS_bnd sl; rw [hs.len] at this; exact ⟨this.1, this.2.1⟩
end Go.Proofs.YtcbhhbkghbnljaaGreatDoor.Vf
end
section
set_option linter.unusedVariables false
noncomputable section
namespace Go.Proofs.YtcbhhbkghbnljaaGreatDoor.Vf
open Go Go.V Go.RowKit Go.Proofs
abbrev nilV : Value := .slice none 0 0
theorem own_bl {w : World} {base : Nat} {e : TypeId} {size : Nat} {v : Value} {n : Nat} {xs : List Value} (h : w.ownsRow base e size v n xs) {q : Nat} : v.ownBlock = some q ↔ blockOf v = some q := by
 rcases h.2 with ⟨rfl, _⟩ | ⟨g, cap, cur, rfl, _⟩ <;> simp [Value.ownBlock, blockOf]
theorem own_lt {w : World} {base : Nat} {e : TypeId} {size : Nat} {v : Value} {n : Nat} {xs : List Value} (h : w.ownsRow base e size v n xs) {q : Nat} (hq : blockOf v = some q) : q < w.heap.size ∧ base ≤ q := by
 rcases h.2 with ⟨rfl, _⟩ | ⟨g, cap, cur, rfl, hb, hg, _⟩
 ·cases hq
 ·have e : g = q := by simpa [blockOf] using hq
  subst e
  exact ⟨n_lt hg, hb⟩
def up {α : Type} (f : Nat → α) (i : Nat) (x : α) : Nat → α := fun j => if j = i then x else f j
theorem up_eq {α : Type} (f : Nat → α) (i : Nat) (x : α) : up f i x i = x := by simp [up]
theorem up_ne {α : Type} (f : Nat → α) {i j : Nat} (x : α) (h : j ≠ i) : up f i x j = f j := by simp [up, h]
structure pR (B : Nat) (W : World) (ks : List (Nat × Obj)) (e : Nat → Value) (l : Nat → List Int) : Prop where
 rows : ∀ i, i ≠ 0 → bOw W B (e i) (l i)
 dis : ∀ i j q, i ≠ j → blockOf (e i) = some q → blockOf (e j) ≠ some q
 kn : ∀ i, ∀ p ∈ ks, blockOf (e i) ≠ some p.1
 kp : ∀ p ∈ ks, W.heap[p.1]? = some p.2
def pO (B : Nat) (W : World) (n : Nat) (e : Nat → Value) : Prop := W.ownsRow B 24 1 (e 0) n ((List.range n).map fun i => e (i + 3))
theorem pR.later {B : Nat} {W W' : World} {ks : List (Nat × Obj)} {e : Nat → Value} {l : Nat → List Int} (h : pR B W ks e l) (hb : Below W.heap.size W W') : pR B W' ks e l :=
 ⟨fun i hi => ownsRow_same (h.rows i hi) fun q hq => hb.block q (own_lt (h.rows i hi) hq).1, h.dis, h.kn, fun p hp => (hb.block _ (n_lt (h.kp p hp))).trans (h.kp p hp)⟩
theorem pO.later {B : Nat} {W W' : World} {n : Nat} {e : Nat → Value} (h : pO B W n e) (hb : Below W.heap.size W W') : pO B W' n e := ownsRow_same h fun q hq => hb.block q (own_lt h hq).1
theorem pR.turn {B : Nat} {W W' : World} {ks : List (Nat × Obj)} {e : Nat → Value} {l : Nat → List Int} (h : pR B W ks e l) {i : Nat} (hi : i ≠ 0) (h0 : ∀ q, blockOf (e 0) = some q → q < W.heap.size) {v : Value} {x : List Int} (hv : bOw W' B v x)
  (hk : ∀ q, q < W.heap.size → blockOf (e i) ≠ some q → W'.heap[q]? = W.heap[q]?) (hn : ∀ q, blockOf v = some q → blockOf (e i) = some q ∨ W.heap.size ≤ q) : pR B W' ks (up e i v) (up l i x) := by
 have lt : ∀ j q, blockOf (e j) = some q → q < W.heap.size := fun j q hq => by
  by_cases hj : j = 0
  ·subst hj; exact h0 q hq
  ·exact (own_lt (h.rows j hj) hq).1
 refine ⟨fun j hj => ?_, fun j j' q hne hq hq' => ?_, fun j p hp hq => ?_, fun p hp => ?_⟩
 ·by_cases hji : j = i
  ·subst hji; rw [up_eq, up_eq]; exact hv
  ·rw [up_ne _ _ hji, up_ne _ _ hji]
   exact ownsRow_same (h.rows j hj) fun q hq => hk q (lt j q hq) (h.dis j i q hji hq)
 ·by_cases c : j = i <;> by_cases c' : j' = i
  ·omega
  ·subst c; rw [up_eq] at hq; rw [up_ne _ _ c'] at hq'
   rcases hn q hq with h1 | h1
   ·exact h.dis _ _ q hne h1 hq'
   ·have := lt j' q hq'; omega
  ·subst c'; rw [up_eq] at hq'; rw [up_ne _ _ c] at hq
   rcases hn q hq' with h1 | h1
   ·exact h.dis _ _ q hne hq h1
   ·have := lt j q hq; omega
  ·rw [up_ne _ _ c] at hq; rw [up_ne _ _ c'] at hq'
   exact h.dis _ _ q hne hq hq'
 ·by_cases c : j = i
  ·subst c; rw [up_eq] at hq
   rcases hn _ hq with h1 | h1
   ·exact h.kn _ p hp h1
   ·have := n_lt (h.kp p hp); omega
  ·rw [up_ne _ _ c] at hq; exact h.kn j p hp hq
 ·exact (hk _ (n_lt (h.kp p hp)) (h.kn i p hp)).trans (h.kp p hp)
theorem pO.turn {B : Nat} {W W' : World} {n i : Nat} {e : Nat → Value} {v : Value} (h : pO B W n e) (h1 : i ≠ 0) (h2 : i < 3) (hk : ∀ q, blockOf (e 0) = some q → W'.heap[q]? = W.heap[q]?) : pO B W' n (up e i v) := by
 have e1 : ((List.range n).map fun j => up e i v (j + 3)) = (List.range n).map fun j => e (j + 3) := List.map_congr_left fun j _ => up_ne _ _ (by omega)
 unfold pO
 rw [e1, up_ne _ _ (Ne.symm h1)]
 exact ownsRow_same h hk
theorem bOw.put {W : World} {B g n c j : Nat} {l : List Int} {x : Int} (h : bOw W B (.slice (some ⟨g, 0, none⟩) n c) l) (hj : j < l.length) : bOw (W.setCell ⟨g, j, none⟩ (.int .i64 x)) B (.slice (some ⟨g, 0, none⟩) n c) (l.set j x) := by
 rcases h.2 with ⟨h0, _⟩ | ⟨g', cap, cur, h0, hb, hg, r1, r2, r3, r4⟩
 ·cases h0
 ·cases h0
  refine ⟨by simp, .inr ⟨g, c, cur.setIfInBounds j (.int .i64 x), by rw [List.length_set], hb, ?_, by rw [List.length_set]; exact r1, r2, by rw [Array.size_setIfInBounds]; exact r3, ?_⟩⟩
  ·simp [World.setCell, Array.getElem?_modify, hg]
  ·rw [List.length_set, Array.toList_setIfInBounds, List.take_set, r4, List.map_set]
structure pW (B : Nat) (W : World) (ks : List (Nat × Obj)) (n : Nat) (e : Nat → Value) (l : Nat → List Int) : Prop where
 r : pR B W ks e l
 o : pO B W n e
theorem pW.later {B : Nat} {W W' : World} {ks : List (Nat × Obj)} {n : Nat} {e : Nat → Value} {l : Nat → List Int} (h : pW B W ks n e l) (hb : Below W.heap.size W W') : pW B W' ks n e l := ⟨h.r.later hb, h.o.later hb⟩
theorem pW.ob {B : Nat} {W : World} {ks : List (Nat × Obj)} {n : Nat} {e : Nat → Value} {l : Nat → List Int} (h : pW B W ks n e l) : ∀ q, blockOf (e 0) = some q → q < W.heap.size := fun q hq => (own_lt h.o hq).1
theorem pW.fresh {B : Nat} {W W' : World} {ks : List (Nat × Obj)} {n i : Nat} {e : Nat → Value} {l : Nat → List Int} {v : Value} {x : List Int} (h : pW B W ks n e l) (h1 : i ≠ 0) (h2 : i < 3) (hB : B ≤ W.heap.size) (hb : Below W.heap.size W W') (hv : bOw W' W.heap.size v x) : pW B W' ks n (up e i v) (up l i x) :=
 ⟨h.r.turn h1 h.ob (hv.mono hB) (fun q hq _ => hb.block q hq) (fun q hq => .inr (own_lt hv hq).2), h.o.turn h1 h2 fun q hq => hb.block q (h.ob q hq)⟩
theorem pW.put {B : Nat} {W : World} {ks : List (Nat × Obj)} {n i : Nat} {e : Nat → Value} {l : Nat → List Int} {g m c j : Nat} {x : Int} (h : pW B W ks n e l) (h1 : i ≠ 0) (h2 : i < 3) (he : e i = .slice (some ⟨g, 0, none⟩) m c) (hj : j < (l i).length) :
  pW B (W.setCell ⟨g, j, none⟩ (.int .i64 x)) ks n e (up l i ((l i).set j x)) := by
 have hbg : blockOf (e i) = some g := by rw [he]; rfl
 have far : ∀ q, q ≠ g → (W.setCell ⟨g, j, none⟩ (.int .i64 x)).heap[q]? = W.heap[q]? := fun q hq => Below.heap_setCell _ _ _ _ hq
 have hv : bOw (W.setCell ⟨g, j, none⟩ (.int .i64 x)) B (e i) ((l i).set j x) := by
  have := h.r.rows i h1
  rw [he] at this ⊢
  exact this.put hj
 have ee : up e i (e i) = e := by funext k; unfold up; split <;> simp_all
 have hr := h.r.turn h1 h.ob hv (fun q _ hn => far q fun e' => hn (e' ▸ hbg)) (fun q hq => .inl hq)
 rw [ee] at hr
 exact ⟨hr, ownsRow_same h.o fun q hq => far q fun e' => h.r.dis i 0 g h1 hbg (e' ▸ hq)⟩
theorem pW.app {B : Nat} {W W' w1 : World} {ks : List (Nat × Obj)} {n c gv cv : Nat} {e : Nat → Value} {l : Nat → List Int} {v : Value} {x : Int} (h : pW B W ks n e l) (hc : c < n) (hB : B ≤ W.heap.size) (hW : Below W.heap.size W W') (h0 : e 0 = .slice (some ⟨gv, 0, none⟩) n cv)
  (ho : w1.ownsRow B 2 1 v ((l (c + 3)).length + 1) ((l (c + 3)).map (Value.int .i64) ++ [Value.int .i64 x])) (hg : W'.grownBy w1 (e (c + 3)).ownBlock) (hn : ∀ q, blockOf v = some q → (e (c + 3)).ownBlock = some q ∨ W'.heap.size ≤ q) :
  pW B (w1.setCell ⟨gv, c, none⟩ v) ks n (up e (c + 3) v) (up l (c + 3) (l (c + 3) ++ [x])) := by
 have hi := h.r.rows (c + 3) (by omega)
 have hv1 : bOw w1 B v (l (c + 3) ++ [x]) := by unfold bOw; rw [List.length_append, List.map_append]; exact ho
 have hbv : blockOf (e 0) = some gv := by rw [h0]; rfl
 have hs := hW.size
 have gl : gv < W.heap.size := h.ob gv hbv
 have keep : ∀ q, q < W.heap.size → blockOf (e (c + 3)) ≠ some q → w1.heap[q]? = W.heap[q]? := fun q hq hne => (hg.block q (by omega) fun hx => hne ((own_bl hi).1 hx.symm)).trans (hW.block q hq)
 have hn' : ∀ q, blockOf v = some q → blockOf (e (c + 3)) = some q ∨ W.heap.size ≤ q := fun q hq => by
  rcases hn q hq with h1 | h1
  ·exact .inl ((own_bl hi).1 h1)
  ·exact .inr (by omega)
 have h1 := h.r.turn (i := c + 3) (by omega) h.ob hv1 keep hn'
 have far : ∀ q, q ≠ gv → (w1.setCell ⟨gv, c, none⟩ v).heap[q]? = w1.heap[q]? := fun q hq => Below.heap_setCell _ _ _ _ hq
 have hgv : ∀ j, j ≠ 0 → blockOf (up e (c + 3) v j) ≠ some gv := fun j hj => h1.dis 0 j gv (Ne.symm hj) (by rw [up_ne _ _ (by omega)]; exact hbv)
 refine ⟨⟨fun j hj => ownsRow_same (h1.rows j hj) fun q hq => far q fun e' => hgv j hj (e' ▸ hq), h1.dis, h1.kn, fun p hp => (far _ fun e' => h1.kn 0 p hp (by rw [up_ne _ _ (by omega), e']; exact hbv)).trans (h1.kp p hp)⟩, ?_⟩
 have ho0 : w1.ownsRow B 24 1 (e 0) n ((List.range n).map fun i => e (i + 3)) := ownsRow_same h.o fun q hq => keep q (h.ob q hq) (h.r.dis 0 (c + 3) q (by omega) hq)
 unfold pO
 rw [up_ne _ _ (show (0 : Nat) ≠ c + 3 by omega)]
 rw [h0] at ho0 ⊢
 have em : ((List.range n).map fun i => up e (c + 3) v (i + 3)) = ((List.range n).map fun i => e (i + 3)).set c v := by
  apply List.ext_getElem
  ·simp
  ·intro k hk1 hk2
   simp only [List.length_map, List.length_range] at hk1
   rw [List.getElem_set]
   simp only [List.getElem_map, List.getElem_range]
   by_cases hk : c = k
   ·subst hk; rw [if_pos rfl, up_eq]
   ·rw [if_neg hk, up_ne _ _ (by omega)]
 rw [em]
 rcases ho0.2 with ⟨h2, _⟩ | ⟨g', cap, cur, h2, hb, hgg, r1, r2, r3, r4⟩
 ·cases h2
 ·cases h2
  refine ⟨by simp, .inr ⟨gv, cv, cur.setIfInBounds c v, rfl, hb, ?_, r1, r2, by rw [Array.size_setIfInBounds]; exact r3, ?_⟩⟩
  ·simp [World.setCell, Array.getElem?_modify, hgg]
  ·rw [Array.toList_setIfInBounds, List.take_set, r4]
theorem pW.oc {B : Nat} {W : World} {ks : List (Nat × Obj)} {n : Nat} {e : Nat → Value} {l : Nat → List Int} (h : pW B W ks n e l) (hn : 0 < n) : ∃ gv cv, e 0 = .slice (some ⟨gv, 0, none⟩) n cv ∧ gv < W.heap.size ∧ ∀ c, c < n → W.cell? ⟨gv, c, none⟩ = some (e (c + 3)) := by
 rcases h.o.2 with ⟨_, h2⟩ | ⟨g, cap, cur, h2, hb, hg, r1, r2, r3, r4⟩
 ·omega
 ·refine ⟨g, cap, h2, n_lt hg, fun c hc => ?_⟩
  have h3 : (List.take (n * 1) cur.toList)[c]? = some (e (c + 3)) := by rw [r4]; simp [hc]
  rw [List.getElem?_take] at h3
  split at h3
  ·simp only [World.cell?, hg]
   rw [← Array.getElem?_toList]; exact h3
  ·cases h3
end Go.Proofs.YtcbhhbkghbnljaaGreatDoor.Vf
end
section
set_option linter.unusedVariables false
set_option linter.unusedSimpArgs false
set_option maxRecDepth 100000
noncomputable section
namespace Go.Proofs.YtcbhhbkghbnljaaGreatDoor.Vf
open Go Go.V Go.RowKit Go.Proofs
theorem bRL.sl {w : World} {N : Nat → Prop} {v : Value} {l : List Int} (h : bRL w N v l) (hl : l ≠ []) : ∃ A c, v = .slice (some A) l.length c ∧ l.length ≤ c ∧ ∀ (i : Nat), i < l.length → w.cell? (A.add i) = some (.int .i64 (V.rd l i)) := by
 obtain ⟨A, cap, e3, hcap, -, hel⟩ := h
 have hpos : 0 < List.length l := by cases l with | nil => exact absurd rfl hl | cons a l => simp
 obtain ⟨ad, hA, -⟩ := hel 0 hpos
 subst hA
 refine ⟨ad, cap, (List.cons.inj e3).1, hcap, fun i hi => ?_⟩
 obtain ⟨ad', hA', c, hlc, hat, hrc⟩ := hel i hi
 obtain rfl := Option.some.inj hA'
 have hrc : c = [Value.int .i64 (l[i])] := hrc
 subst hrc
 have hcell := (hat 0 (by simp)).2
 have e1 : (ad.add (i * (Ty.int IntKind.i64).size)).add 0 = ad.add i := by
  have e : ∀ a : Addr, a.add 0 = a := fun a => by cases a; unfold Addr.add; split <;> simp_all
  rw [e]; congr 1; show i * 1 = i; omega
 rw [e1] at hcell
 rw [hcell]
 unfold V.rd
 rw [Int.toNat_natCast, List.getD_eq_getElem?_getD, List.getElem?_eq_getElem hi]; rfl
theorem b_cell {w : World} {b : Nat} {v : Value} {e : TypeId} (h : w.heap[b]? = some (.cells #[v] e (0, 0))) : w.cell? ⟨b, 0, none⟩ = some v := by simp [World.cell?, h]
theorem bRL.later {w w' : World} {N : Nat → Prop} {v : Value} {l : List Int} (h : bRL w N v l) (hb : Below w.heap.size w w') : bRL w' N v l := h.keep fun r hn hr => ⟨hn, hb.block r hr⟩
def impl_PutSets.f (k : Nat) (a0 a1 : Int) (l : List Int) : Option (List (List Int) × Int) :=
 (impl_isMany.f a0).bind fun t1 => if t1 = false then some ([], 2) else (impl_isChannels.f a1).bind fun t2 => if t2 = false then some ([], 2) else
  (impl_length_int64.f l).bind fun n => (impl_within.f n 1 120).bind fun t3 => if t3 = false then some ([], 2) else (impl_areAll_int64_impl_PutSets_1.f k l (a0, a1)).bind fun t4 => if t4 = false then some ([], 2) else
   if 2097152 ≤ k ∧ (1 ≤ a0 ∧ a0 ≤ 8) ∧ (1 ≤ a1 ∧ a1 ≤ 4) ∧ (1 ≤ l.length ∧ l.length ≤ 120) ∧ ∀ x ∈ l, 0 ≤ x ∧ x < 256 then some (putA a0.toNat a1.toNat l, 0) else none
def pkW (w : World) (a0 a1 : Int) : World := (w.alloc (.cells #[.int .i64 a0] 2)).alloc (.cells #[.int .i64 a1] 2)
def pks (w : World) (a0 a1 : Int) : List (Nat × Obj) := [(w.heap.size, .cells #[.int .i64 a0] 2 (0, 0)), (w.heap.size + 1, .cells #[.int .i64 a1] 2 (0, 0))]
theorem pkW_size (w : World) (a0 a1 : Int) : (pkW w a0 a1).heap.size = w.heap.size + 2 := by simp [pkW]
theorem pkW_below (w : World) (a0 a1 : Int) : Below w.heap.size w (pkW w a0 a1) := ((Below.refl _ _).alloc (Nat.le_refl _) _).alloc (by simp) _
theorem pkW_kp (w : World) (a0 a1 : Int) : ∀ p ∈ pks w a0 a1, (pkW w a0 a1).heap[p.1]? = some p.2 := by
 intro p hp
 rcases List.mem_cons.1 hp with rfl | hp
 ·exact (heap_alloc_old _ _ (by simp)).trans (heap_alloc_new w _)
 ·rw [List.mem_singleton.1 hp]
  have := heap_alloc_new (w.alloc (.cells #[.int .i64 a0] 2)) (.cells #[.int .i64 a1] 2)
  rw [show (w.alloc (.cells #[.int .i64 a0] 2)).heap.size = w.heap.size + 1 by simp] at this
  exact this
theorem pks_c {w W : World} {a0 a1 : Int} (h : ∀ p ∈ pks w a0 a1, W.heap[p.1]? = some p.2) : W.cell? ⟨w.heap.size, 0, none⟩ = some (.int .i64 a0) ∧ W.cell? ⟨w.heap.size + 1, 0, none⟩ = some (.int .i64 a1) :=
 ⟨b_cell (h _ (List.mem_cons_self)), b_cell (h _ (List.mem_cons_of_mem _ List.mem_cons_self))⟩
def pRes (B : Nat) (W : World) (u : Value) (rs : List (List Int)) : Prop := ∃ e l, pW B W [] rs.length e l ∧ u = e 0 ∧ rs = (List.range rs.length).map fun i => l (i + 3)
theorem pRes_nil (B : Nat) (W : World) : pRes B W nilV [] := ⟨fun _ => nilV, fun _ => [], ⟨⟨fun _ _ => ⟨rfl, .inl ⟨rfl, rfl⟩⟩, (fun _ _ _ _ h => by cases h), (fun _ _ h => by cases h), (fun _ h => by cases h)⟩, ⟨rfl, .inl ⟨rfl, rfl⟩⟩⟩, rfl, rfl⟩
set_option maxHeartbeats 4000000 in
theorem impl_put_no (k : Nat) {w : World} {N : Nat → Prop} {v : Value} {l : List Int} {a0 a1 : Int} (hl : bRL w N v l) (hg : GB w.heap.size w)
  (hy : impl_isMany.f a0 = some false ∨ (impl_isMany.f a0 = some true ∧ (impl_isChannels.f a1 = some false ∨ (impl_isChannels.f a1 = some true ∧ ∃ n, impl_length_int64.f l = some n ∧ (impl_within.f n 1 120 = some false ∨ (impl_within.f n 1 120 = some true ∧ impl_areAll_int64_impl_PutSets_1.f k l (a0, a1) = some false)))))) :
  Calls Tryz.prog 36 #[.int .i64 a0, .int .i64 a1, v] w fun e w' => e = .returned (.tuple #[nilV, .int .i64 2]) ∧ Below w.heap.size w w' := by
 have HG : Aside0 (∀ W, Below w.heap.size w W → GB w.heap.size W) := ⟨fun W hW => hg.below hW⟩
 have HL : Aside0 (∀ W, Below w.heap.size w W → bRL W N v l) := ⟨fun W hW => hl.later hW⟩
 have HB0 : Aside0 (Below w.heap.size w (pkW w a0 a1)) := ⟨pkW_below w a0 a1⟩
 have HX : Aside0 (∀ W, Below (pkW w a0 a1).heap.size (pkW w a0 a1) W → (W.cell? ⟨w.heap.size, 0, none⟩ = some (.int .i64 a0) ∧ W.cell? ⟨w.heap.size + 1, 0, none⟩ = some (.int .i64 a1)) ∧ Below w.heap.size w W) := ⟨fun W hW => ⟨pks_c fun p hp => (hW.block _ (n_lt (pkW_kp w a0 a1 p hp))).trans (pkW_kp w a0 a1 p hp), HB0.out.trans (hW.mono (pkW_below w a0 a1).size)⟩⟩
 have HTr : Aside0 (∀ {A C : World}, Below (pkW w a0 a1).heap.size (pkW w a0 a1) A → Below A.heap.size A C → Below (pkW w a0 a1).heap.size (pkW w a0 a1) C) := ⟨fun h1 h2 => h1.trans (h2.mono h1.size)⟩
 obtain ⟨⟨hc3, hc4⟩, hb0⟩ := HX.out _ (Below.refl _ _)
 have HZ : Aside0 (∀ {A C : World}, Below w.heap.size w A → Below A.heap.size A C → Below w.heap.size w C) := ⟨fun h1 h2 => h1.trans (h2.mono h1.size)⟩
 rcases hy with e1 | ⟨e1, hy⟩
 ·have H92 : Aside0 (∀ W, Below w.heap.size w W → Calls Tryz.prog 92 #[.int .i64 a0] W fun e w' => e = .returned (.bool false) ∧ Below W.heap.size W w') := ⟨fun W hW => c_I_b (M92 k) (HG.out W hW) e1⟩
  clear e1 hl hg
  unfold pkW at hc3 hc4
  go_enter Tryz.func36, Tryz.ntmps36
  go_wp2_with (first
   | (go_at_call 92; refine (H92.out _ HB0.out).mono ?_; rintro e w1 ⟨rfl, hb1⟩))
  go_returns
  exact ⟨rfl, HZ.out HB0.out hb1⟩
 ·have H92 : Aside0 (∀ W, Below w.heap.size w W → Calls Tryz.prog 92 #[.int .i64 a0] W fun e w' => e = .returned (.bool true) ∧ Below W.heap.size W w') := ⟨fun W hW => c_I_b (M92 k) (HG.out W hW) e1⟩
  rcases hy with e2 | ⟨e2, n, en, hy⟩
  ·have H79 : Aside0 (∀ W, Below w.heap.size w W → Calls Tryz.prog 79 #[.int .i64 a1] W fun e w' => e = .returned (.bool false) ∧ Below W.heap.size W w') := ⟨fun W hW => c_I_b (M79 k) (HG.out W hW) e2⟩
   clear e1 e2 hl hg
   unfold pkW at hc3 hc4
   go_enter Tryz.func36, Tryz.ntmps36
   go_wp2_with (first
    | (go_at_call 92; refine (H92.out _ HB0.out).mono ?_; rintro e w1 ⟨rfl, hb1⟩; obtain ⟨⟨hd3, hd4⟩, hb2⟩ := HX.out _ hb1)
    | (go_at_call 79; refine (H79.out _ hb2).mono ?_; rintro e w2 ⟨rfl, hb3⟩))
   go_returns
   exact ⟨rfl, HZ.out hb2 hb3⟩
  ·have H79 : Aside0 (∀ W, Below w.heap.size w W → Calls Tryz.prog 79 #[.int .i64 a1] W fun e w' => e = .returned (.bool true) ∧ Below W.heap.size W w') := ⟨fun W hW => c_I_b (M79 k) (HG.out W hW) e2⟩
   have H93 : Aside0 (∀ W, Below w.heap.size w W → Calls Tryz.prog 93 #[v] W fun e w' => e = .returned (.int .i64 n) ∧ Below W.heap.size W w') := ⟨fun W hW => c_L_i (M93 k) (HG.out W hW) (HL.out W hW) en⟩
   rcases hy with e3 | ⟨e3, e4⟩
   ·have H54 : Aside0 (∀ W, Below w.heap.size w W → Calls Tryz.prog 54 #[.int .i64 n, .int .i64 1, .int .i64 120] W fun e w' => e = .returned (.bool false) ∧ Below W.heap.size W w') := ⟨fun W hW => c_III_b (M54 k) (HG.out W hW) e3⟩
    clear e1 e2 e3 en hl hg
    unfold pkW at hc3 hc4
    go_enter Tryz.func36, Tryz.ntmps36
    go_wp2_with (first
     | (go_at_call 92; refine (H92.out _ HB0.out).mono ?_; rintro e w1 ⟨rfl, hb1⟩; obtain ⟨⟨hd3, hd4⟩, hb2⟩ := HX.out _ hb1)
     | (go_at_call 79; refine (H79.out _ hb2).mono ?_; rintro e w2 ⟨rfl, hb3⟩; have hb3 := HZ.out hb2 hb3)
     | (go_at_call 93; refine (H93.out _ hb3).mono ?_; rintro e w3 ⟨rfl, hb4⟩; have hb4 := HZ.out hb3 hb4)
     | (go_at_call 54; refine (H54.out _ hb4).mono ?_; rintro e w4 ⟨rfl, hb5⟩; have hb5 := HZ.out hb4 hb5))
    go_returns
    exact ⟨rfl, hb5⟩
   ·have H54 : Aside0 (∀ W, Below w.heap.size w W → Calls Tryz.prog 54 #[.int .i64 n, .int .i64 1, .int .i64 120] W fun e w' => e = .returned (.bool true) ∧ Below W.heap.size W w') := ⟨fun W hW => c_III_b (M54 k) (HG.out W hW) e3⟩
    have H94 : Aside0 (∀ W, Below (pkW w a0 a1).heap.size (pkW w a0 a1) W → Calls Tryz.prog 94 #[v, .func (.func 95) #[] #[.pointer (some ⟨w.heap.size, 0, none⟩), .pointer (some ⟨w.heap.size + 1, 0, none⟩)]] W fun e w' => e = .returned (.bool false) ∧ Below W.heap.size W w') :=
     ⟨fun W hW => c_LC_b (by rfl) (M94_c95 k) (HG.out W (HX.out W hW).2) (HL.out W (HX.out W hW).2) (HX.out W hW).1.1 (HX.out W hW).1.2 e4⟩
    clear e1 e2 e3 e4 en hl hg
    unfold pkW at hc3 hc4
    go_enter Tryz.func36, Tryz.ntmps36
    go_wp2_with (first
     | (go_at_call 92; refine (H92.out _ HB0.out).mono ?_; rintro e w1 ⟨rfl, hb1⟩; obtain ⟨⟨hd3, hd4⟩, hb2⟩ := HX.out _ hb1)
     | (go_at_call 79; refine (H79.out _ hb2).mono ?_; rintro e w2 ⟨rfl, hb3⟩; have hq3 := HTr.out hb1 hb3; have hb3 := HZ.out hb2 hb3)
     | (go_at_call 93; refine (H93.out _ hb3).mono ?_; rintro e w3 ⟨rfl, hb4⟩; have hq4 := HTr.out hq3 hb4; have hb4 := HZ.out hb3 hb4)
     | (go_at_call 54; refine (H54.out _ hb4).mono ?_; rintro e w4 ⟨rfl, hb5⟩; have hq5 := HTr.out hq4 hb5; have hb5 := HZ.out hb4 hb5)
     | (go_at_call 94; refine (H94.out _ hq5).mono ?_; rintro e w5 ⟨rfl, hb6⟩; have hb6 := HZ.out hb5 hb6))
    go_returns
    exact ⟨rfl, hb6⟩
end Go.Proofs.YtcbhhbkghbnljaaGreatDoor.Vf
end
section
set_option linter.unusedVariables false
set_option linter.unusedSimpArgs false
noncomputable section
namespace Go.Proofs.YtcbhhbkghbnljaaGreatDoor.Vf
open Go Go.V Go.RowKit Go.Proofs
def idxX (x : Int) : List Int → Int
 | [] => -1
 | a :: r => if a = x then 0 else if idxX x r < 0 then -1 else idxX x r + 1
theorem idxX_cons (x a : Int) (r : List Int) : idxX x (a :: r) = if a = x then 0 else if idxX x r < 0 then -1 else idxX x r + 1 := rfl
theorem idxX_S : ∀ sl : List Int, idxX (-1) sl = idxS sl
 | [] => rfl
 | a :: r => by unfold idxX idxS; rw [idxX_S r]
theorem idxX_mem {x : Int} : ∀ sl : List Int, -1 ≤ idxX x sl ∧ (0 ≤ idxX x sl ↔ x ∈ sl)
 | [] => by simp [idxX]
 | a :: r => by
  obtain ⟨h0, h1⟩ := idxX_mem (x := x) r
  unfold idxX
  by_cases c : a = x
  ·rw [if_pos c]; subst c; simp
  ·rw [if_neg c]
   have hc : ¬ x = a := fun h => c h.symm
   by_cases d : idxX x r < 0
   ·rw [if_pos d]
    have : x ∉ r := fun h => by have := h1.2 h; omega
    refine ⟨by omega, by simp [hc, this]⟩
   ·rw [if_neg d]
    have : x ∈ r := h1.1 (by omega)
    refine ⟨by omega, by simp [this]; omega⟩
theorem index_loop {k : Nat} {l : List Int} {x : Int} (hl : l.length ≤ 1000) : ∀ (d i n : Nat), l.length - i = d → i ≤ l.length → d < n → slices_Index_int64_int64.l0 k n l x (l.length : Int) (i : Int) = some (if idxX x (l.drop i) < 0 then -1 else (i : Int) + idxX x (l.drop i)) := by
 intro d
 induction d with
 | zero =>
  intro i n hd hi hn
  obtain ⟨n, rfl⟩ : ∃ m, n = m + 1 := ⟨n - 1, by omega⟩
  obtain rfl : i = l.length := by omega
  simp only [slices_Index_int64_int64.l0, slices_Index_int64_int64.s0]
  rw [if_neg (by omega), List.drop_length]; rfl
 | succ d ih =>
  intro i n hd hi hn
  obtain ⟨n, rfl⟩ : ∃ m, n = m + 1 := ⟨n - 1, by omega⟩
  have hlt : i < l.length := by omega
  simp only [slices_Index_int64_int64.l0, slices_Index_int64_int64.s0]
  rw [if_pos (by omega), if_pos (by omega), if_pos (by omega), List.drop_eq_getElem_cons hlt]
  have e1 : V.rd l (i : Int) = l[i] := by rw [rd_n, List.getD_eq_getElem?_getD, List.getElem?_eq_getElem hlt]; rfl
  have e2 : wrap64 ((i : Int) + 1) = ((i + 1 : Nat) : Int) := by unfold wrap64; omega
  rw [e1, e2, ih (i + 1) n (by omega) (by omega) (by omega)]
  have hm := (idxX_mem (x := x) (l.drop (i + 1))).1
  rw [idxX_cons]
  by_cases c : x = l[i]
  ·rw [if_pos c, if_pos c.symm]; simp
  ·rw [if_neg c, if_neg (show ¬ l[i] = x from fun h => c h.symm)]
   show some _ = some _
   congr 1
   by_cases e : idxX x (l.drop (i + 1)) < 0
   ·rw [if_pos e, if_pos e, if_pos (by omega)]
   ·rw [if_neg e, if_neg e, if_neg (by omega)]; omega
theorem index_f {k : Nat} {l : List Int} {x : Int} (hk : 2097152 ≤ k) (hl : l.length ≤ 1000) : slices_Index_int64_int64.f k l x = some (idxX x l) := by
 unfold slices_Index_int64_int64.f slices_Index_int64_int64.g
 rw [show (0 : Int) = ((0 : Nat) : Int) from rfl, index_loop hl l.length 0 k rfl (Nat.zero_le _) (by omega), List.drop_zero]
 have := (idxX_mem (x := x) l).1
 congr 1
 split <;> omega
theorem contains_f8 {k : Nat} {l : List Int} {x : Int} (hk : 2097152 ≤ k) (hl : l.length ≤ 1000) : slices_Contains_int64_int64.f k l x = some (decide (x ∈ l)) := by
 unfold slices_Contains_int64_int64.f
 rw [index_f hk hl, Option.bind_some]
 congr 1
 exact decide_eq_decide.2 (idxX_mem l).2
def lS (M : Nat) (la sl : List Int) (rows : Nat → List Int) : Nat → List Int := fun i => if i = 1 then la else if i = 2 then sl else if 3 ≤ i ∧ i < M + 3 then rows (i - 3) else []
theorem lS_1 {M : Nat} {la sl : List Int} {rows : Nat → List Int} : lS M la sl rows 1 = la := rfl
theorem lS_2 {M : Nat} {la sl : List Int} {rows : Nat → List Int} : lS M la sl rows 2 = sl := rfl
theorem lS_3 {M c : Nat} {la sl : List Int} {rows : Nat → List Int} (h : c < M) : lS M la sl rows (c + 3) = rows c := by
 unfold lS; rw [if_neg (by omega), if_neg (by omega), if_pos (by omega)]; rfl
theorem lS_up1 {M : Nat} {la sl x : List Int} {rows : Nat → List Int} : up (lS M la sl rows) 1 x = lS M x sl rows := by
 funext i; unfold up lS; by_cases c : i = 1
 ·rw [if_pos c, if_pos c]
 ·rw [if_neg c, if_neg c, if_neg c]
theorem lS_up2 {M : Nat} {la sl x : List Int} {rows : Nat → List Int} : up (lS M la sl rows) 2 x = lS M la x rows := by
 funext i; unfold up lS; by_cases c : i = 2
 ·subst c; rfl
 ·rw [if_neg c, if_neg c, if_neg c]
theorem lS_up3 {M c : Nat} {la sl x : List Int} {rows : Nat → List Int} (h : c < M) : up (lS M la sl rows) (c + 3) x = lS M la sl (up rows c x) := by
 funext i; unfold up lS; by_cases e : i = c + 3
 ·subst e; rw [if_pos rfl, if_neg (by omega), if_neg (by omega), if_pos (by omega)]; exact (if_pos (by omega)).symm
 ·rw [if_neg e]
  by_cases e1 : i = 1
  ·rw [if_pos e1, if_pos e1]
  ·rw [if_neg e1, if_neg e1]
   by_cases e2 : i = 2
   ·rw [if_pos e2, if_pos e2]
   ·rw [if_neg e2, if_neg e2]
    by_cases e3 : 3 ≤ i ∧ i < M + 3
    ·rw [if_pos e3, if_pos e3]; exact (if_neg (by omega)).symm
    ·rw [if_neg e3, if_neg e3]
theorem lS_congr {M : Nat} {la sl : List Int} {rows rows' : Nat → List Int} (h : ∀ c, c < M → rows c = rows' c) : lS M la sl rows = lS M la sl rows' := by
 funext i; unfold lS; by_cases e1 : i = 1
 ·rw [if_pos e1, if_pos e1]
 ·rw [if_neg e1, if_neg e1]
  by_cases e2 : i = 2
  ·rw [if_pos e2, if_pos e2]
  ·rw [if_neg e2, if_neg e2]
   by_cases e3 : 3 ≤ i ∧ i < M + 3
   ·rw [if_pos e3, if_pos e3]; exact h _ (by omega)
   ·rw [if_neg e3, if_neg e3]
theorem pW.keepNew {B : Nat} {W : World} {ks : List (Nat × Obj)} {n : Nat} {e : Nat → Value} {l : Nat → List Int} (h : pW B W ks n e l) (cs : Array Value) (t : TypeId) : pW B (W.alloc (.cells cs t)) ((W.heap.size, .cells cs t (0, 0)) :: ks) n e l := by
 have hb : Below W.heap.size W (W.alloc (.cells cs t)) := (Below.refl _ _).alloc (Nat.le_refl _) _
 have h' := h.later hb
 refine ⟨⟨h'.r.rows, h'.r.dis, fun i p hp hq => ?_, fun p hp => ?_⟩, h'.o⟩
 ·rcases List.mem_cons.1 hp with rfl | hp
  ·by_cases hi : i = 0
   ·subst hi; have := h.ob _ hq; exact absurd this (Nat.lt_irrefl _)
   ·have := (own_lt (h.r.rows i hi) hq).1; exact absurd this (Nat.lt_irrefl _)
  ·exact h.r.kn i p hp hq
 ·rcases List.mem_cons.1 hp with rfl | hp
  ·exact heap_alloc_new W _
  ·exact h'.r.kp p hp
theorem pW.less {B : Nat} {W : World} {ks ks' : List (Nat × Obj)} {n : Nat} {e : Nat → Value} {l : Nat → List Int} (h : pW B W ks n e l) (hs : ∀ p ∈ ks', p ∈ ks) : pW B W ks' n e l := ⟨⟨h.r.rows, h.r.dis, fun i p hp => h.r.kn i p (hs p hp), fun p hp => h.r.kp p (hs p hp)⟩, h.o⟩
theorem lit_rl {W : World} {g : Nat} {x : Int} (h : W.heap[g]? = some (.cells #[.int .i64 x] 2 (0, 0))) : bRL W (fun _ => False) (.slice (some ⟨g, 0, none⟩) 1 1) [x] :=
 bOw.rl (base := 0) (N := fun _ => False) (⟨rfl, .inr ⟨g, 1, _, rfl, Nat.zero_le _, h, Nat.le_refl _, by decide, rfl, rfl⟩⟩ : W.ownsRow 0 2 1 (.slice (some ⟨g, 0, none⟩) 1 1) ([x] : List Int).length ([x].map (Value.int .i64))) (fun _ _ h => h)
theorem made_nil (n : Nat) : (madeCells #[nilV] n).toList = List.replicate n nilV := by
 apply List.ext_getElem
 ·simp [madeCells]
 ·intro i h1 h2
  simp [madeCells, Nat.mod_one]
theorem pW.start {B : Nat} {W : World} {ks : List (Nat × Obj)} {M : Nat} (hk : ∀ p ∈ ks, W.heap[p.1]? = some p.2) (hM : M ≤ 1000) (hB : B ≤ W.heap.size) :
  pW B (W.alloc (.cells (madeCells #[nilV] M) 24)) ks M (fun i => if i = 0 then .slice (some ⟨W.heap.size, 0, none⟩) M M else nilV) (fun _ => []) := by
 refine ⟨⟨fun i hi => ?_, fun i j q hne hq hq' => ?_, fun i p hp hq => ?_, fun p hp => ?_⟩, ?_⟩
 ·simp only [if_neg hi]; exact ⟨rfl, .inl ⟨rfl, rfl⟩⟩
 ·by_cases hi : i = 0
  ·have hj : j ≠ 0 := by omega
   simp only [if_neg hj] at hq'; cases hq'
  ·simp only [if_neg hi] at hq; cases hq
 ·by_cases hi : i = 0
  ·simp only [if_pos hi] at hq
   have e : W.heap.size = p.1 := by simpa [blockOf] using hq
   have := n_lt (hk p hp); omega
  ·simp only [if_neg hi] at hq; cases hq
 ·exact (heap_alloc_old W _ (n_lt (hk p hp))).trans (hk p hp)
 ·have e1 : ((List.range M).map fun i => (fun i => if i = 0 then Value.slice (some ⟨W.heap.size, 0, none⟩) M M else nilV) (i + 3)) = List.replicate M nilV := by
   rw [show (fun i => (fun i => if i = 0 then Value.slice (some ⟨W.heap.size, 0, none⟩) M M else nilV) (i + 3)) = fun _ => nilV from funext fun i => if_neg (by omega)]
   exact List.map_const' ..  |>.trans (by simp)
  unfold pO
  rw [e1]
  refine ⟨by simp, .inr ⟨W.heap.size, M, _, rfl, hB, heap_alloc_new W _, Nat.le_refl _, by unfold maxLen; omega, by simp [madeCells], ?_⟩⟩
  rw [made_nil, List.take_of_length_le (by simp)]
theorem bit_all : ∀ n : Nat, n < 256 → ∀ i : Nat, i < 8 → decide (Go.bits .and .i64 ((n : Int) / 2 ^ i) 1 = 0) = !(n.testBit i) := by decide +kernel
theorem bit_is {s : Int} (h : 0 ≤ s ∧ s < 256) {i : Nat} (hi : i < 8) : decide (Go.bits .and .i64 (s / 2 ^ i) 1 = 0) = !(bitS s i) := by
 obtain ⟨n, rfl⟩ := Int.eq_ofNat_of_zero_le h.1
 exact bit_all n (by omega) i hi
theorem bOw.cell {w : World} {base g n c : Nat} {l : List Int} (h : bOw w base (.slice (some ⟨g, 0, none⟩) n c) l) {i : Nat} (hi : i < l.length) : w.cell? ⟨g, i, none⟩ = some (.int .i64 (V.rd l i)) ∧ w.frozen? ⟨g, i, none⟩ = false := by
 obtain ⟨g', c', e, -, -, hc⟩ := h.sl (by rintro rfl; cases hi)
 cases e
 refine ⟨hc i hi, ?_⟩
 rcases h.2 with ⟨h0, _⟩ | ⟨g2, cap, cur, h0, hb, hg, _⟩
 ·cases h0
 ·cases h0; simp [World.frozen?, hg]
theorem below_set {B : Nat} {w W : World} (h : Below B w W) {g j : Nat} (hg : B ≤ g) (v : Value) : Below B w (W.setCell ⟨g, j, none⟩ v) :=
 ⟨h.os, h.tape, h.output, by simpa [World.setCell] using h.size, fun r hr => (Below.heap_setCell _ _ _ _ (show r ≠ g by omega)).trans (h.block r hr)⟩
theorem pW.ge {B : Nat} {W : World} {ks : List (Nat × Obj)} {n i : Nat} {e : Nat → Value} {l : Nat → List Int} (h : pW B W ks n e l) (hi : i ≠ 0) {g m c : Nat} (he : e i = .slice (some ⟨g, 0, none⟩) m c) : B ≤ g := (own_lt (h.r.rows i hi) (q := g) (by rw [he]; rfl)).2
theorem info2 : ∃ i0 : TypeInfo, Tryz.prog.info? 2 = some i0 ∧ i0.zero = some (.int .i64 0) ∧ i0.size = 1 ∧ i0.bytes = 8 := by
 have hinfo : (Tryz.prog.info? 2).map (fun i => (i.zero, i.size, i.bytes)) = some (some (.int .i64 0), 1, 8) := by kernel_rfl
 obtain ⟨i0, h1, h2⟩ := Option.map_eq_some_iff.1 hinfo
 simp only [Prod.mk.injEq] at h2
 exact ⟨i0, h1, h2.1, h2.2.1, h2.2.2⟩
theorem und24 : Tryz.prog.underlying 24 = some (.slice 2) := by kernel_rfl
theorem own_shape {w : World} {base n : Nat} {v : Value} {xs : List Value} {t : TypeId} (h : w.ownsRow base t 1 v (n + 1) xs) : ∃ g c, v = .slice (some ⟨g, 0, none⟩) (n + 1) c := by
 rcases h.2 with ⟨_, h0⟩ | ⟨g, cap, cur, h0, _⟩
 ·omega
 ·exact ⟨_, _, h0⟩
theorem news1 {W : World} {b : Nat} {x : Value} {t : TypeId} (j : Nat) (u : Value) (hW : W.heap[b]? = some (.cells #[x] t (0, 0))) (hu : [x][j]? = some u) : W.cell? ((⟨b, 0, none⟩ : Addr).add j) = some u := by
 match j, hu with
 | 0, hu =>
  have hu : some x = some u := hu
  cases hu
  have ea : (⟨b, 0, none⟩ : Addr).add 0 = ⟨b, 0, none⟩ := by unfold Addr.add; split <;> simp_all
  rw [ea]
  exact b_cell hW
 | j + 1, hu => simp at hu
theorem pW.grow {B : Nat} {w W W' w1 : World} {ks : List (Nat × Obj)} {n c gv cv : Nat} {e : Nat → Value} {l : Nat → List Int} {v : Value} {x : Int} (h : pW B W ks n e l) (hw : Below B w W) (hwB : w.heap.size = B) (hc : c < n) (hW : Below W.heap.size W W') (h0 : e 0 = .slice (some ⟨gv, 0, none⟩) n cv)
  (ho : w1.ownsRow B 2 1 v ((l (c + 3)).length + 1) ((l (c + 3)).map (Value.int .i64) ++ [Value.int .i64 x])) (hg : W'.grownBy w1 (e (c + 3)).ownBlock) (hn : v.ownBlock = (e (c + 3)).ownBlock ∨ v.ownBlock = some W'.heap.size) :
  w1.cell? ⟨gv, c, none⟩ = some (e (c + 3)) ∧ w1.frozen? ⟨gv, c, none⟩ = false ∧ pW B (w1.setCell ⟨gv, c, none⟩ v) ks n (up e (c + 3) v) (up l (c + 3) (l (c + 3) ++ [x])) ∧ Below B w (w1.setCell ⟨gv, c, none⟩ v) := by
 have hB : B ≤ W.heap.size := by have := hw.size; omega
 have hi := h.r.rows (c + 3) (by omega)
 have hbv : blockOf (e 0) = some gv := by rw [h0]; rfl
 have hs := hW.size
 have keep : ∀ q, q < W.heap.size → blockOf (e (c + 3)) ≠ some q → w1.heap[q]? = W.heap[q]? := fun q hq hne => (hg.block q (by omega) fun hx => hne ((own_bl hi).1 hx.symm)).trans (hW.block q hq)
 have hgv := keep gv (h.ob gv hbv) (h.r.dis 0 (c + 3) gv (by omega) hbv)
 obtain ⟨g', c', e', hlt, hcell⟩ := h.oc (by omega)
 rw [h0] at e'
 cases e'
 have hv : ∀ q, blockOf v = some q → (e (c + 3)).ownBlock = some q ∨ W'.heap.size ≤ q := fun q hq => by
  have hq := (own_bl ho).2 hq
  rcases hn with h1 | h1
  ·exact .inl (h1 ▸ hq)
  ·rw [h1] at hq; exact .inr (Nat.le_of_eq (Option.some.inj hq))
 refine ⟨(World.cell?_of_block (w := W) (w' := w1) (a := ⟨gv, c, none⟩) hgv).trans (hcell c hc), ?_, h.app hc hB hW h0 ho hg hv, ?_⟩
 ·rw [World.frozen?_of_block (w := W) (w' := w1) (a := ⟨gv, c, none⟩) hgv]
  rcases h.o.2 with ⟨h2, _⟩ | ⟨g2, cap, cur, h2, hb, hgg, _⟩
  ·rw [h0] at h2; cases h2
  ·rw [h0] at h2; cases h2; simp [World.frozen?, hgg]
 ·have hgB : B ≤ gv := (own_lt h.o hbv).2
  refine below_set ⟨hg.os.trans (hW.os.trans hw.os), hg.tape.trans (hW.tape.trans hw.tape), hg.output.trans (hW.output.trans hw.output), by have := hg.size; have := hw.size; omega, fun r hr => ?_⟩ hgB v
  refine (keep r (by omega) fun hx => ?_).trans (hw.block r hr)
  have := (own_lt hi hx).2; omega
end Go.Proofs.YtcbhhbkghbnljaaGreatDoor.Vf
end
section
set_option linter.unusedVariables false
set_option linter.unusedSimpArgs false
set_option maxRecDepth 100000
noncomputable section
namespace Go.Proofs.YtcbhhbkghbnljaaGreatDoor.Vf
open Go Go.V Go.RowKit Go.Proofs
theorem two_below (W : World) (o1 o2 : Obj) : Below W.heap.size W ((W.alloc o1).alloc o2) := ((Below.refl _ _).alloc (Nat.le_refl _) _).alloc (by simp) _
theorem two_new (W : World) (o1 : Obj) (cs : Array Value) (t : TypeId) : ((W.alloc o1).alloc (.cells cs t)).heap[W.heap.size + 1]? = some (.cells cs t (0, 0)) := by
 have := heap_alloc_new (W.alloc o1) (.cells cs t)
 rw [show (W.alloc o1).heap.size = W.heap.size + 1 by simp] at this
 exact this
theorem lS_zero (K M : Nat) (l : List Int) : up (fun _ => []) 1 (List.replicate K (-1)) = lS M (laA K M l 0) [] (rowA K M l 0) := by
 funext i; unfold up lS laA rowA
 by_cases h : i = 1
 ·rw [if_pos h, if_pos h]
 ·rw [if_neg h, if_neg h]
  split
  ·rfl
  ·split
   ·rfl
   ·rfl
set_option maxHeartbeats 4000000 in
theorem impl_put_yes (k : Nat) (hk : 2097152 ≤ k) {w : World} {N : Nat → Prop} {v : Value} {l : List Int} {K M : Nat} {n0 : Int} (hl : bRL w N v l) (hg : GB w.heap.size w)
  (e1 : impl_isMany.f (K : Int) = some true) (e2 : impl_isChannels.f (M : Int) = some true) (en : impl_length_int64.f l = some n0) (e3 : impl_within.f n0 1 120 = some true) (e4 : impl_areAll_int64_impl_PutSets_1.f k l ((K : Int), (M : Int)) = some true)
  (hK : 1 ≤ K ∧ K ≤ 8) (hM : 1 ≤ M ∧ M ≤ 4) (hn : 1 ≤ l.length ∧ l.length ≤ 120) (hx : ∀ x ∈ l, 0 ≤ x ∧ x < 256) :
  Calls Tryz.prog 36 #[.int .i64 K, .int .i64 M, v] w fun e w' => ∃ u, e = .returned (.tuple #[u, .int .i64 0]) ∧ pRes w.heap.size w' u (putA K M l) ∧ Below w.heap.size w w' := by
 have hl0 : l ≠ [] := by rintro rfl; simp at hn
 obtain ⟨A, cA, rfl, hcA, helA⟩ := hl.sl hl0
 have HG : Aside0 (∀ W, Below w.heap.size w W → GB w.heap.size W) := ⟨fun W hW => hg.below hW⟩
 have HL : Aside0 (∀ W, Below w.heap.size w W → bRL W N (.slice (some A) l.length cA) l) := ⟨fun W hW => hl.later hW⟩
 have HE : Aside0 (∀ W (i : Nat), Below w.heap.size w W → i < l.length → W.cell? (A.add i) = some (.int .i64 (V.rd l i))) := ⟨fun W i hW hi => (hW.cell (World.block_lt_of_cell? w _ (helA i hi))).trans (helA i hi)⟩
 have HB0 : Aside0 (Below w.heap.size w (pkW w K M)) := ⟨pkW_below w K M⟩
 have HX : Aside0 (∀ W, Below (pkW w K M).heap.size (pkW w K M) W → (W.cell? ⟨w.heap.size, 0, none⟩ = some (.int .i64 K) ∧ W.cell? ⟨w.heap.size + 1, 0, none⟩ = some (.int .i64 M)) ∧ Below w.heap.size w W) := ⟨fun W hW => ⟨pks_c fun p hp => (hW.block _ (n_lt (pkW_kp w K M p hp))).trans (pkW_kp w K M p hp), HB0.out.trans (hW.mono (pkW_below w K M).size)⟩⟩
 have HKP : Aside0 (∀ W, Below (pkW w K M).heap.size (pkW w K M) W → ∀ p ∈ pks w K M, W.heap[p.1]? = some p.2) := ⟨fun W hW p hp => (hW.block _ (n_lt (pkW_kp w K M p hp))).trans (pkW_kp w K M p hp)⟩
 have HTr : Aside0 (∀ {A C : World}, Below (pkW w K M).heap.size (pkW w K M) A → Below A.heap.size A C → Below (pkW w K M).heap.size (pkW w K M) C) := ⟨fun h1 h2 => h1.trans (h2.mono h1.size)⟩
 have HZ : Aside0 (∀ {A C : World}, Below w.heap.size w A → Below A.heap.size A C → Below w.heap.size w C) := ⟨fun h1 h2 => h1.trans (h2.mono h1.size)⟩
 obtain ⟨⟨hc3, hc4⟩, hb0⟩ := HX.out _ (Below.refl _ _)
 have H92 : Aside0 (∀ W, Below w.heap.size w W → Calls Tryz.prog 92 #[.int .i64 K] W fun e w' => e = .returned (.bool true) ∧ Below W.heap.size W w') := ⟨fun W hW => c_I_b (M92 k) (HG.out W hW) e1⟩
 have H79 : Aside0 (∀ W, Below w.heap.size w W → Calls Tryz.prog 79 #[.int .i64 M] W fun e w' => e = .returned (.bool true) ∧ Below W.heap.size W w') := ⟨fun W hW => c_I_b (M79 k) (HG.out W hW) e2⟩
 have H93 : Aside0 (∀ W, Below w.heap.size w W → Calls Tryz.prog 93 #[.slice (some A) l.length cA] W fun e w' => e = .returned (.int .i64 n0) ∧ Below W.heap.size W w') := ⟨fun W hW => c_L_i (M93 k) (HG.out W hW) (HL.out W hW) en⟩
 have H54 : Aside0 (∀ W, Below w.heap.size w W → Calls Tryz.prog 54 #[.int .i64 n0, .int .i64 1, .int .i64 120] W fun e w' => e = .returned (.bool true) ∧ Below W.heap.size W w') := ⟨fun W hW => c_III_b (M54 k) (HG.out W hW) e3⟩
 have H94 : Aside0 (∀ W, Below (pkW w K M).heap.size (pkW w K M) W → Calls Tryz.prog 94 #[.slice (some A) l.length cA, .func (.func 95) #[] #[.pointer (some ⟨w.heap.size, 0, none⟩), .pointer (some ⟨w.heap.size + 1, 0, none⟩)]] W fun e w' => e = .returned (.bool true) ∧ Below W.heap.size W w') :=
  ⟨fun W hW => c_LC_b (by rfl) (M94_c95 k) (HG.out W (HX.out W hW).2) (HL.out W (HX.out W hW).2) (HX.out W hW).1.1 (HX.out W hW).1.2 e4⟩
 have hmk : ∀ W : World, (Instr.makeSlice 54 (.int .i64 (M : Int)) (.int .i64 (M : Int))).run Tryz.prog W = .ok (.slice (some ⟨W.heap.size, 0, none⟩) M M) (W.alloc (.cells (madeCells #[nilV] M) 24)) :=
  run_make_row' 54 24 nilV 24 (by kernel_rfl) (by kernel_rfl) rfl .i64 .i64 M (by omega) (by omega)
 have H97 : Aside0 (∀ W g (m : Nat), m ≤ 1000 → Below w.heap.size w W → W.heap[g]? = some (.cells #[.int .i64 (-1)] 2 (0, 0)) → Calls Tryz.prog 97 #[.slice (some ⟨g, 0, none⟩) 1 1, .int .i64 m] W fun e w' => ∃ u, e = .returned u ∧ bOw w' W.heap.size u (List.replicate m (-1)) ∧ Below W.heap.size W w') :=
  ⟨fun W g m hm hW hgc => c_LI_o (M97 k) (HG.out W hW) (lit_rl hgc) (show slices_Repeat_int64_int64.f [-1] (m : Int) = some (List.replicate m (-1)) by unfold slices_Repeat_int64_int64.f; show (if _ then _ else _) = _; rw [if_pos (by omega), Int.toNat_natCast])⟩
 clear e1 e2 e3 e4 en hl hg helA
 unfold pkW at hc3 hc4
 go_enter Tryz.func36, Tryz.ntmps36
 go_wp2_with (first
  | (go_at_call 92; refine (H92.out _ HB0.out).mono ?_; rintro e w1 ⟨rfl, hb1⟩; obtain ⟨⟨hd3, hd4⟩, hb2⟩ := HX.out _ hb1)
  | (go_at_call 79; refine (H79.out _ hb2).mono ?_; rintro e w2 ⟨rfl, hb3⟩; have hq3 := HTr.out hb1 hb3; have hb3 := HZ.out hb2 hb3)
  | (go_at_call 93; refine (H93.out _ hb3).mono ?_; rintro e w3 ⟨rfl, hb4⟩; have hq4 := HTr.out hq3 hb4; have hb4 := HZ.out hb3 hb4)
  | (go_at_call 54; refine (H54.out _ hb4).mono ?_; rintro e w4 ⟨rfl, hb5⟩; have hq5 := HTr.out hq4 hb5; have hb5 := HZ.out hb4 hb5)
  | (go_at_call 94; refine (H94.out _ hq5).mono ?_; rintro e w5 ⟨rfl, hb6⟩; have hq6 := HTr.out hq5 hb6; have hb6 := HZ.out hb5 hb6; clear hd3 hd4; obtain ⟨⟨hd3, hd4⟩, -⟩ := HX.out _ hq6; have hq7 := HTr.out hq6 (two_below w5 (.cells (madeCells #[nilV] M) 24) (.cells #[Value.int .i64 (-1)] 2)); obtain ⟨⟨hf3, hf4⟩, hb7⟩ := HX.out _ hq7; have hgc := two_new w5 (.cells (madeCells #[nilV] M) 24) #[Value.int .i64 (-1)] 2)
  | (go_at_call 97; refine (H97.out _ _ K (by omega) hb7 hgc).mono ?_; rintro e w8 ⟨vl, rfl, hol, hb8⟩))
 have hq8 := HTr.out hq7 hb8
 have hb9 := HZ.out hb7 hb8
 have HOL := Aside0.mk hol
 have P0 : pW w.heap.size w8 (pks w K M) M (up (fun i => if i = 0 then .slice (some ⟨w5.heap.size, 0, none⟩) M M else nilV) 1 vl) (lS M (laA K M l 0) [] (rowA K M l 0)) := by
  have p1 := pW.start (B := w.heap.size) (ks := pks w K M) (M := M) (HKP.out w5 hq6) (by omega) hb6.size
  have p2 := p1.later ((Below.refl _ _).alloc (Nat.le_refl _) (.cells #[Value.int .i64 (-1)] 2))
  have p3 := p2.fresh (i := 1) (by omega) (by omega) hb7.size hb8 hol
  rw [lS_zero] at p3
  exact p3
 obtain ⟨gl, cl, hvl, -, -, -⟩ := hol.sl (by intro h; have := congrArg List.length h; simp at this; omega)
 rw [List.length_replicate] at hvl
 subst hvl
 have HP0 := Aside0.mk P0
 clear P0 HOL hol hd3 hd4 hf3 hf4 hc3 hc4 hgc hb0 hb1 hb2 hb3 hb4 hb5 hq3 hq4 hq5 hb8 hb7 hq7
 go_loopg [46] l.length (fun gg s46 wr => ∃ (n : Nat) (e : Nat → Value) (sl : List Int), n ≤ l.length ∧ l.length - n ≤ gg ∧ s46 = .int .i64 n ∧ e 0 = .slice (some ⟨w5.heap.size, 0, none⟩) M M ∧ e 1 = .slice (some ⟨gl, 0, none⟩) K cl ∧ Aside0 (pW w.heap.size wr (pks w K M) M e (lS M (laA K M l n) sl (rowA K M l n))) ∧ Aside0 (Below w.heap.size w wr))
 case atStart => exact ⟨0, _, _, Nat.zero_le _, by omega, rfl, by rw [up_ne _ _ (by omega)]; rfl, up_eq _ _ _, HP0, ⟨hb9⟩⟩
 case round =>
  obtain ⟨n, e, sl, hn1, hgg, rfl, he0, he1, HP, HBw⟩ := hrel
  by_cases hlt : n < l.length
  ·have hltz : decide ((n : Int) < (l.length : Int)) = true := decide_eq_true (by omega)
   have hset := HE.out wr n HBw.out hlt
   have hb10 : Below w.heap.size w (wr.alloc (.cells #[Value.int .i64 (-1)] 2)) := HZ.out HBw.out ((Below.refl _ _).alloc (Nat.le_refl _) _)
   have hgc := heap_alloc_new wr (.cells #[Value.int .i64 (-1)] 2)
   obtain ⟨hk3, hk4⟩ := pks_c (HP.out.later ((Below.refl _ _).alloc (Nat.le_refl _) (.cells #[Value.int .i64 (-1)] 2))).r.kp
   go_wp2_with (first
    | (go_at_call 97; refine (H97.out _ _ M (by omega) hb10 hgc).mono ?_; rintro e w9 ⟨vs, rfl, hos, hb11⟩))
   have P1 : pW w.heap.size w9 (pks w K M) M (up e 2 vs) (lS M (laA K M l n) (passes K M (laA K M l n) (V.rd l n) 0) (rowA K M l n)) := by
    have p := (HP.out.later ((Below.refl _ _).alloc (Nat.le_refl _) (.cells #[Value.int .i64 (-1)] 2))).fresh (i := 2) (by omega) (by omega) hb10.size hb11 hos
    rw [lS_up2] at p
    exact p
   have P2 := P1.keepNew #[Value.bool true, Value.bool false] 4
   obtain ⟨gs, cs, hvs, -, -, -⟩ := hos.sl (by intro h; have := congrArg List.length h; simp at this; omega)
   rw [List.length_replicate] at hvs
   subst hvs
   have hb12 : Below w.heap.size w (w9.alloc (.cells #[Value.bool true, Value.bool false] 4)) := HZ.out (HZ.out hb10 hb11) ((Below.refl _ _).alloc (Nat.le_refl _) _)
   obtain ⟨e2, he20, he21, he22, HP2⟩ : ∃ e2 : Nat → Value, e2 0 = .slice (some ⟨w5.heap.size, 0, none⟩) M M ∧ e2 1 = .slice (some ⟨gl, 0, none⟩) K cl ∧ e2 2 = .slice (some ⟨gs, 0, none⟩) M cs ∧ Aside0 (pW w.heap.size (w9.alloc (.cells #[Value.bool true, Value.bool false] 4)) ((w9.heap.size, .cells #[Value.bool true, Value.bool false] 4 (0, 0)) :: pks w K M) M e2 (lS M (laA K M l n) (passes K M (laA K M l n) (V.rd l n) 0) (rowA K M l n))) :=
    ⟨_, by rw [up_ne _ _ (by omega)]; exact he0, by rw [up_ne _ _ (by omega)]; exact he1, up_eq _ _ _, ⟨P2⟩⟩
   clear P1 P2 hos hk3 hk4 hgc hb10 hb11 he0 he1 HP hset
   have HS := Aside0.mk (slA_ok K M l n)
   have HLa := Aside0.mk (laA_ok K M l n)
   have hs9 : 0 ≤ V.rd l n ∧ V.rd l n < 256 := hx _ (rd_m hlt)
   generalize hsd : V.rd l (n : Int) = s at *
   go_loopg [55] 2 (fun g2 s55 wq => ∃ j : Nat, j ≤ 2 ∧ 2 - j ≤ g2 ∧ s55 = .int .i64 j ∧ Aside0 (pW w.heap.size wq ((w9.heap.size, .cells #[Value.bool true, Value.bool false] 4 (0, 0)) :: pks w K M) M e2 (lS M (laA K M l n) (passes K M (laA K M l n) s j) (rowA K M l n))) ∧ Aside0 (Below w.heap.size w wq))
   case atStart => exact ⟨0, by omega, by omega, rfl, HP2, ⟨hb12⟩⟩
   case round =>
    obtain ⟨j, hj2, hgg2, rfl, HPj, HBj⟩ := hrel
    by_cases hjlt : j < 2
    ·have hltj : decide ((j : Int) < 2) = true := decide_eq_true (by omega)
     obtain ⟨mb, hmb, hpj⟩ : ∃ mb : Bool, wr.cell? ⟨w9.heap.size, j, none⟩ = some (.bool mb) ∧ passes K M (laA K M l n) s (j + 1) = pasS mb (laA K M l n) s (passes K M (laA K M l n) s j) K := by
      have h9 : wr.heap[w9.heap.size]? = some (.cells #[Value.bool true, Value.bool false] 4 (0, 0)) := HPj.out.r.kp _ List.mem_cons_self
      match j, hjlt with
      | 0, _ => exact ⟨true, by simp [World.cell?, h9], rfl⟩
      | 1, _ => exact ⟨false, by simp [World.cell?, h9], rfl⟩
     obtain ⟨hk3, hk4⟩ := pks_c fun p hp => HPj.out.r.kp p (List.mem_cons_of_mem _ hp)
     go_wp2
     go_loopg [60] K (fun g4 s60 wp => ∃ i : Nat, i ≤ K ∧ K - i ≤ g4 ∧ s60 = .int .i64 i ∧ Aside0 (pW w.heap.size wp ((w9.heap.size, .cells #[Value.bool true, Value.bool false] 4 (0, 0)) :: pks w K M) M e2 (lS M (laA K M l n) (pasS mb (laA K M l n) s (passes K M (laA K M l n) s j) i) (rowA K M l n))) ∧ Aside0 (Below w.heap.size w wp))
     case atStart => exact ⟨0, by omega, by omega, rfl, HPj, HBj⟩
     case round =>
      obtain ⟨i, hiK, hgg4, rfl, HPi, HBi⟩ := hrel
      by_cases hilt : i < K
      ·have hlti : decide ((i : Int) < (K : Int)) = true := decide_eq_true (by omega)
       have hbit := bit_is hs9 (show i < 8 by omega)
       have hnx : pasS mb (laA K M l n) s (passes K M (laA K M l n) s j) (i + 1) = stepP mb (laA K M l n) s i (pasS mb (laA K M l n) s (passes K M (laA K M l n) s j) i) := rfl
       have hok : OkL K M (pasS mb (laA K M l n) s (passes K M (laA K M l n) s j) i) := pasS_ok (passes_ok K M _ _ j) i (by omega)
       generalize pasS mb (laA K M l n) s (passes K M (laA K M l n) s j) i = sl at HPi hnx hok
       have HF : Aside0 (∀ W, Below wr.heap.size wr W → (∀ c, c < M → W.cell? ⟨gs, c, none⟩ = some (.int .i64 (V.rd sl c)) ∧ W.frozen? ⟨gs, c, none⟩ = false) ∧ W.cell? ⟨gl, i, none⟩ = some (.int .i64 (V.rd (laA K M l n) i)) ∧ Below w.heap.size w W ∧ pW w.heap.size W ((w9.heap.size, .cells #[Value.bool true, Value.bool false] 4 (0, 0)) :: pks w K M) M e2 (lS M (laA K M l n) sl (rowA K M l n)) ∧ bRL W (fun _ => False) (.slice (some ⟨gs, 0, none⟩) M cs) sl) := ⟨fun W hW => by
        have p := HPi.out.later hW
        have r1 := p.r.rows 1 (by omega)
        have r2 := p.r.rows 2 (by omega)
        rw [he21, lS_1] at r1
        rw [he22, lS_2] at r2
        exact ⟨fun c hc => r2.cell (by rw [hok.len]; exact hc), (r1.cell (by rw [HLa.out.len]; exact hilt)).1, HZ.out HBi.out hW, p, r2.rl (fun _ _ h => h)⟩⟩
       by_cases hb : bitS s i = true
       ·rw [hb] at hbit
        have hbit : decide (Go.bits .and .i64 (s / 2 ^ i) 1 = 0) = false := hbit
        have hbit2 : (Go.bits .and .i64 (s / 2 ^ i) 1 == 0) = false := hbit
        obtain ⟨-, -, hb20, -, hrl⟩ := HF.out wr (Below.refl _ _)
        by_cases hmem : (i : Int) ∈ sl
        ·have H98 : Aside0 (Calls Tryz.prog 98 #[.slice (some ⟨gs, 0, none⟩) M cs, .int .i64 i] wr fun e w' => e = .returned (.bool true) ∧ Below wr.heap.size wr w') := ⟨c_LI_b (M98 k) (HG.out wr hb20) hrl (by show slices_Contains_int64_int64.f k sl i = some true; rw [contains_f8 hk (by rw [hok.len]; omega), decide_eq_true hmem])⟩
         go_wp2_with (first
          | (go_at_call 98; refine H98.out.mono ?_; rintro e w10 ⟨rfl, hb21⟩; obtain ⟨-, -, hb22, hp22, -⟩ := HF.out w10 hb21))
         have e9 : stepP mb (laA K M l n) s i sl = sl := by unfold stepP; rw [if_neg (by rw [hb]; decide), if_pos hmem]
         rw [e9] at hnx
         have HE9 := Aside0.mk hnx
         go_roundg (K - (i + 1))
         case measure => omega
         case rel => exact ⟨i + 1, by omega, Nat.le_refl _, (by first | go_num | (unfold wrap64; omega)), ⟨by rw [HE9.out]; exact hp22⟩, ⟨hb22⟩⟩
        ·have H98 : Aside0 (Calls Tryz.prog 98 #[.slice (some ⟨gs, 0, none⟩) M cs, .int .i64 i] wr fun e w' => e = .returned (.bool false) ∧ Below wr.heap.size wr w') := ⟨c_LI_b (M98 k) (HG.out wr hb20) hrl (by show slices_Contains_int64_int64.f k sl i = some false; rw [contains_f8 hk (by rw [hok.len]; omega), decide_eq_false hmem])⟩
         have hto := to_ok (must := mb) (la := laA K M l n) HLa.out hok hilt
         have hns : stepP mb (laA K M l n) s i sl = if (if mb = true then V.rd (laA K M l n) i else idxS sl) ≠ -1 ∧ V.rd sl (if mb = true then V.rd (laA K M l n) i else idxS sl) = -1 then sl.set (if mb = true then V.rd (laA K M l n) i else idxS sl).toNat i else sl := by unfold stepP; rw [if_neg (by rw [hb]; decide), if_neg hmem]
         cases mb with
         | true =>
          have hto : -1 ≤ V.rd (laA K M l n) i ∧ V.rd (laA K M l n) i < M := hto
          have hns : stepP true (laA K M l n) s i sl = if V.rd (laA K M l n) i ≠ -1 ∧ V.rd sl (V.rd (laA K M l n) i) = -1 then sl.set (V.rd (laA K M l n) i).toNat i else sl := hns
          by_cases hm1 : V.rd (laA K M l n) i = -1
          ·have hm2 : (V.rd (laA K M l n) i != -1) = false := by rw [hm1]; decide
           have hm3 : decide (V.rd (laA K M l n) i = -1) = true := decide_eq_true hm1
           rw [if_neg (fun h => h.1 hm1)] at hns
           rw [hns] at hnx
           have HE9 := Aside0.mk hnx
           go_wp2_with (first
            | (go_at_call 98; refine H98.out.mono ?_; rintro e w10 ⟨rfl, hb21⟩; obtain ⟨hq1, hq2, hb22, hp22, -⟩ := HF.out w10 hb21; rw [hm1] at hq2))
           go_roundg (K - (i + 1))
           case measure => omega
           case rel => exact ⟨i + 1, by omega, Nat.le_refl _, (by first | go_num | (unfold wrap64; omega)), ⟨by rw [HE9.out]; exact hp22⟩, ⟨hb22⟩⟩
          ·obtain ⟨c, hc⟩ := Int.eq_ofNat_of_zero_le (show 0 ≤ V.rd (laA K M l n) i by omega)
           have hcM : c < M := by omega
           have hm2 : ((c : Int) != -1) = true := by rw [bne_iff_ne]; omega
           have hm3 : decide ((c : Int) = -1) = false := decide_eq_false (by omega)
           rw [hc] at hns
           by_cases hv : V.rd sl (c : Int) = -1
           ·have hv2 : (V.rd sl (c : Int) == -1) = true := by rw [hv]; decide
            have hv3 : decide (V.rd sl (c : Int) = -1) = true := decide_eq_true hv
            rw [if_pos ⟨by omega, hv⟩, Int.toNat_natCast] at hns
            rw [hns] at hnx
            have HE9 := Aside0.mk hnx
            go_wp2_with (first
             | (go_at_call 98; refine H98.out.mono ?_; rintro e w10 ⟨rfl, hb21⟩; obtain ⟨hq1, hq2, hb22, hp22, -⟩ := HF.out w10 hb21; rw [hc] at hq2; obtain ⟨hq3, hq4⟩ := hq1 c hcM))
            go_roundg (K - (i + 1))
            case measure => omega
            case rel => exact ⟨i + 1, by omega, Nat.le_refl _, (by first | go_num | (unfold wrap64; omega)), ⟨by rw [HE9.out]; have p := hp22.put (i := 2) (x := (i : Int)) (j := c) (by omega) (by omega) he22 (by rw [lS_2, hok.len]; exact hcM); rw [lS_up2] at p; exact p⟩, ⟨below_set hb22 (hp22.ge (i := 2) (by omega) he22) _⟩⟩
           ·have hv2 : (V.rd sl (c : Int) == -1) = false := by rw [beq_eq_false_iff_ne]; exact hv
            have hv3 : decide (V.rd sl (c : Int) = -1) = false := decide_eq_false hv
            rw [if_neg (fun h => hv h.2)] at hns
            rw [hns] at hnx
            have HE9 := Aside0.mk hnx
            go_wp2_with (first
             | (go_at_call 98; refine H98.out.mono ?_; rintro e w10 ⟨rfl, hb21⟩; obtain ⟨hq1, hq2, hb22, hp22, -⟩ := HF.out w10 hb21; rw [hc] at hq2; obtain ⟨hq3, hq4⟩ := hq1 c hcM))
            go_roundg (K - (i + 1))
            case measure => omega
            case rel => exact ⟨i + 1, by omega, Nat.le_refl _, (by first | go_num | (unfold wrap64; omega)), ⟨by rw [HE9.out]; exact hp22⟩, ⟨hb22⟩⟩
         | false =>
          have hto : -1 ≤ idxS sl ∧ idxS sl < M := hto
          have hns : stepP false (laA K M l n) s i sl = if idxS sl ≠ -1 ∧ V.rd sl (idxS sl) = -1 then sl.set (idxS sl).toNat i else sl := hns
          have H99 : Aside0 (∀ W, Below wr.heap.size wr W → Calls Tryz.prog 99 #[.slice (some ⟨gs, 0, none⟩) M cs, .int .i64 (-1)] W fun e w' => e = .returned (.int .i64 (idxS sl)) ∧ Below W.heap.size W w') := ⟨fun W hW => c_LI_i (M99 k) (HG.out W (HF.out W hW).2.2.1) (HF.out W hW).2.2.2.2 (by show slices_Index_int64_int64.f k sl (-1) = _; rw [index_f hk (by rw [hok.len]; omega), idxX_S])⟩
          have HTq : Aside0 (∀ {A C : World}, Below wr.heap.size wr A → Below A.heap.size A C → Below wr.heap.size wr C) := ⟨fun h1 h2 => h1.trans (h2.mono h1.size)⟩
          obtain ⟨hz1, hz2⟩ := HLa.out.rd hilt
          by_cases hm1 : idxS sl = -1
          ·have hm2 : (idxS sl != -1) = false := by rw [hm1]; decide
           have hm3 : decide (idxS sl = -1) = true := decide_eq_true hm1
           rw [if_neg (fun h => h.1 hm1)] at hns
           rw [hns] at hnx
           have HE9 := Aside0.mk hnx
           go_wp2_with (first
            | (go_at_call 98; refine H98.out.mono ?_; rintro e w10 ⟨rfl, hb21⟩; obtain ⟨hq1, hq2, -, -, -⟩ := HF.out w10 hb21)
            | (go_at_call 99; refine (H99.out _ hb21).mono ?_; rintro e w11 ⟨rfl, hb23⟩; obtain ⟨-, -, hb22, hp22, -⟩ := HF.out w11 (HTq.out hb21 hb23)))
           go_roundg (K - (i + 1))
           case measure => omega
           case rel => exact ⟨i + 1, by omega, Nat.le_refl _, (by first | go_num | (unfold wrap64; omega)), ⟨by rw [HE9.out]; exact hp22⟩, ⟨hb22⟩⟩
          ·obtain ⟨hp0, hv⟩ := (idxS_bnd sl).2.2 hm1
           obtain ⟨c, hc⟩ := Int.eq_ofNat_of_zero_le hp0
           rw [hc] at hns hto hm1 hv
           have hcM : c < M := by omega
           have hm2 : ((c : Int) != -1) = true := by rw [bne_iff_ne]; omega
           have hm3 : decide ((c : Int) = -1) = false := decide_eq_false (by omega)
           have hv2 : (V.rd sl (c : Int) == -1) = true := by rw [hv]; decide
           have hv3 : decide (V.rd sl (c : Int) = -1) = true := decide_eq_true hv
           rw [if_pos ⟨by omega, hv⟩, Int.toNat_natCast] at hns
           rw [hns] at hnx
           have HE9 := Aside0.mk hnx
           rw [hc] at H99
           go_wp2_with (first
            | (go_at_call 98; refine H98.out.mono ?_; rintro e w10 ⟨rfl, hb21⟩; obtain ⟨hq1, hq2, -, -, -⟩ := HF.out w10 hb21)
            | (go_at_call 99; refine (H99.out _ hb21).mono ?_; rintro e w11 ⟨rfl, hb23⟩; obtain ⟨hq5, -, hb22, hp22, -⟩ := HF.out w11 (HTq.out hb21 hb23); obtain ⟨hq3, hq4⟩ := hq5 c hcM))
           go_roundg (K - (i + 1))
           case measure => omega
           case rel => exact ⟨i + 1, by omega, Nat.le_refl _, (by first | go_num | (unfold wrap64; omega)), ⟨by rw [HE9.out]; have p := hp22.put (i := 2) (x := (i : Int)) (j := c) (by omega) (by omega) he22 (by rw [lS_2, hok.len]; exact hcM); rw [lS_up2] at p; exact p⟩, ⟨below_set hb22 (hp22.ge (i := 2) (by omega) he22) _⟩⟩
       ·have hbf : bitS s i = false := by simpa using hb
        rw [hbf] at hbit
        have hbit : decide (Go.bits .and .i64 (s / 2 ^ i) 1 = 0) = true := hbit
        have hbit2 : (Go.bits .and .i64 (s / 2 ^ i) 1 == 0) = true := hbit
        have hns : stepP mb (laA K M l n) s i sl = sl := by unfold stepP; rw [if_pos hbf]
        rw [hns] at hnx
        have HE9 := Aside0.mk hnx
        go_wp2
        go_roundg (K - (i + 1))
        case measure => omega
        case rel => exact ⟨i + 1, by omega, Nat.le_refl _, (by first | go_num | (unfold wrap64; omega)), ⟨by rw [HE9.out]; exact HPi.out⟩, HBi⟩
      ·have hlti : decide ((i : Int) < (K : Int)) = false := decide_eq_false (by omega)
       have hiK2 : i = K := by omega
       rw [hiK2, ← hpj] at HPi
       go_wp2
       go_roundg (2 - (j + 1))
       case measure => omega
       case rel => exact ⟨j + 1, by omega, Nat.le_refl _, (by first | go_num | (unfold wrap64; omega)), HPi, HBi⟩
    ·have hltj : decide ((j : Int) < 2) = false := decide_eq_false (by omega)
     have hj22 : j = 2 := by omega
     have HP6 : Aside0 (pW w.heap.size wr (pks w K M) M e2 (lS M (laA K M l n) (slA K M l n) (rowA K M l n))) := ⟨by
      have p := HPj.out.less (ks' := pks w K M) fun p hp => List.mem_cons_of_mem _ hp
      rw [hj22, ← hsd] at p
      exact p⟩
     clear hj22 HPj HP2
     go_wp2
     go_loopg [98] M (fun g6 s98 wr => ∃ (c : Nat) (e : Nat → Value), c ≤ M ∧ M - c ≤ g6 ∧ s98 = .int .i64 c ∧ e 0 = .slice (some ⟨w5.heap.size, 0, none⟩) M M ∧ e 1 = .slice (some ⟨gl, 0, none⟩) K cl ∧ e 2 = .slice (some ⟨gs, 0, none⟩) M cs ∧ Aside0 (pW w.heap.size wr (pks w K M) M e (lS M (lasS (slA K M l n) (laA K M l n) c) (slA K M l n) (fun c' => rowA K M l (if c' < c then n + 1 else n) c'))) ∧ Aside0 (Below w.heap.size w wr))
     case atStart => exact ⟨0, e2, Nat.zero_le _, by omega, rfl, he20, he21, he22, HP6, HBj⟩
     case round =>
      obtain ⟨c, e, hcM, hgg6, rfl, he0, he1, he2', HPc, HBc⟩ := hrel
      by_cases hclt : c < M
      ·have hltc : decide ((c : Int) < (M : Int)) = true := decide_eq_true (by omega)
       have hxr := HS.out.rd hclt
       have hp := HPc.out
       have r2 := hp.r.rows 2 (by omega)
       rw [he2', lS_2] at r2
       have hcs := (r2.cell (i := c) (by rw [HS.out.len]; exact hclt)).1
       obtain ⟨g0, c0, e0, -, hoc⟩ := hp.oc (by omega)
       rw [he0] at e0
       cases e0
       have hcell := hoc c hclt
       have e3 : lS M (lasS (slA K M l n) (laA K M l n) c) (slA K M l n) (fun c' => rowA K M l (if c' < c then n + 1 else n) c') (c + 3) = rowA K M l n c := by rw [lS_3 hclt, if_neg (Nat.lt_irrefl c)]
       have HPo : Aside0 (∀ W, Below wr.heap.size wr W → W.ownsRow w.heap.size 2 1 (e (c + 3)) n ((rowA K M l n c).map (Value.int .i64))) := ⟨fun W hW => by
        have r3 := (hp.later hW).r.rows (c + 3) (by omega)
        rw [e3] at r3
        unfold bOw at r3
        rw [rowA_len] at r3
        exact r3⟩
       have HAP : Aside0 (∀ W w3 v3, Below wr.heap.size wr W → W.grownBy w3 (e (c + 3)).ownBlock → w3.ownsRow w.heap.size 2 1 v3 (n + 1) ((rowA K M l n c).map (Value.int .i64) ++ [Value.int .i64 (V.rd (slA K M l n) c)]) → (v3.ownBlock = (e (c + 3)).ownBlock ∨ v3.ownBlock = some W.heap.size) →
         w3.cell? ⟨w5.heap.size, c, none⟩ = some (e (c + 3)) ∧ w3.frozen? ⟨w5.heap.size, c, none⟩ = false ∧ Below w.heap.size w (w3.setCell ⟨w5.heap.size, c, none⟩ v3) ∧ ∃ e' : Nat → Value, e' 0 = .slice (some ⟨w5.heap.size, 0, none⟩) M M ∧ e' 1 = .slice (some ⟨gl, 0, none⟩) K cl ∧ e' 2 = .slice (some ⟨gs, 0, none⟩) M cs ∧
         pW w.heap.size (w3.setCell ⟨w5.heap.size, c, none⟩ v3) (pks w K M) M e' (lS M (lasS (slA K M l n) (laA K M l n) c) (slA K M l n) (fun c' => rowA K M l (if c' < c + 1 then n + 1 else n) c'))) := ⟨fun W w3 v3 h1 h2 h3 h4 => by
        obtain ⟨q1, q2, q3, q4⟩ := hp.grow (x := V.rd (slA K M l n) c) HBc.out rfl hclt h1 he0 (by rw [e3, rowA_len]; exact h3) h2 h4
        refine ⟨q1, q2, q4, up e (c + 3) v3, by rw [up_ne _ _ (by omega)]; exact he0, by rw [up_ne _ _ (by omega)]; exact he1, by rw [up_ne _ _ (by omega)]; exact he2', ?_⟩
        rw [e3, ← rowA_succ, lS_up3 hclt] at q3
        rw [lS_congr (rows' := fun c' => rowA K M l (if c' < c + 1 then n + 1 else n) c')] at q3
        ·exact q3
        ·intro c' hc'
         by_cases h : c' = c
         ·subst h; rw [up_eq, if_pos (by omega)]
         ·rw [up_ne _ _ h]
          show rowA K M l (if c' < c then n + 1 else n) c' = _
          by_cases h2 : c' < c
          ·rw [if_pos h2, if_pos (by omega)]
          ·rw [if_neg h2, if_neg (by omega)]⟩
       obtain ⟨i0, hi0, hz0, hs0, hy0⟩ := info2
       have HI0 := Aside0.mk hi0
       have HZ0 := Aside0.mk hz0
       have HS0 := Aside0.mk hs0
       have HY0 := Aside0.mk hy0
       have HWb : Aside0 (∀ o, Below wr.heap.size wr (wr.alloc o)) := ⟨fun o => (Below.refl _ _).alloc (Nat.le_refl _) _⟩
       have HM1 : Aside0 (n + 1 ≤ maxLen ∧ (n + 1) * 8 ≤ 140737488355328) := ⟨by unfold maxLen; omega⟩
       have HBs : Aside0 (w.heap.size ≤ wr.heap.size) := ⟨HBc.out.size⟩
       clear hi0 hz0 hs0 hy0 hp r2 hoc e3
       generalize hxd : V.rd (slA K M l n) (c : Int) = x at *
       have HXD := Aside0.mk hxd
       clear hxd
       by_cases hm1 : x = -1
       ·subst hm1
        have HE9 : Aside0 (lasS (slA K M l n) (laA K M l n) (c + 1) = lasS (slA K M l n) (laA K M l n) c) := ⟨if_neg (fun h => h HXD.out)⟩
        go_wp2_with (first
         | (at_builtin; go_loud (refine wpList_append_own_at _ rfl _ _ 24 rfl w.heap.size 2 i0 (.int .i64 0) 1 8 und24 HI0.out HZ0.out HS0.out HY0.out rfl (by decide) (e (c + 3)) n ((rowA K M l n c).map (Value.int .i64)) rfl (HPo.out _ (HWb.out _)) ⟨wr.heap.size, 0, none⟩ 1 1 [Value.int .i64 (-1)] rfl rfl (fun j u hu => news1 (t := 2) j u (by exact heap_alloc_new wr _) hu) (fun u hu => by rw [List.mem_singleton.1 hu]; rfl) HM1.out.1 HM1.out.2 (by exact Nat.le_trans HBs.out (by simp)) ?_; intro v3 w3 hown3 hgr3 _ hbl3; obtain ⟨rv3, cv3, rfl⟩ := own_shape hown3; obtain ⟨hx3, hf3, hB3, e', q0, q1, q2, hP3⟩ := HAP.out _ _ _ (HWb.out _) hgr3 hown3 hbl3; clear hown3 hgr3 hbl3)))
        go_roundg (M - (c + 1))
        case measure => omega
        case rel => exact ⟨c + 1, e', by omega, Nat.le_refl _, (by first | go_num | (unfold wrap64; omega)), q0, q1, q2, ⟨by rw [HE9.out]; exact hP3⟩, ⟨hB3⟩⟩
       ·obtain ⟨xi, rfl⟩ := Int.eq_ofNat_of_zero_le (show 0 ≤ x by omega)
        have hxK : xi < K := by omega
        have hm2 : ((xi : Int) != -1) = true := by rw [bne_iff_ne]; omega
        have hm3 : decide ((xi : Int) = -1) = false := decide_eq_false (by omega)
        have HE9 : Aside0 (lasS (slA K M l n) (laA K M l n) (c + 1) = (lasS (slA K M l n) (laA K M l n) c).set xi c) := ⟨by show (if V.rd (slA K M l n) c ≠ -1 then _ else _) = _; rw [HXD.out, if_pos (by omega), Int.toNat_natCast]⟩
        have HL1 : Aside0 ((lasS (slA K M l n) (laA K M l n) c).length = K) := ⟨(lasS_ok HLa.out c hcM).len⟩
        go_wp2_with (first
         | (at_builtin; go_loud (refine wpList_append_own_at _ rfl _ _ 24 rfl w.heap.size 2 i0 (.int .i64 0) 1 8 und24 HI0.out HZ0.out HS0.out HY0.out rfl (by decide) (e (c + 3)) n ((rowA K M l n c).map (Value.int .i64)) rfl (HPo.out _ (HWb.out _)) ⟨wr.heap.size, 0, none⟩ 1 1 [Value.int .i64 (xi : Int)] rfl rfl (fun j u hu => news1 (t := 2) j u (by exact heap_alloc_new wr _) hu) (fun u hu => by rw [List.mem_singleton.1 hu]; rfl) HM1.out.1 HM1.out.2 (by exact Nat.le_trans HBs.out (by simp)) ?_; intro v3 w3 hown3 hgr3 _ hbl3; obtain ⟨rv3, cv3, rfl⟩ := own_shape hown3; obtain ⟨hx3, hf3, hB3, e', q0, q1, q2, hP3⟩ := HAP.out _ _ _ (HWb.out _) hgr3 hown3 hbl3; have hr3 := hP3.r.rows 1 (by omega); rw [q1, lS_1] at hr3; obtain ⟨hx4, hf4⟩ := hr3.cell (i := xi) (by rw [HL1.out]; exact hxK); clear hr3; clear hown3 hgr3 hbl3)))
        go_roundg (M - (c + 1))
        case measure => omega
        case rel => exact ⟨c + 1, e', by omega, Nat.le_refl _, (by first | go_num | (unfold wrap64; omega)), q0, q1, q2, ⟨by rw [HE9.out]; have p := hP3.put (i := 1) (x := (c : Int)) (j := xi) (by omega) (by omega) q1 (by rw [lS_1, HL1.out]; exact hxK); rw [lS_up1] at p; exact p⟩, ⟨below_set hB3 (hP3.ge (i := 1) (by omega) q1) _⟩⟩
      ·have hltc : decide ((c : Int) < (M : Int)) = false := decide_eq_false (by omega)
       have hcM2 : c = M := by omega
       have HPn : Aside0 (pW w.heap.size wr (pks w K M) M e (lS M (laA K M l (n + 1)) (slA K M l n) (rowA K M l (n + 1)))) := ⟨by
        have p := HPc.out
        rw [hcM2, lS_congr (rows' := rowA K M l (n + 1)) (fun c' hc' => by show rowA K M l (if c' < M then n + 1 else n) c' = _; rw [if_pos hc'])] at p
        exact p⟩
       go_wp2
       go_roundg (l.length - (n + 1))
       case measure => omega
       case rel => exact ⟨n + 1, e, _, by omega, Nat.le_refl _, (by first | go_num | (unfold wrap64; omega)), he0, he1, HPn, HBc⟩
  ·have hltz : decide ((n : Int) < (l.length : Int)) = false := decide_eq_false (by omega)
   have hnl : n = l.length := by omega
   have HPn : Aside0 (pRes w.heap.size wr (.slice (some ⟨w5.heap.size, 0, none⟩) M M) (putA K M l)) := ⟨by
    have p := HP.out.less (ks' := []) fun p hp => by cases hp
    rw [hnl] at p
    have e9 : (putA K M l).length = M := by simp [putA]
    refine ⟨e, _, by rw [e9]; exact p, he0.symm, ?_⟩
    rw [e9]
    exact List.map_congr_left fun c hc => (lS_3 (List.mem_range.1 hc)).symm⟩
   go_wp2
   go_returns
   exact ⟨_, rfl, HPn.out, HBw.out⟩
end Go.Proofs.YtcbhhbkghbnljaaGreatDoor.Vf
end
section
set_option linter.unusedVariables false
set_option linter.unusedSimpArgs false
set_option maxRecDepth 100000
noncomputable section
namespace Go.Proofs.YtcbhhbkghbnljaaGreatDoor.Vf
open Go Go.V Go.RowKit Go.Proofs
theorem elems_of {w : World} {N : Nat → Prop} : ∀ {ls : List (List Int)} {hs : List Value}, ls.length = hs.length → (∀ (i : Nat) a b, ls[i]? = some a → hs[i]? = some b → Rc w N bLT a [b]) → Elems w N bLT ls hs
 | [], [], _, _ => rfl
 | a :: ls, b :: hs, hl, h => ⟨[b], hs, rfl, h 0 a b rfl rfl, elems_of (by simpa using hl) fun i a b h1 h2 => h (i + 1) a b (by simpa using h1) (by simpa using h2)⟩
 | [], _ :: _, hl, _ => by cases hl
 | _ :: _, [], hl, _ => by cases hl
theorem pRes.rc {B : Nat} {W : World} {u : Value} {rs : List (List Int)} (h : pRes B W u rs) {N : Nat → Prop} (hN : ∀ r, B ≤ r → ¬ N r) : Rc W N (.list bLT) rs [u] ∧ u.oneCell' = true := by
 obtain ⟨e, l, hp, rfl, hrs⟩ := h
 have ho : W.ownsRow 0 24 1 (e 0) rs.length ((List.range rs.length).map fun i => e (i + 3)) := by
  refine ⟨hp.o.1, ?_⟩
  rcases hp.o.2 with h | ⟨g, cap, cur, h1, hb, rest⟩
  ·exact .inl h
  ·exact .inr ⟨g, cap, cur, h1, Nat.zero_le _, rest⟩
 refine ⟨?_, ?_⟩
 ·refine row_Rc (t := bLT) (N := N) (l := rs) ho ?_ (fun _ h => h) (fun r hr => hN r (own_lt hp.o hr).2)
  refine elems_of (by simp) fun i a b h1 h2 => ?_
  obtain ⟨hi, -⟩ := List.getElem?_eq_some_iff.1 h1
  have e1 := congrArg (fun x => x[i]?) hrs
  simp only [h1, List.getElem?_map, List.getElem?_range hi, Option.map_some] at e1
  simp only [List.getElem?_map, List.getElem?_range hi, Option.map_some] at h2
  obtain rfl := Option.some.inj e1
  obtain rfl := Option.some.inj h2
  exact (hp.r.rows (i + 3) (by omega)).rl hN
 ·rcases hp.o.2 with ⟨h, _⟩ | ⟨g, cap, cur, h1, _⟩
  ·rw [h]; rfl
  ·rw [h1]; rfl
theorem impl_put_calls (k : Nat) {w : World} {N : Nat → Prop} {v : Value} {l : List Int} {a0 a1 c : Int} {rs : List (List Int)} (hl : bRL w N v l) (hg : GB w.heap.size w) (hy : impl_PutSets.f k a0 a1 l = some (rs, c)) :
  Calls Tryz.prog 36 #[.int .i64 a0, .int .i64 a1, v] w fun e w' => ∃ u, e = .returned (.tuple #[u, .int .i64 c]) ∧ pRes w.heap.size w' u rs ∧ Below w.heap.size w w' := by
 have no : some (([] : List (List Int)), (2 : Int)) = some (rs, c) → (Calls Tryz.prog 36 #[.int .i64 a0, .int .i64 a1, v] w fun e w' => e = .returned (.tuple #[nilV, .int .i64 2]) ∧ Below w.heap.size w w') → Calls Tryz.prog 36 #[.int .i64 a0, .int .i64 a1, v] w fun e w' => ∃ u, e = .returned (.tuple #[u, .int .i64 c]) ∧ pRes w.heap.size w' u rs ∧ Below w.heap.size w w' := fun h hc => by
  obtain ⟨rfl, rfl⟩ := Prod.mk.inj (Option.some.inj h)
  refine hc.mono ?_
  rintro e w' ⟨rfl, hb⟩
  exact ⟨nilV, rfl, pRes_nil _ _, hb⟩
 unfold impl_PutSets.f at hy
 obtain ⟨t1, e1, hy⟩ := Option.bind_eq_some_iff.1 hy
 cases t1 with
 | false => rw [if_pos rfl] at hy; exact no hy (impl_put_no k hl hg (.inl e1))
 | true =>
  rw [if_neg (by decide)] at hy
  obtain ⟨t2, e2, hy⟩ := Option.bind_eq_some_iff.1 hy
  cases t2 with
  | false => rw [if_pos rfl] at hy; exact no hy (impl_put_no k hl hg (.inr ⟨e1, .inl e2⟩))
  | true =>
   rw [if_neg (by decide)] at hy
   obtain ⟨n, en, hy⟩ := Option.bind_eq_some_iff.1 hy
   obtain ⟨t3, e3, hy⟩ := Option.bind_eq_some_iff.1 hy
   cases t3 with
   | false => rw [if_pos rfl] at hy; exact no hy (impl_put_no k hl hg (.inr ⟨e1, .inr ⟨e2, n, en, .inl e3⟩⟩))
   | true =>
    rw [if_neg (by decide)] at hy
    obtain ⟨t4, e4, hy⟩ := Option.bind_eq_some_iff.1 hy
    cases t4 with
    | false => rw [if_pos rfl] at hy; exact no hy (impl_put_no k hl hg (.inr ⟨e1, .inr ⟨e2, n, en, .inr ⟨e3, e4⟩⟩⟩))
    | true =>
     rw [if_neg (by decide)] at hy
     split at hy
     case isFalse => cases hy
     rename_i hq
     obtain ⟨hk, hK, hM, hn, hx⟩ := hq
     obtain ⟨K, rfl⟩ := Int.eq_ofNat_of_zero_le (show 0 ≤ a0 by omega)
     obtain ⟨M, rfl⟩ := Int.eq_ofNat_of_zero_le (show 0 ≤ a1 by omega)
     obtain ⟨rfl, rfl⟩ := Prod.mk.inj (Option.some.inj hy)
     exact impl_put_yes k hk hl hg e1 e2 en e3 e4 (by omega) (by omega) hn hx
theorem put_meets {f : FuncId} {fn : Func} {F : Int × Int × List Int → Option (List (List Int) × Int)} (hf : Tryz.prog.funcs[f]? = some fn) (h1 : (fn.name == "runtime.NumGoroutine") = false) (hb : fn.body.isSome = true)
  (hc : ∀ {w : World} {N : Nat → Prop} {v : Value} {l : List Int} {a0 a1 c : Int} {rs : List (List Int)}, bRL w N v l → GB w.heap.size w → F (a0, a1, l) = some (rs, c) → Calls Tryz.prog f #[.int .i64 a0, .int .i64 a1, v] w fun e w' => ∃ u, e = .returned (.tuple #[u, .int .i64 c]) ∧ pRes w.heap.size w' u rs ∧ Below w.heap.size w w') :
  Meets Tryz.prog f ⟨[pI, pI, pL], [(false, [.dat (.list bLT)]), pI], F⟩ := by
 refine ⟨fun args w => by
  have h1 : fn.name ≠ "runtime.NumGoroutine" := by simpa using h1
  obtain ⟨c, hc⟩ := Option.isSome_iff_exists.1 hb
  simp [callFunc, hf, h1, hc, mark], ?_⟩
 intro w X args cells x y hc0 hX hp hn hgl hy
 obtain ⟨v1, vs1, cs1, -, rfl, -, rfl, v2, vs2, cs2, -, rfl, -, rfl, v3, vs3, cs3, -, rfl, ho3, rfl, rfl, rfl⟩ := hc0
 obtain ⟨u1, us, e1, h1, u2, us2, e2, h2, u3, e3, h3⟩ := hp
 obtain ⟨rfl, rfl⟩ := List.cons.inj e1
 obtain ⟨rfl, rfl⟩ := List.cons.inj e2
 obtain ⟨rfl, -⟩ := List.cons.inj e3
 obtain ⟨a0, a1, l⟩ := x
 obtain ⟨rs, c⟩ := y
 have h1 : [v1] = [Value.int .i64 a0] := h1
 have h2 : [v2] = [Value.int .i64 a1] := h2
 cases h1; cases h2
 have hg : GB w.heap.size w := GB.new (hgl.move (Frame0.refl _ _) fun r h => h.elim)
 refine (hc (a0 := a0) (a1 := a1) (c := c) (rs := rs) h3 hg hy).mono ?_
 rintro e w' ⟨u, rfl, hr, hB⟩
 have hN : ∀ r, w.heap.size ≤ r → ¬ (X r ∨ r ∈ ([] : List Nat) ∨ r ∈ ([] : List Nat)) := fun r hr h => by
  rcases h with h | h | h
  ·have := (hX r h).1; omega
  ·cases h
  ·cases h
 obtain ⟨q1, q2⟩ := hr.rc hN
 exact ⟨_, [u, .int .i64 c], [u, .int .i64 c], rfl, rfl, ⟨_, _, _, rfl, rfl, q2, rfl, _, _, _, rfl, rfl, rfl, rfl, rfl, rfl⟩, ⟨hB.os, hB.tape, hB.output, hB.size, fun r hr _ => hB.block r hr⟩, ⟨_, _, rfl, q1, _, rfl, rfl⟩, List.nodup_nil, fun r h => by cases h⟩
def S36 (k : Nat) : Does := ⟨[sI, sI, sL], [sM, sI], U3 (impl_PutSets.f k)⟩
theorem M36 (k) : Meets Tryz.prog 36 (S36 k) := put_meets Tryz.func36 (by kernel_rfl) (by kernel_rfl) fun hl hg hy => impl_put_calls k hl hg hy
end Go.Proofs.YtcbhhbkghbnljaaGreatDoor.Vf
end
