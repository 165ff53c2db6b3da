/- An evaluator of Go code over typed data, and that the model runs as it says (part 2). Conditions: as each theorem states. My own. -/
import Derived.Test.YtcbhhbkghbnljaaGreatDoorVa
import Derived.Laws.OwnMore
import Derived.Lib.LaidTab
import Derived.Lib.ItoaNum
section
namespace Go.V
open Go Go.RowKit
set_option linter.unusedVariables false
set_option linter.unusedSimpArgs false
section
variable {P : Program} {E : En} {R : Type} {w0 : World} {M : Mo} {X : Nat → Prop} {hd : Nat → Value} {st : St} {a : Act} {w w' : World}
variable {k : St → Option R} {r : R} {K : Act → World → Prop} {Q : Exit → Act → World → Prop} {o : Oper}
theorem owns_one {base : Nat} {e : TypeId} {size : Nat} {v : Value} {n : Nat} {xs : List Value} (h : w.ownsRow base e size v n xs) : v.oneCell' = true := by
 rcases h.2 with ⟨rfl, _⟩ | ⟨_, _, _, rfl, _⟩ <;> rfl
theorem rowK_ok {dst : Option Tmp} {e : TypeId} {t : Ty} {l : List t.den} {v : Value} {xs : List Value} (h : Rel w0 M X hd st a w) (ho : w'.os = w.os) (ht : w'.tape = w.tape) (hu : w'.output = w.output)
  (hs : w.heap.size ≤ w'.heap.size) (hk' : ∀ k, k < w.heap.size → w'.heap[k]? = w.heap[k]?) (hnew : ∀ r, blockOf v = some r → w.heap.size ≤ r)
  (hown : w'.ownsRow 0 e t.size v (List.length l) xs) (hE : Elems w (st.cx X hd w).N t l xs) (hk : Next w0 M X k r K) (hr : rowK st dst e t l k = some r) : K (a.put dst v) w' := by
 unfold rowK at hr
 split at hr
 ·rename_i st' hal
  obtain ⟨hf, rfl⟩ := alloc_find hal
  have hrel := h.fresh (v := v) (blk := .flat e t l) hf ho ht hu hs hk' hnew (fun g => ⟨xs, by
   show w'.ownsRow 0 e t.size (if nameOf dst = nameOf dst then v else _) _ _
   rw [if_pos rfl]; exact hown, hE.move g.move⟩)
  refine put_ok hrel (v := .own (nameOf dst)) ?_ hk hr
  exact ⟨by show v = (if nameOf dst = nameOf dst then v else _); rw [if_pos rfl], owns_one hown, .flat e t l, e, t, List.length l, by show St.find (St.lay _ _ _) _ = _; rw [St.find_cons, if_pos rfl], rfl⟩
 ·cases hr
theorem convert_ok {s d : TypeId} {x : Operand} (ht : TbOK P E.tb) (ho : o.op = .convert s d x) (h : Rel w0 M X hd st a w) (hk : Next w0 M X k r K) (hr : opK E o st k = some r) : o.wp P a w K Q := by
 have hx := ev_ok h x
 simp only [opK, ho] at hr
 split at hr
 ·rename_i j n hv
  rw [hv] at hx
  have hx : a.eval x = .int j n := by simpa using (show [a.eval x] = [Value.int j n] from hx)
  split at hr
  ·rename_i j1 _ _ _ hs
   obtain ⟨en1⟩ := ht.entry hs
   split at hr
   ·rename_i j2 _ _ _ hd'
    obtain ⟨en2⟩ := ht.entry hd'
    have hr : st.put o.dst (AV.dat (Ty.int j2) (IntKind.wrap j2 n)) k = some r := (congrArg (fun z : Int => st.put o.dst (AV.dat (Ty.int j2) z) k) (wrapV_eq j2 n)).symm.trans hr
    refine wp_value (v := .int j2 (IntKind.wrap j2 n)) (w' := w) ?_ (put_ok h (v := .dat (.int j2) (IntKind.wrap j2 n)) (Rt.of1 (rfl : [Value.int j2 _] = [Value.int j2 _])) hk hr)
    rw [show execOp a.eval o = _ from by simp only [execOp, ho]; rfl, hx]
    simp [convert, run_underlying (int_of en1 rfl), run_underlying (int_of en2 rfl), Conv.intToInt]
   ·cases hr
  ·cases hr
 ·cases hr
theorem makeK_ok {n m : Int} {x : Option R} (h : makeK n m x = some r) : 0 ≤ n ∧ n ≤ m ∧ m.toNat ≤ 1099511627776 ∧ x = some r := by
 unfold makeK at h
 split at h
 ·split at h
  ·split at h
   ·exact ⟨by assumption, by assumption, by assumption, h⟩
   ·cases h
  ·cases h
 ·cases h
theorem eqZs_ok : ∀ {l m : List Value}, eqZs l m = true → l = m
 | [], [], _ => rfl
 | a :: l, b :: m, h => by
  simp only [eqZs, Bool.and_eq_true] at h
  rw [eqZs_ok h.2]
  congr 1
  have h1 := h.1
  unfold eqZ at h1
  split at h1
  ·simp at h1; rw [h1.1, h1.2]
  ·simp at h1; rw [h1]
  ·simp at h1
   rename_i x y
   congr 1
   have hx : x.data = #[] := by simpa using h1.1
   have hy : y.data = #[] := by simpa using h1.2
   cases x; cases y; simp_all
  ·rfl
  ·cases h1
 | [], _ :: _, h => by cases h
 | _ :: _, [], h => by cases h
theorem zcells_ok {N : Nat → Prop} : ∀ {t : Ty} {z : List Value}, zcells t = some z → Rc w N t (dflt t) z
 | .int _, z, h => by cases h; exact (rfl : [_] = [_])
 | .bool, z, h => by cases h; exact (rfl : [_] = [_])
 | .str, z, h => by cases h; exact (rfl : [_] = [_])
 | .unit, z, h => by cases h; exact (rfl : ([] : List Value) = [])
 | .pair a b, z, h => by
  simp only [zcells] at h
  split at h
  ·rename_i c d h1 h2
   cases h
   exact ⟨c, d, rfl, zcells_ok h1, zcells_ok h2⟩
  ·cases h
 | .list t, z, h => by
  cases h
  exact ⟨none, 0, rfl, Nat.le_refl _, fun _ => rfl, fun i hi => absurd hi (Nat.not_lt_zero _)⟩
 | .struct t, z, h => zcells_ok (t := t) h
 | .ptr _, z, h => by cases h
 | .clo .., z, h => by cases h
 | .map .., z, h => by cases h
 | .optr _, z, h => by cases h
theorem Elems.replicate {N : Nat → Prop} {t : Ty} {x : t.den} {z : List Value} (h : Rc w N t x z) : ∀ n, Elems w N t (List.replicate n x) (List.replicate n z).flatten
 | 0 => rfl
 | n + 1 => ⟨z, (List.replicate n z).flatten, by simp [List.replicate_succ], h, Elems.replicate h n⟩
theorem madeCells_flat (z : List Value) (hz : 0 < z.length) : ∀ m, (madeCells z.toArray (m * z.length)).toList = (List.replicate m z).flatten
 | 0 => by simp [madeCells]
 | m + 1 => by
  have ih := madeCells_flat z hz m
  simp only [madeCells, Array.toList_map, Array.toList_range, List.size_toArray] at ih ⊢
  rw [Nat.add_mul, Nat.one_mul, List.range_add, List.map_append, ih, List.replicate_succ', List.flatten_append]
  congr 1
  simp only [List.map_map, List.flatten_cons, List.flatten_nil, List.append_nil]
  apply List.ext_getElem
  ·simp
  ·intro i h1 h2
   simp at h1
   simp [Nat.mod_eq_of_lt h1, List.getElem?_eq_getElem h1]
theorem makeSlice_ok {t : TypeId} {l c : Operand} (ht : TbOK P E.tb) (ho : o.op = .makeSlice t l c) (h : Rel w0 M X hd st a w) (hk : Next w0 M X k r K) (hr : opK E o st k = some r) : o.wp P a w K Q := by
 have hl := ev_ok h l
 have hc := ev_ok h c
 simp only [opK, ho] at hr
 split at hr
 ·rename_i e n1 n2 n3 hi
  obtain ⟨en⟩ := ht.entry hi
  have hsl := slice_of en rfl
  split at hr
  ·rename_i i hie
   obtain ⟨en'⟩ := ht.entry hie
   split at hr
   ·rename_i s hs
    split at hr
    ·rename_i z hz
     split at hr
     ·rename_i q1 q2 q3 q4
      have q1 := eqZs_ok q1
      have q2 := Nat.eq_of_beq_eq_true q2
      have q3 := Nat.le_of_ble_eq_true q3
      have q4 : 0 < i.size := by simpa [Nat.blt_eq] using q4
      split at hr
      ·rename_i n m hn hm
       rw [hn] at hl
       rw [hm] at hc
       have hl : a.eval l = .int .i64 n := by simpa using (show [a.eval l] = [Value.int .i64 n] from hl)
       have hc : a.eval c = .int .i64 m := by simpa using (show [a.eval c] = [Value.int .i64 m] from hc)
       obtain ⟨h0, h1, h2, hr⟩ := makeK_ok hr
       have main : ∀ (n m : Int), a.eval l = .int .i64 n → a.eval c = .int .i64 m → 0 ≤ n → n ≤ m → m.toNat ≤ 1099511627776 → rowK st o.dst e s (List.replicate (Int.toNat n) (dflt s)) k = some r → o.wp P a w K Q := by
        intro n m hl hc h0 h1 h2 hr
        have hzl : z.length = s.size := (zcells_ok (w := w) (N := (st.cx X hd w).N) hz).length
        have hzc : en'.z.cells.toList = z := en'.hzero.symm.trans q1.symm
        have hmul : (en'.inf.bytes : Int) * m ≤ 281474976710656 := by
         have hb : en'.inf.bytes ≤ 64 := by rw [← en'.hbytes]; exact q3
         have hm' : m ≤ 1099511627776 := by omega
         have : (en'.inf.bytes : Int) * m ≤ 64 * m := Int.mul_le_mul_of_nonneg_right (by omega) (by omega)
         omega
        have hrun := run_make (P := P) w t e en'.inf en'.z hsl en'.hi en'.hz .i64 .i64 n m h0 h1 hmul (by omega)
        have hsz' : en'.inf.size = z.length := by rw [← en'.hsize, hzl]; exact q2
        have hza : en'.z.cells = z.toArray := by rw [← hzc]
        rw [hza, hsz'] at hrun
        refine wp_value (v := .slice (some ⟨w.heap.size, 0, none⟩) n.toNat m.toNat) (w' := w.alloc (.cells (madeCells z.toArray (m.toNat * z.length)) e)) ?_
         (rowK_ok h rfl rfl rfl (by simp) (fun k hk => heap_alloc_old w _ k hk) (fun r hr => by simp [blockOf] at hr; omega) (xs := (List.replicate n.toNat z).flatten) ?_ (Elems.replicate (zcells_ok hz) n.toNat) hk hr)
        ·simp [execOp, ho, hl, hc, hrun]
        ·have hf := madeCells_flat z (by omega) m.toNat
         refine ⟨?_, .inr ⟨w.heap.size, m.toNat, madeCells z.toArray (m.toNat * z.length), ?_, Nat.zero_le _, heap_alloc_new w _, ?_, ?_, ?_, ?_⟩⟩
         ·simp [hzl]
         ·simp
         ·simp; omega
         ·unfold maxLen; omega
         ·simp [size_madeCells, hzl]
         ·rw [hf]
          have e1 : m.toNat = n.toNat + (m.toNat - n.toNat) := by omega
          rw [e1, ← List.replicate_append_replicate, List.flatten_append, List.take_left']
          simp [hzl]
       exact main n m hl hc h0 h1 h2 hr
      ·cases hr
     ·cases hr
    ·cases hr
   ·cases hr
  ·cases hr
 ·cases hr
end
end Go.V
end
section
namespace Go.V
open Go Go.RowKit
set_option linter.unusedVariables false
set_option linter.unusedSimpArgs false
section
variable {P : Program} {E : En} {R : Type} {w0 : World} {M : Mo} {X : Nat → Prop} {hd : Nat → Value} {st : St} {a : Act} {w w' : World}
variable {k : St → Option R} {r : R} {K : Act → World → Prop} {Q : Exit → Act → World → Prop} {o : Oper}
theorem cutK_ok {i j : Int} {n : Nat} {x : Option R} (h : cutK i j n x = some r) : 0 ≤ i ∧ i ≤ j ∧ j ≤ n ∧ x = some r := by
 unfold cutK at h
 split at h
 ·split at h
  ·split at h
   ·exact ⟨by assumption, by assumption, by assumption, h⟩
   ·cases h
  ·cases h
 ·cases h
theorem namesL_one (v : AV) : namesA.namesL [v] = namesA v := by simp [namesA.namesL]
theorem Rt.one {c : Cx} {v : AV} {x : Value} (h : Rt c v x) (hv : v ≠ .undef) (h2 : ∀ cs, v ≠ .agg cs) (h3 : ∀ cs, v ≠ .tup cs) : R1 c v x := by
 cases v with
 | agg cs => exact absurd rfl (h2 cs)
 | tup cs => exact absurd rfl (h3 cs)
 | _ => exact h
theorem boundA_ok (h : Rel w0 M X hd st a w) {d n : Int} {x : Option Operand} (hb : boundA st d x = some n) : (x = none ∧ n = d) ∨ ∃ y, x = some y ∧ a.eval y = .int .i64 n := by
 cases x with
 | none => left; unfold boundA at hb; exact ⟨rfl, by simpa using hb.symm⟩
 | some y =>
  right
  have hy := ev_ok h y
  unfold boundA at hb
  simp only at hb
  split at hb
  ·rename_i m hm
   rw [hm] at hy
   cases hb
   exact ⟨y, rfl, by simpa using (show [a.eval y] = [Value.int .i64 n] from hy)⟩
  ·cases hb
theorem run_cut {t e : TypeId} {te : TI} (hs : P.underlying t = some (.slice e)) (en : Entry P e te) {A : Option Addr} {len cap : Nat} {lo hi : Option Operand} {i j : Int}
  (hlo : (lo = none ∧ i = 0) ∨ ∃ y, lo = some y ∧ a.eval y = .int .i64 i) (hhi : (hi = none ∧ j = len) ∨ ∃ y, hi = some y ∧ a.eval y = .int .i64 j) (h0 : 0 ≤ i) (h1 : i ≤ j) (h2 : j ≤ len) (h3 : len ≤ cap) :
  (Instr.sliceAt t (.slice A len cap) (lo.map a.eval) (hi.map a.eval) none).run P w =
   .ok (.slice (if cap = i.toNat then A else A.map (·.add (i.toNat * te.size))) (j.toNat - i.toNat) (cap - i.toNat)) w := by
 have hb1 : ∀ (y : Nat) (c : BoundsCode), j ≤ y → (Instr.sliceBound (.int .i64 j) y c).run P w = .ok j.toNat w := by
  intro y c hy
  simp [Instr.sliceBound, asIntOf, show 0 ≤ j by omega, hy]
 have hb2 : ∀ (c : BoundsCode), (Instr.sliceBound (.int .i64 i) j.toNat c).run P w = .ok i.toNat w := by
  intro c
  simp [Instr.sliceBound, asIntOf, h0]
  intro hh
  omega
 have hb3 : ∀ (c : BoundsCode), (Instr.sliceBound (.int .i64 i) len c).run P w = .ok i.toNat w := by
  intro c
  simp [Instr.sliceBound, asIntOf, h0, show i ≤ (len : Int) by omega]
 rcases hlo with ⟨rfl, rfl⟩ | ⟨y, rfl, hy⟩ <;> rcases hhi with ⟨rfl, rfl⟩ | ⟨z, rfl, hz⟩
 ·simp [Instr.sliceAt, Instr.slice, run_underlying hs, Instr.sliceBounds, run_sizeOf' en]
 ·simp [Instr.sliceAt, Instr.slice, run_underlying hs, Instr.sliceBounds, run_sizeOf' en, hz, hb1 cap _ (by omega)]
 ·simp [Instr.sliceAt, Instr.slice, run_underlying hs, Instr.sliceBounds, run_sizeOf' en, hy, hb3]
 ·simp [Instr.sliceAt, Instr.slice, run_underlying hs, Instr.sliceBounds, run_sizeOf' en, hy, hz, hb1 cap _ (by omega), hb2]
theorem Rc.cut {N : Nat → Prop} {t : Ty} {l : List t.den} {A : Option Addr} {len cap : Nat} (h : Rc w N (.list t) l [.slice A len cap]) {i j : Nat} (h1 : i ≤ j) (h2 : j ≤ List.length l) :
  len = List.length l ∧ len ≤ cap ∧ Rc w N (.list t) (List.drop i (List.take j l)) [.slice (if cap = i then A else A.map (·.add (i * t.size))) (j - i) (cap - i)] := by
 obtain ⟨A', cap', e, hc, hn, hel⟩ := h
 simp only [List.cons.injEq, Value.slice.injEq, and_true] at e
 obtain ⟨rfl, rfl, rfl⟩ := e
 have hl : (List.drop i (List.take j l)).length = j - i := by simp; omega
 refine ⟨rfl, hc, _, _, by rw [hl], by rw [hl]; omega, ?_, ?_⟩
 ·intro hA
  split at hA
  ·rename_i e; omega
  ·cases A with
   | none => have := hn rfl; omega
   | some _ => cases hA
 ·intro p hp
  have hp' : p < j - i := by rw [← hl]; exact hp
  obtain ⟨ad, rfl, c, hlen, hat, hr⟩ := hel (i + p) (by omega)
  have hne : cap ≠ i := by omega
  rw [if_neg hne]
  refine ⟨ad.add (i * t.size), rfl, c, hlen, ?_, ?_⟩
  ·rw [add_add, ← Nat.add_mul]; exact hat
  ·have : List.get (List.drop i (List.take j l)) ⟨p, hp⟩ = List.get l ⟨i + p, by omega⟩ := by simp
   rw [this]; exact hr
theorem addr_block (ad : Addr) (n : Nat) : (ad.add n).block = ad.block := by
 unfold Addr.add
 (repeat' split) <;> rfl
theorem queB_ok (h : Rel w0 M X hd st a w) {x : Operand} {b : Nat} (hb : queB st (st.ev x) = some b) : a.eval x = hd b := by
 have hx := ev_ok h x
 unfold queB at hb
 split at hb
 ·rename_i b' hv
  rw [hv] at hx
  split at hb
  ·cases hb; exact hx.1
  ·cases hb
 ·cases hb
theorem ownsAt_one {e : TypeId} {size : Nat} {v : Value} {n : Nat} {xs : List Value} (h : ownsAt w e size v n xs) : v.oneCell' = true := by
 rcases h.2 with ⟨rfl, _⟩ | ⟨_, _, _, _, rfl, _⟩ <;> rfl
theorem ownsAt_cut {e : TypeId} {size : Nat} {A : Option Addr} {n cap : Nat} {xs : List Value} (h : ownsAt w e size (.slice A n cap) n xs) {p : Nat} (hp : p ≤ n) :
  ownsAt w e size (.slice (if cap = p then A else A.map (·.add (p * size))) (n - p) (cap - p)) (n - p) (xs.drop (p * size)) := by
 refine ⟨by rw [List.length_drop, h.1, Nat.sub_mul], ?_⟩
 rcases h.2 with ⟨hn, rfl⟩ | ⟨g, off, cap', cur, hv, hg, h1, h2, h3, h4⟩
 ·cases hn
  obtain rfl : p = 0 := by omega
  exact .inl ⟨rfl, rfl⟩
 ·simp only [Value.slice.injEq, true_and] at hv
  obtain ⟨rfl, rfl⟩ := hv
  right
  by_cases e' : cap = p
  ·rw [if_pos e']
   refine ⟨g, off, cap - p, cur, rfl, hg, by omega, by omega, ?_, ?_⟩
   ·have : (cap - p) * size ≤ cap * size := Nat.mul_le_mul_right _ (by omega)
    omega
   ·have e2 : n - p = 0 := by omega
    rw [e2, Nat.zero_mul, List.take_zero, List.drop_eq_nil_of_le]
    rw [h.1]
    exact Nat.mul_le_mul_right _ (by omega)
  ·rw [if_neg e']
   have e3 : p * size + (cap - p) * size = cap * size := by rw [← Nat.add_mul]; congr 1; omega
   have e4 : p * size + (n - p) * size = n * size := by rw [← Nat.add_mul]; congr 1; omega
   refine ⟨g, off + p * size, cap - p, cur, by simp [add_lit], hg, by omega, by omega, by omega, ?_⟩
   rw [← h4, List.drop_take, List.drop_drop]
   congr 1
   omega
theorem queK_ok {t e : TypeId} {te : TI} {s : Ty} {x : Operand} {lo hi : Option Operand} {b : Nat} (hnp : M.np ≤ E.pin) (hsl : P.underlying t = some (.slice e)) (en' : Entry P e te) (hsz : te.size = s.size) (ho : o.op = .slice t x lo hi none) (h : Rel w0 M X hd st a w) (hk : Next w0 M X k r K)
  (hx : a.eval x = hd b) (hr : queK E o.dst e s st b (boundA st (0 : Int) lo) hi k = some r) : o.wp P a w K Q := by
 unfold queK at hr
 split at hr
 ·rename_i e1 t1 l1 p hf hp
  split at hr
  ·rename_i l he hl
   rw [Bool.and_eq_true] at he
   have hpb := Nat.le_of_ble_eq_true he.1
   have he := Nat.eq_of_beq_eq_true he.2
   subst he
   obtain ⟨e2, e3⟩ := cast?_some hl
   cases e2
   cases e3
   obtain ⟨h0, h1, h2, hr⟩ := cutK_ok hr
   have h1 : p ≤ ((List.length l1 : Nat) : Int) := h1
   obtain ⟨xs, hown, hE⟩ := h.blocks b _ hf
   have hown : ownsAt w e1 s.size (hd b) (List.length l1) xs := hown
   obtain ⟨A, cap, hv, hcap⟩ : ∃ A cap, hd b = .slice A (List.length l1) cap ∧ List.length l1 ≤ cap := by
    rcases hown.2 with ⟨hv, hn⟩ | ⟨g, off, cap, cur, hv, _, hc, _⟩
    ·exact ⟨none, 0, by rw [hv, hn], by omega⟩
    ·exact ⟨_, _, hv, hc⟩
   rw [hv] at hown
   have hcut := ownsAt_cut hown (p := p.toNat) (by omega)
   have hlen : List.length (List.drop p.toNat l1) = List.length l1 - p.toNat := List.length_drop
   have hrun := run_cut (w := w) (a := a) (A := A) (len := List.length l1) (cap := cap) (lo := lo) (hi := none) (i := p) (j := (List.length l1 : Nat)) hsl en' (boundA_ok h hp) (.inl ⟨rfl, rfl⟩) h0 (by omega) (by omega) hcap
   rw [hsz, show ((List.length l1 : Nat) : Int).toNat = List.length l1 from Int.toNat_natCast _] at hrun
   refine wp_value (w' := w) (v := .slice (if cap = p.toNat then A else A.map (·.add (p.toNat * s.size))) (List.length l1 - p.toNat) (cap - p.toNat)) ?_ ?_
   ·simp only [Option.map_none] at hrun
    simp [execOp, ho, hx, hv, hrun]
   ·have hrel := h.renew (blk' := .que e1 s (List.drop p.toNat l1)) (v := .slice (if cap = p.toNat then A else A.map (·.add (p.toNat * s.size))) (List.length l1 - p.toNat) (cap - p.toNat)) (w' := w) hf rfl (by omega) rfl rfl rfl (Nat.le_refl _) (fun _ _ _ => rfl)
     (fun g hg => .inl (by
      rw [hv]
      cases A with
      | none => split at hg <;> cases hg
      | some ad =>
       split at hg
       ·exact hg
       ·simp only [Option.map_some, blockOf] at hg ⊢
        rw [addr_block] at hg
        exact hg))
     (fun g => ⟨xs.drop (p.toNat * s.size), by
      show ownsAt w e1 s.size (if b = b then _ else _) (List.length (List.drop p.toNat l1)) _
      rw [if_pos rfl, hlen]; exact hcut, (Elems.drop hE _).move g.move⟩)
    refine put_ok hrel (v := .own b) ?_ hk hr
    exact ⟨by show _ = (if b = b then _ else _); rw [if_pos rfl], ownsAt_one hcut, .que e1 s (List.drop p.toNat l1), e1, s, _, by show St.find (St.lay _ _ _) _ = _; rw [St.find_cons, if_pos rfl], rfl⟩
  ·cases hr
 ·cases hr
theorem slice_ok {t : TypeId} {x : Operand} {lo hi : Option Operand} (hnp : M.np ≤ E.pin) (ht : TbOK P E.tb) (ho : o.op = .slice t x lo hi none) (h : Rel w0 M X hd st a w) (hk : Next w0 M X k r K) (hr : opK E o st k = some r) : o.wp P a w K Q := by
 simp only [opK, ho] at hr
 have hbk : bareK E o (st.ev x) = true := by
  cases hb : bareK E o (st.ev x) with
  | true => rfl
  | false => simp only [hb] at hr; cases hr
 simp only [hbk] at hr
 split at hr
 ·rename_i e n1 n2 n3 hi'
  obtain ⟨en⟩ := ht.entry hi'
  have hsl := slice_of en rfl
  split at hr
  ·rename_i s hs
   split at hr
   ·cases hr
   ·rename_i i hie
    obtain ⟨en'⟩ := ht.entry hie
    split at hr
    ·cases hr
    ·rename_i hsz
     have hsz := Nat.eq_of_beq_eq_true hsz
     split at hr
     ·rename_i b hb
      exact queK_ok hnp hsl en' hsz ho h hk (queB_ok h hb) hr
     ·split at hr
      ·cases hr
      ·rename_i st1 hfz
       obtain ⟨h1, hfr, _, _, htm, _, _⟩ := frzN_ok h hfz
       split at hr
       ·cases hr
       ·rename_i l hl
        have hx := ev_ok h1 x
        have hx1 : R1 (st1.cx X hd w) (st1.ev x) (a.eval x) := by
         refine hx.one ?_ ?_ ?_ <;> (intros; intro e'; rw [e'] at hl; cases hl)
        have hRc := listOf_ok h1.blocks h1.clear hx1 (by rw [St.ev_same htm]; exact hfr) hl
        split at hr
        ·cases hr
        ·rename_i p hp
         split at hr
         ·cases hr
         ·rename_i q hq
          obtain ⟨h0, h01, h02, hr⟩ := cutK_ok hr
          have hRc' := hRc
          obtain ⟨A, cap, e1, _⟩ := hRc'
          have e1 : a.eval x = .slice A (List.length l) cap := by simpa using e1
          rw [e1] at hRc
          obtain ⟨_, hc, hcut⟩ := hRc.cut (i := p.toNat) (j := q.toNat) (by omega) (by omega)
          refine wp_value (w' := w) (v := .slice (if cap = p.toNat then A else A.map (·.add (p.toNat * i.size))) (q.toNat - p.toNat) (cap - p.toNat)) ?_ (put_ok h1 (v := .dat (.list s) _) ?_ hk hr)
          ·have := run_cut (w := w) (A := A) (a := a) hsl en' (boundA_ok h1 hp) (boundA_ok h1 hq) h0 h01 h02 hc
           simp [execOp, ho, e1, this]
          ·rw [hsz]; exact hcut
  ·cases hr
 ·cases hr
theorem Rt.zero {c : Cx} {v : AV} {x : Value} (h : Rt c v x) (hv : v.flat0 = true) : R0 c v x := by
 cases v with
 | clo f caps => cases hv
 | agg cs => cases hv
 | tup cs => cases hv
 | _ => exact h
theorem R1.zero {c : Cx} {v : AV} {x : Value} (h : R1 c v x) (hv : v.flat0 = true) : R0 c v x := by
 cases v with
 | clo f caps => cases hv
 | _ => exact h
theorem All2.zeros {c : Cx} : ∀ {l : List AV} {m : List Value}, All2 (R1 c) l m → l.all AV.flat0 = true → All2 (R0 c) l m
 | [], [], _, _ => trivial
 | a :: l, b :: m, h, ha => by
  rw [List.all_cons, Bool.and_eq_true] at ha
  exact ⟨h.1.zero ha.1, All2.zeros h.2 ha.2⟩
 | [], _ :: _, h, _ => h.elim
 | _ :: _, [], h, _ => h.elim
theorem makeFunc_ok {f : FuncId} {first captured : Array Operand} (ho : o.op = .makeFunc (.func f) first captured) (h : Rel w0 M X hd st a w) (hk : Next w0 M X k r K) (hr : opK E o st k = some r) : o.wp P a w K Q := by
 simp only [opK, ho] at hr
 split at hr
 ·rename_i h0
  split at hr
  ·cases hr
  ·rename_i hlow
   split at hr
   ·rename_i hall
    have hf : first = #[] := Array.eq_empty_of_size_eq_zero h0
    have ha : All2 (R0 (st.cx X hd w)) (captured.toList.map st.ev) (captured.toList.map a.eval) :=
     All2.map _ _ _ fun x hx => (ev_ok h x).zero (List.all_eq_true.1 hall _ (List.mem_map_of_mem hx))
    refine wp_value (v := .func (.func f) #[] (captured.map a.eval)) (w' := w) ?_ (put_ok h (v := .clo f (captured.toList.map st.ev)) (Rt.of1 ⟨captured.toList.map a.eval, by rw [cloV_low hlow]; congr 1; apply Array.toList_inj.1; simp, ha⟩) hk hr)
    simp [execOp, ho, hf, Instr.makeFunc]
   ·cases hr
 ·split at hr
  ·rename_i cs h1 h2
   split at hr
   ·rename_i hall
    have hc : captured = #[] := Array.eq_empty_of_size_eq_zero h2
    obtain ⟨x, hx, hxv⟩ : ∃ x, first = #[x] ∧ st.ev x = .agg cs := by
     rcases first with ⟨l⟩
     match l, h1 with
     | [], h1 => simp at h1
     | [x], h1 => exact ⟨x, rfl, by simpa using h1⟩
     | _ :: _ :: _, h1 => simp at h1
    have hev := ev_ok h x
    rw [hxv] at hev
    obtain ⟨vs, hvs, hal⟩ := hev
    have ha : All2 (R0 (st.cx X hd w)) cs vs := hal.zeros hall
    have hb : Nat.ble bfst (f + bfst) = true := Nat.ble_eq_true_of_le (Nat.le_add_left _ _)
    refine wp_value (v := .func (.func f) #[a.eval x] #[]) (w' := w) ?_ (put_ok h (v := .clo (f + bfst) cs) (Rt.of1 ⟨vs, by rw [cloV_high hb, Nat.add_sub_cancel, hvs], ha⟩) hk hr)
    simp [execOp, ho, hx, hc, Instr.makeFunc]
   ·cases hr
  ·cases hr
theorem lenOfA_ok (h : Rel w0 M X hd st a w) {v : AV} {x : Value} {n : Nat} (hx : Rt (st.cx X hd w) v x) (hn : lenOfA st v = some n) : ∃ A cap, x = .slice A n cap := by
 cases v with
 | dat t l =>
  cases t <;> try (cases hn; done)
  rename_i t
  have hn : some (List.length l) = some n := hn
  cases hn
  obtain ⟨A, cap, e, _⟩ := (show Rc w (st.cx X hd w).N (.list t) l [x] from hx)
  exact ⟨A, cap, by simpa using e⟩
 | nil =>
  have hn : some 0 = some n := hn
  cases hn
  exact ⟨none, 0, hx⟩
 | dne s =>
  have hn : some 0 = some n := hn
  cases hn
  obtain ⟨a, cap, rfl⟩ := (show ∃ a cap, x = .slice (some a) 0 cap from hx)
  exact ⟨some a, cap, rfl⟩
 | own b =>
  have hx' : x = hd b := hx.1
  have key : ∀ {e : TypeId} {size m : Nat} {xs : List Value}, w.ownsRow 0 e size (hd b) m xs → ∃ A cap, x = .slice A m cap := by
   intro e size m xs ho
   rcases ho.2 with ⟨h1, rfl⟩ | ⟨g, cap, cur, h1, _⟩
   ·exact ⟨none, 0, hx'.trans h1⟩
   ·exact ⟨_, cap, hx'.trans h1⟩
  simp only [lenOfA] at hn
  cases hf : st.find b with
  | none => rw [hf] at hn; cases hn
  | some blk =>
   rw [hf] at hn
   have hb := h.blocks b blk hf
   cases blk with
   | flat e t l => cases hn; obtain ⟨xs, ho, _⟩ := hb; exact key ho
   | frz e t l => cases hn; obtain ⟨xs, ho, _⟩ := hb; exact key ho
   | que e t l =>
    cases hn
    obtain ⟨xs, ho, _⟩ := hb
    rcases ho.2 with ⟨h1, h2⟩ | ⟨g, off, cap, cur, h1, _⟩
    ·exact ⟨none, 0, by rw [h2]; exact hx'.trans h1⟩
    ·exact ⟨_, cap, hx'.trans h1⟩
   | _ => cases hn
 | _ => cases hn
theorem maxA_ok {mx : Bool} {x y : Operand} {v : AV} (h : Rel w0 M X hd st a w) (hv : maxA mx (st.ev x) (st.ev y) = some v) : ∃ (j : IntKind) (m n : Int), a.eval x = .int j m ∧ a.eval y = .int j n ∧ v = .dat (.int j) (mmV mx m n) := by
 have hx := ev_ok h x
 have hy := ev_ok h y
 generalize st.ev x = u at hv hx
 generalize st.ev y = u' at hv hy
 unfold maxA at hv
 split at hv
 ·rename_i j m j' n
  have hx : [a.eval x] = [Value.int j m] := hx
  have hy : [a.eval y] = [Value.int j' n] := hy
  split at hv
  ·rename_i hj
   have hj : j = j' := of_decide_eq_true hj
   subst hj
   cases hv
   exact ⟨j, m, n, by simpa using hx, by simpa using hy, rfl⟩
  ·cases hv
 ·cases hv
theorem max_ok {c : Call} (ho : o.op = .call c) (hc : c.callee = .builtin .max) (h : Rel w0 M X hd st a w) (hk : Next w0 M X k r K) (hr : opK E o st k = some r) : o.wp P a w K Q := by
 simp only [opK, ho, hc] at hr
 split at hr
 ·rename_i x y hargs
  split at hr
  ·rename_i v hv
   obtain ⟨j, m, n, hx, hy, rfl⟩ := maxA_ok h hv
   have ha : c.args = #[x, y] := by rw [← Array.toList_inj, hargs]
   refine wp_value (v := .int j (maxV m n)) (w' := w) ?_ (put_ok h (v := .dat (.int j) (maxV m n)) (Rt.of1 (rfl : [Value.int j _] = [Value.int j _])) hk hr)
   simp [execOp, ho, resolve, hc, ha, hx, hy, invoke, builtin, maxV, Builtin.max_, Builtin.max2]
  ·cases hr
 ·cases hr
theorem min_ok {c : Call} (ho : o.op = .call c) (hc : c.callee = .builtin .min) (h : Rel w0 M X hd st a w) (hk : Next w0 M X k r K) (hr : opK E o st k = some r) : o.wp P a w K Q := by
 simp only [opK, ho, hc] at hr
 split at hr
 ·rename_i x y hargs
  split at hr
  ·rename_i v hv
   obtain ⟨j, m, n, hx, hy, rfl⟩ := maxA_ok h hv
   have ha : c.args = #[x, y] := by rw [← Array.toList_inj, hargs]
   refine wp_value (v := .int j (minV m n)) (w' := w) ?_ (put_ok h (v := .dat (.int j) (minV m n)) (Rt.of1 (rfl : [Value.int j _] = [Value.int j _])) hk hr)
   simp [execOp, ho, resolve, hc, ha, hx, hy, invoke, builtin, minV, Builtin.min_, Builtin.min2]
  ·cases hr
 ·cases hr
end
end Go.V
end
section
namespace Go.V
open Go Go.RowKit
set_option linter.unusedVariables false
set_option linter.unusedSimpArgs false
section
variable {P : Program} {E : En} {R : Type} {w0 : World} {M : Mo} {X : Nat → Prop} {hd : Nat → Value} {st : St} {a : Act} {w w' : World}
variable {k : St → Option R} {r : R} {K : Act → World → Prop} {Q : Exit → Act → World → Prop} {o : Oper}
theorem listCells {N : Nat → Prop} {t : Ty} {ad : Addr} : ∀ (l : List t.den) (p : Nat), (∀ i (h : i < l.length), ∃ c, c.length = t.size ∧ At w N (ad.add ((p + i) * t.size)) c ∧ Rc w N t l[i] c) →
  ∃ news, news.length = l.length * t.size ∧ (∀ j u, news[j]? = some u → w.cell? (ad.add (p * t.size + j)) = some u) ∧ Elems w N t l news
 | [], p, _ => ⟨[], by simp, by simp, rfl⟩
 | x :: l, p, h => by
  obtain ⟨c, hc, hat, hr⟩ := h 0 (by simp)
  obtain ⟨news, hn, hcell, hE⟩ := listCells l (p + 1) (fun i hi => by
   obtain ⟨c, q1, q2, q3⟩ := h (i + 1) (by simpa using hi)
   exact ⟨c, q1, by rw [show p + 1 + i = p + (i + 1) by omega]; exact q2, by simpa using q3⟩)
  refine ⟨c ++ news, by simp [hc, hn, Nat.add_mul]; omega, ?_, c, news, rfl, by simpa using hr, hE⟩
  intro j u hu
  rw [List.getElem?_append] at hu
  split at hu
  ·rename_i hj
   obtain ⟨_, rfl⟩ := List.getElem?_eq_some_iff.1 hu
   have := (hat j hj).2
   rw [add_add] at this
   simpa using this
  ·rename_i hj
   have := hcell _ _ hu
   rw [show p * t.size + j = (p + 1) * t.size + (j - c.length) by rw [Nat.add_mul, hc]; omega]
   exact this
theorem listOf_cells (h : Rel w0 M X hd st a w) {t : Ty} {v : AV} {x : Value} {m : List t.den} (hx : Rt (st.cx X hd w) v x) (hm : listOf st t v = some m) :
  (x = .slice none 0 0 ∧ m = []) ∨ ∃ ad cap news, x = .slice (some ad) (List.length m) cap ∧ news.length = List.length m * t.size ∧ (∀ j u, news[j]? = some u → w.cell? (ad.add j) = some u) ∧ Elems w (st.cx X hd w).N t m news := by
 cases v with
 | dat s y =>
  obtain ⟨rfl, rfl⟩ := cast?_some (show cast? s (.list t) y = some m from hm)
  obtain ⟨A, cap, e, hc, hn, hel⟩ := (show Rc w (st.cx X hd w).N (.list t) y [x] from hx)
  have e : x = .slice A (List.length y) cap := by simpa using e
  cases A with
  | none =>
   left
   have := hn rfl
   have hl : List.length y = 0 := by omega
   exact ⟨by rw [e, hl, this], List.eq_nil_of_length_eq_zero hl⟩
  | some ad =>
   right
   obtain ⟨news, q1, q2, q3⟩ := listCells (w := w) (N := (st.cx X hd w).N) (ad := ad) y 0 (fun i hi => by
    obtain ⟨ad', e', c, p1, p2, p3⟩ := hel i hi
    cases e'
    exact ⟨c, p1, by simpa using p2, p3⟩)
   exact ⟨ad, cap, news, e, q1, fun j u hu => by have := q2 j u hu; simpa using this, q3⟩
 | nil =>
  have hm : some [] = some m := hm
  cases hm
  exact .inl ⟨hx, rfl⟩
 | dne s =>
  have hm : some [] = some m := hm
  cases hm
  obtain ⟨ad, cap, rfl⟩ := (show ∃ ad cap, x = .slice (some ad) 0 cap from hx)
  exact .inr ⟨ad, cap, [], rfl, by simp, fun j u hu => by simp at hu, rfl⟩
 | own b =>
  have hv : x = hd b := hx.1
  obtain ⟨e, xs, ho, hE⟩ := rowD_ok h.blocks (show rowD t (st.find b) = some m from hm)
  rcases ho.2 with ⟨h1, h2⟩ | ⟨g, cap, cur, h1, _⟩
  ·exact .inl ⟨hv.trans h1, List.eq_nil_of_length_eq_zero h2⟩
  ·exact .inr ⟨⟨g, 0, none⟩, cap, xs, hv.trans h1, ho.1, fun j u hu => ho.cells (g := g) (by rw [h1]; rfl) j u hu, hE⟩
 | _ => cases hm
theorem run_append_mine (t ty e : TypeId) (i : TypeInfo) (z : Value) (size bytes : Nat) (ht : P.underlying t = some (.slice e)) (hi : P.info? e = some i) (hz : i.zero = some z)
  (hsize : i.size = size) (hby : i.bytes = bytes) (hzs : z.cells.size = size) (hsz : 0 < size)
  (v : Value) (n : Nat) (xs : List Value) (hown : w.ownsRow 0 e size v n xs)
  (ad : Addr) (m c : Nat) (news : List Value) (hl : news.length = m * size) (hnews : ∀ j u, news[j]? = some u → w.cell? (ad.add j) = some u) (h1 : ∀ u ∈ news, u.oneCell' = true)
  (h63 : n + m ≤ maxLen) (hbytes : (n + m) * bytes ≤ 140737488355328) :
  ∃ v' w', (Builtin.append_ #[t, t] ty #[v, .slice (some ad) m c]).run P w = .ok v' w' ∧ w'.ownsRow 0 e size v' (n + m) (xs ++ news) ∧ w.grownBy w' (blockOf v) ∧
   ∀ r, blockOf v' = some r → blockOf v = some r ∨ w.heap.size ≤ r := by
 have hbl : blockOf v = v.ownBlock := by
  rcases hown.2 with ⟨rfl, _⟩ | ⟨_, _, _, rfl, _⟩ <;> rfl
 subst hsize
 subst hby
 have hsmall : n + m ≤ 9223372036854775807 := by simp only [maxLen] at h63; omega
 have hlen : (xs ++ news).length = (n + m) * i.size := by rw [List.length_append, hown.1, hl, Nat.add_mul]
 have grown : ∀ (old : Nat), old < n + m → ∀ (row : Option Nat),
   (w.drew.alloc (.cells (xs.toArray ++ news.toArray ++ Builtin.zeroCells z.cells (grownCap w (n + m) old e - (n + m))) e)).ownsRow 0 e i.size
    (.slice (some ⟨w.heap.size, 0, none⟩) (n + m) (grownCap w (n + m) old e)) (n + m) (xs ++ news) ∧
   w.grownBy (w.drew.alloc (.cells (xs.toArray ++ news.toArray ++ Builtin.zeroCells z.cells (grownCap w (n + m) old e - (n + m))) e)) row := by
  intro old ho row
  have hge := grownCap_ge w (n + m) old e
  have hcm : grownCap w (n + m) old e ≤ maxLen := grownCap_le_maxLen w (n + m) old e h63
  refine ⟨⟨hlen, .inr ⟨w.heap.size, _, _, rfl, Nat.zero_le _, heap_alloc_new w.drew _, hge, hcm, ?_, ?_⟩⟩, ⟨rfl, rfl, rfl, by simp, fun k hk _ => heap_alloc_old w.drew _ k hk⟩⟩
  ·simp only [Array.size_append, List.size_toArray, size_zeroCells, hzs, hown.1, hl, ← Nat.add_mul]
   congr 1
   omega
  ·simp only [Array.toList_append, List.append_assoc]
   rw [← List.append_assoc, ← hlen]
   exact List.take_left
 rcases hown.2 with ⟨rfl, rfl⟩ | ⟨g, cap, cur, rfl, hbg, hg, hnc, hcm, hcs, htake⟩
 ·have hx : xs = [] := List.eq_nil_of_length_eq_zero (by simpa using hown.1)
  subst hx
  by_cases hm : m = 0
  ·subst hm
   have hn : news = [] := List.eq_nil_of_length_eq_zero (by simpa using hl)
   subst hn
   refine ⟨.slice none 0 0, w, ?_, World.ownsRow_nil w 0 e i.size, ⟨rfl, rfl, rfl, Nat.le_refl _, fun _ _ _ => rfl⟩, fun r hr => by cases hr⟩
   simp [Builtin.append_, run_underlying ht, sizeOf, typeInfo, hi, Builtin.lenOf, Builtin.firstCells, loadCells, loadCellsFrom]
  ·have hr := run_append_nil (P := P) w t ty e i z ht hi hz ad m c news hl hnews (by omega) (by omega) (by have hb := hbytes; simp only [Nat.zero_add] at hb; omega)
   have hgr := grown 0 (by omega) (blockOf (.slice none 0 0))
   simp only [Nat.zero_add, List.nil_append, Array.empty_append] at hgr ⊢
   exact ⟨_, _, hr, hgr.1, hgr.2, fun r hr => by simp [blockOf] at hr; exact .inr (by omega)⟩
 ·by_cases hroom : n + m ≤ cap
  ·have hfit : n * i.size + news.length ≤ cur.size := by rw [hl, hcs, ← Nat.add_mul]; exact Nat.mul_le_mul_right _ hroom
   have hr := run_append_room (P := P) w t ty e i ht hi g n cap cur hg ad m c news hl hnews h1 hroom hfit
   refine ⟨_, _, hr, ⟨hlen, .inr ⟨g, cap, _, rfl, hbg, setRow_heap w g cur _ e _ hg, hroom, hcm, ?_, ?_⟩⟩, ⟨rfl, rfl, rfl, by simp, fun k _ hk => setRow_other w g k _ (fun e => hk (by simp [blockOf, e]))⟩, fun r hr => .inl hr⟩
   ·simp only [List.size_toArray, List.length_append, List.length_take, List.length_drop, Array.length_toList]
    omega
   ·rw [htake, ← hlen]
    exact List.take_left
  ·have holds : ∀ j u, xs[j]? = some u → w.cell? ((⟨g, 0, none⟩ : Addr).add j) = some u := hown.cells (g := g) rfl
   have hr := run_append_grow (P := P) w t ty e i z ht hi hz ⟨g, 0, none⟩ n cap xs hown.1 holds ad m c news hl hnews (by omega) (by omega) (growslice_fits (by omega) hbytes)
   have hgr := grown cap (by omega) (blockOf (.slice (some ⟨g, 0, none⟩) n cap))
   exact ⟨_, _, hr, hgr.1, hgr.2, fun r hr => by simp [blockOf] at hr; exact .inr (by omega)⟩
theorem roomK_ok {n : Nat} {x : Option R} (h : roomK n x = some r) : n ≤ 1099511627776 ∧ x = some r := by
 unfold roomK at h
 split at h
 ·exact ⟨by assumption, h⟩
 ·cases h
theorem run_append_any {t ty e : TypeId} {te : TI} (hs : P.underlying t = some (.slice e)) (en : Entry P e te) {et : Ty} (hsz : te.size = et.size) (hpos : 0 < te.size) (hby : te.bytes ≤ 64)
  (h : Rel w0 M X hd st a w) {v x : Value} {av : AV} {n : Nat} {xs : List Value} {m : List et.den} (hown : w.ownsRow 0 e et.size v n xs) (hx : Rt (st.cx X hd w) av x) (hm : listOf st et av = some m) (hb : n + List.length m ≤ 1099511627776) (hz : te.zero.length = te.size) :
  ∃ v' w' news, (Builtin.append_ #[t, t] ty #[v, x]).run P w = .ok v' w' ∧ w'.ownsRow 0 e et.size v' (n + List.length m) (xs ++ news) ∧ Elems w (st.cx X hd w).N et m news ∧ w.grownBy w' (blockOf v) ∧
   ∀ r, blockOf v' = some r → blockOf v = some r ∨ w.heap.size ≤ r := by
 rcases listOf_cells h hx hm with ⟨rfl, rfl⟩ | ⟨ad, cap, news, rfl, hl, hcell, hE⟩
 ·refine ⟨v, w, [], run_append_owned_none w 0 t ty e en.inf et.size hs en.hi v n xs hown, by simpa using hown, rfl, ⟨rfl, rfl, rfl, Nat.le_refl _, fun _ _ _ => rfl⟩, fun r hr => .inl hr⟩
 ·have hzs : en.z.cells.size = et.size := by rw [← Array.length_toList, ← en.hzero, hz, hsz]
  have hbb : (n + List.length m) * en.inf.bytes ≤ 140737488355328 := by
   have : en.inf.bytes ≤ 64 := by rw [← en.hbytes]; exact hby
   have : (n + List.length m) * en.inf.bytes ≤ 1099511627776 * 64 := Nat.mul_le_mul hb this
   omega
  obtain ⟨v', w', q1, q2, q3, q4⟩ := run_append_mine (P := P) t ty e en.inf en.z et.size en.inf.bytes hs en.hi en.hz (en.hsize.symm.trans hsz) rfl hzs (hsz ▸ hpos) v n xs hown ad (List.length m) cap news hl hcell (fun u hu => hE.oneCell u hu) (by unfold maxLen; omega) hbb
  exact ⟨v', w', news, q1, q2, hE, q3, q4⟩
theorem run_append_roomAt (t ty e : TypeId) (i : TypeInfo) (ht : P.underlying t = some (.slice e)) (hi : P.info? e = some i)
  (g off sLen sCap : Nat) (cur : Array Value) (hg : w.heap[g]? = some (.cells cur e (0, 0)))
  (ad : Addr) (m c : Nat) (news : List Value) (hl : news.length = m * i.size) (hnews : ∀ j u, news[j]? = some u → w.cell? (ad.add j) = some u) (h1 : ∀ u ∈ news, u.oneCell' = true)
  (hroom : sLen + m ≤ sCap) (hfit : off + sLen * i.size + news.length ≤ cur.size) :
  (Builtin.append_ #[t, t] ty #[.slice (some ⟨g, off, none⟩) sLen sCap, .slice (some ad) m c]).run P w =
   .ok (.slice (some ⟨g, off, none⟩) (sLen + m) sCap) (w.setRow g (cur.toList.take (off + sLen * i.size) ++ news ++ cur.toList.drop (off + sLen * i.size + news.length)).toArray) := by
 have hf := run_firstCells_some (P := P) w i.size m ad m c news hl hnews
 have hst := run_storeCells_at P g (off + sLen * i.size) e news 0 cur w hg (by simpa using hfit) h1
 simp only [Nat.add_zero] at hst
 simp [Builtin.append_, run_underlying ht, sizeOf, typeInfo, hi, Builtin.lenOf, hroom, hf, Addr.add_lit, hst]
theorem run_append_noneAt (t ty e : TypeId) (i : TypeInfo) (size : Nat) (ht : P.underlying t = some (.slice e)) (hi : P.info? e = some i)
  (v : Value) (n : Nat) (xs : List Value) (hown : ownsAt w e size v n xs) :
  (Builtin.append_ #[t, t] ty #[v, .slice none 0 0]).run P w = .ok v w := by
 rcases hown.2 with ⟨rfl, rfl⟩ | ⟨g, off, cap, cur, rfl, _, hnc, _⟩
 ·simp [Builtin.append_, run_underlying ht, sizeOf, typeInfo, hi, Builtin.lenOf, Builtin.firstCells]
 ·simp [Builtin.append_, run_underlying ht, sizeOf, typeInfo, hi, Builtin.lenOf, Builtin.firstCells, hnc, storeCells]
theorem run_append_mineAt (t ty e : TypeId) (i : TypeInfo) (z : Value) (size bytes : Nat) (ht : P.underlying t = some (.slice e)) (hi : P.info? e = some i) (hz : i.zero = some z)
  (hsize : i.size = size) (hby : i.bytes = bytes) (hzs : z.cells.size = size) (hsz : 0 < size)
  (v : Value) (n : Nat) (xs : List Value) (hown : ownsAt w e size v n xs)
  (ad : Addr) (m c : Nat) (news : List Value) (hl : news.length = m * size) (hnews : ∀ j u, news[j]? = some u → w.cell? (ad.add j) = some u) (h1 : ∀ u ∈ news, u.oneCell' = true)
  (h63 : n + m ≤ maxLen) (hbytes : (n + m) * bytes ≤ 140737488355328) :
  ∃ v' w', (Builtin.append_ #[t, t] ty #[v, .slice (some ad) m c]).run P w = .ok v' w' ∧ ownsAt w' e size v' (n + m) (xs ++ news) ∧ w.grownBy w' (blockOf v) ∧
   ∀ r, blockOf v' = some r → blockOf v = some r ∨ w.heap.size ≤ r := by
 rcases hown.2 with ⟨rfl, rfl⟩ | ⟨g, off, cap, cur, rfl, hg, hnc, hcm, hcs, htake⟩
 ·have hx : xs = [] := List.eq_nil_of_length_eq_zero (by simpa using hown.1)
  subst hx
  obtain ⟨v', w', q1, q2, q3, q4⟩ := run_append_mine (P := P) t ty e i z size bytes ht hi hz hsize hby hzs hsz (.slice none 0 0) 0 [] (World.ownsRow_nil w 0 e size) ad m c news hl hnews h1 h63 hbytes
  exact ⟨v', w', q1, ownsAt_of q2, q3, q4⟩
 ·subst hsize
  subst hby
  have hsmall : n + m ≤ 9223372036854775807 := by simp only [maxLen] at h63; omega
  have hlen : (xs ++ news).length = (n + m) * i.size := by rw [List.length_append, hown.1, hl, Nat.add_mul]
  by_cases hroom : n + m ≤ cap
  ·have h5 : (n + m) * i.size ≤ cap * i.size := Nat.mul_le_mul_right _ hroom
   have hfit : off + n * i.size + news.length ≤ cur.size := by
    rw [Nat.add_mul] at h5; omega
   have hr := run_append_roomAt (P := P) (w := w) t ty e i ht hi g off n cap cur hg ad m c news hl hnews h1 hroom hfit
   have hcl : cur.toList.length = cur.size := Array.length_toList
   refine ⟨_, _, hr, ⟨hlen, .inr ⟨g, off, cap, _, rfl, setRow_heap w g cur _ e _ hg, hroom, hcm, ?_, ?_⟩⟩, ⟨rfl, rfl, rfl, by simp, fun k _ hk => setRow_other w g k _ (fun e => hk (by simp [blockOf, e]))⟩, fun r hr => .inl hr⟩
   ·simp only [List.size_toArray, List.length_append, List.length_take, List.length_drop, Array.length_toList]
    omega
   ·have e1 : cur.toList.take (off + n * i.size) = cur.toList.take off ++ xs := by
     rw [← htake, List.take_add]
    have e2 : (cur.toList.take off).length = off := by rw [List.length_take, hcl]; omega
    rw [e1]
    simp only [List.append_assoc]
    rw [List.drop_append_of_le_length (by omega), List.drop_eq_nil_of_le (by omega), List.nil_append, ← List.append_assoc, ← hlen]
    exact List.take_left
  ·have holds : ∀ j u, xs[j]? = some u → w.cell? ((⟨g, off, none⟩ : Addr).add j) = some u := by
    intro j u hu
    rw [← htake, List.getElem?_take] at hu
    split at hu
    ·rw [List.getElem?_drop] at hu
     rw [Addr.add_lit, cell_of_row w g (off + j) cur e (0, 0) hg]
     simpa using hu
    ·cases hu
   have hr := run_append_grow (P := P) w t ty e i z ht hi hz ⟨g, off, none⟩ n cap xs hown.1 holds ad m c news hl hnews (by omega) (by omega) (growslice_fits (by omega) hbytes)
   have hge := grownCap_ge w (n + m) cap e
   have hcm' : grownCap w (n + m) cap e ≤ maxLen := grownCap_le_maxLen w (n + m) cap e h63
   refine ⟨_, _, hr, ⟨hlen, .inr ⟨w.heap.size, 0, _, _, rfl, heap_alloc_new w.drew _, hge, hcm', ?_, ?_⟩⟩, ⟨rfl, rfl, rfl, by simp, fun k hk _ => heap_alloc_old w.drew _ k hk⟩, fun r hr => by simp [blockOf] at hr; exact .inr (by omega)⟩
   ·simp only [Array.size_append, List.size_toArray, size_zeroCells, hzs, hown.1, hl, ← Nat.add_mul]
    rw [Nat.zero_add]
    exact Nat.mul_le_mul_right _ (by omega)
   ·simp only [Array.toList_append, List.append_assoc, List.drop_zero]
    rw [← List.append_assoc, ← hlen]
    exact List.take_left
theorem run_append_anyAt {t ty e : TypeId} {te : TI} (hs : P.underlying t = some (.slice e)) (en : Entry P e te) {et : Ty} (hsz : te.size = et.size) (hpos : 0 < te.size) (hby : te.bytes ≤ 64)
  (h : Rel w0 M X hd st a w) {v x : Value} {av : AV} {n : Nat} {xs : List Value} {m : List et.den} (hown : ownsAt w e et.size v n xs) (hx : Rt (st.cx X hd w) av x) (hm : listOf st et av = some m) (hb : n + List.length m ≤ 1099511627776) (hz : te.zero.length = te.size) :
  ∃ v' w' news, (Builtin.append_ #[t, t] ty #[v, x]).run P w = .ok v' w' ∧ ownsAt w' e et.size v' (n + List.length m) (xs ++ news) ∧ Elems w (st.cx X hd w).N et m news ∧ w.grownBy w' (blockOf v) ∧
   ∀ r, blockOf v' = some r → blockOf v = some r ∨ w.heap.size ≤ r := by
 rcases listOf_cells h hx hm with ⟨rfl, rfl⟩ | ⟨ad, cap, news, rfl, hl, hcell, hE⟩
 ·refine ⟨v, w, [], run_append_noneAt t ty e en.inf et.size hs en.hi v n xs hown, by simpa using hown, rfl, ⟨rfl, rfl, rfl, Nat.le_refl _, fun _ _ _ => rfl⟩, fun r hr => .inl hr⟩
 ·have hzs : en.z.cells.size = et.size := by rw [← Array.length_toList, ← en.hzero, hz, hsz]
  have hbb : (n + List.length m) * en.inf.bytes ≤ 140737488355328 := by
   have : en.inf.bytes ≤ 64 := by rw [← en.hbytes]; exact hby
   have : (n + List.length m) * en.inf.bytes ≤ 1099511627776 * 64 := Nat.mul_le_mul hb this
   omega
  obtain ⟨v', w', q1, q2, q3, q4⟩ := run_append_mineAt (P := P) t ty e en.inf en.z et.size en.inf.bytes hs en.hi en.hz (en.hsize.symm.trans hsz) rfl hzs (hsz ▸ hpos) v n xs hown ad (List.length m) cap news hl hcell (fun u hu => hE.oneCell u hu) (by unfold maxLen; omega) hbb
  exact ⟨v', w', news, q1, q2, hE, q3, q4⟩
theorem append_ok {c : Call} {t e' : TypeId} {s x : Operand} (hnp : M.np ≤ E.pin) (ht : TbOK P E.tb) (ho : o.op = .call c) (hc : c.callee = .builtin .append) (hargs : c.args.toList = [s, x]) (hts : c.argTypes.toList = [t, t])
  (h : Rel w0 M X hd st a w) (hk : Next w0 M X k r K) (hr : appendK E o.dst t st (st.ev s) (st.ev x) k = some r) : o.wp P a w K Q := by
 have ha : c.args = #[s, x] := by rw [← Array.toList_inj, hargs]
 have hts : c.argTypes = #[t, t] := by rw [← Array.toList_inj, hts]
 have hs := ev_ok h s
 have hx := ev_ok h x
 have fin : ∀ {v' : Value} {w' : World}, (Builtin.append_ #[t, t] o.type #[a.eval s, a.eval x]).run P w = .ok v' w' → K (a.put o.dst v') w' → o.wp P a w K Q := by
  intro v' w' hrun hK
  refine wp_value (v := v') (w' := w') ?_ hK
  simp [execOp, ho, resolve, hc, ha, hts, invoke, builtin, hrun]
 unfold appendK at hr
 split at hr
 ·rename_i e _ _ _ hi
  obtain ⟨en⟩ := ht.entry hi
  have hsl := slice_of en rfl
  split at hr
  ·cases hr
  ·rename_i te hte
   obtain ⟨en'⟩ := ht.entry hte
   split at hr
   ·cases hr
   ·rename_i et het
    split at hr
    ·rename_i q1 q2 q3 q4
     have q1 := Nat.eq_of_beq_eq_true q1
     have q2 : 0 < te.size := by simpa [Nat.blt_eq] using q2
     have q3 := Nat.le_of_ble_eq_true q3
     have q4 := Nat.eq_of_beq_eq_true q4
     split at hr
     ·cases hr
     ·rename_i m hm
      split at hr
      ·rename_i b hv
       rw [hv] at hs
       have hsv : a.eval s = hd b := hs.1
       split at hr
       ·rename_i e1 t1 l1 hf
        split at hr
        ·rename_i l he hl
         rw [Bool.and_eq_true] at he
         have hpb := Nat.le_of_ble_eq_true he.1
         have he := Nat.eq_of_beq_eq_true he.2
         subst he
         obtain ⟨e2, e3⟩ := cast?_some hl
         cases e2
         cases e3
         obtain ⟨hroom, hr⟩ := roomK_ok hr
         obtain ⟨xs, hown, hE⟩ := h.blocks b _ hf
         have hown : w.ownsRow 0 e1 et.size (hd b) (List.length l1) xs := hown
         obtain ⟨v', w', news, p1, p2, p3, p4, p5⟩ := run_append_any (P := P) hsl en' q1 q2 q3 h hown hx hm hroom q4
         refine fin (by rw [hsv]; exact p1) ?_
         have hrel := h.renew (blk' := .flat e1 et (List.append l1 m)) (v := v') hf rfl (by omega) p4.os p4.tape p4.output p4.size (fun k hk hne => p4.block k hk (fun e => hne e.symm)) p5 (fun g => ⟨xs ++ news, by
          show w'.ownsRow 0 e1 et.size (if b = b then v' else _) (List.length (List.append l1 m)) _
          rw [if_pos rfl, show List.length (List.append l1 m) = List.length l1 + List.length m from List.length_append]; exact p2, Elems.append (hE.move g.move) (p3.move g.move)⟩)
         refine put_ok hrel (v := .own b) ?_ hk hr
         exact ⟨by show v' = (if b = b then v' else _); rw [if_pos rfl], owns_one p2, .flat e1 et (List.append l1 m), e1, et, _, by show St.find (St.lay _ _ _) _ = _; rw [St.find_cons, if_pos rfl], rfl⟩
        ·cases hr
       ·rename_i e1 t1 l1 hf
        split at hr
        ·rename_i l he hl
         rw [Bool.and_eq_true] at he
         have hpb := Nat.le_of_ble_eq_true he.1
         have he := Nat.eq_of_beq_eq_true he.2
         subst he
         obtain ⟨e2, e3⟩ := cast?_some hl
         cases e2
         cases e3
         obtain ⟨hroom, hr⟩ := roomK_ok hr
         obtain ⟨xs, hown, hE⟩ := h.blocks b _ hf
         have hown : ownsAt w e1 et.size (hd b) (List.length l1) xs := hown
         obtain ⟨v', w', news, p1, p2, p3, p4, p5⟩ := run_append_anyAt (P := P) hsl en' q1 q2 q3 h hown hx hm hroom q4
         refine fin (by rw [hsv]; exact p1) ?_
         have hrel := h.renew (blk' := .que e1 et (List.append l1 m)) (v := v') hf rfl (by omega) p4.os p4.tape p4.output p4.size (fun k hk hne => p4.block k hk (fun e => hne e.symm)) p5 (fun g => ⟨xs ++ news, by
          show ownsAt w' e1 et.size (if b = b then v' else _) (List.length (List.append l1 m)) _
          rw [if_pos rfl, show List.length (List.append l1 m) = List.length l1 + List.length m from List.length_append]; exact p2, Elems.append (hE.move g.move) (p3.move g.move)⟩)
         refine put_ok hrel (v := .own b) ?_ hk hr
         exact ⟨by show v' = (if b = b then v' else _); rw [if_pos rfl], ownsAt_one p2, .que e1 et (List.append l1 m), e1, et, _, by show St.find (St.lay _ _ _) _ = _; rw [St.find_cons, if_pos rfl], rfl⟩
        ·cases hr
       ·cases hr
      ·rename_i hv
       rw [hv] at hs
       have hsv : a.eval s = .slice none 0 0 := hs
       obtain ⟨hroom, hr⟩ := roomK_ok hr
       have hown : w.ownsRow 0 e et.size (.slice none 0 0) 0 [] := World.ownsRow_nil w 0 e et.size
       obtain ⟨v', w', news, p1, p2, p3, p4, p5⟩ := run_append_any (P := P) hsl en' q1 q2 q3 h hown hx hm (by omega) q4
       refine fin (by rw [hsv]; exact p1) ?_
       refine rowK_ok h p4.os p4.tape p4.output p4.size (fun k hk => p4.block k hk (by simp [blockOf])) (fun r hr => (p5 r hr).resolve_left (by simp [blockOf])) (by simpa using p2) p3 hk hr
      ·cases hr
    ·cases hr
 ·cases hr
theorem elemsD_ok {N' Qn : Nat → Prop} (hb : ∀ b blk, st.find b = some blk → RB (st.cx X hd w) b blk) (hc : Clear st X hd w N' Qn) {t : Ty} {te : TI} (hsz : te.size = t.size) (hpos : 0 < te.size) :
  ∀ {parts : List (Nat × AV)} {vparts : List (Nat × Value)} {n : Nat} {l : List t.den} {done rest : List Value}, All2 (fun p q => p.1 = q.1 ∧ Rt (st.cx X hd w) p.2 q.2) parts vparts → (∀ p ∈ parts, ∀ b ∈ namesA p.2, Qn b) →
   done.length = n * te.size → rest.length = parts.length * te.size → elemsD st t n parts = some l →
   ∃ vs, Instr.fill (fun i => some (i * te.size, te.size)) (done ++ rest).toArray vparts = some (List.toArray (done ++ vs)) ∧ Elems w N' t l vs
 | [], [], n, l, done, rest, _, _, hd', hr', h => by
  cases h
  have : rest = [] := List.eq_nil_of_length_eq_zero (by simpa using hr')
  subst this
  exact ⟨[], rfl, rfl⟩
 | (j, v) :: parts, (j', x) :: vparts, n, l, done, rest, hpt, hn, hd', hr', h => by
  obtain ⟨⟨rfl, hv⟩, hpt⟩ := hpt
  unfold elemsD at h
  split at h
  ·rename_i hj
   have hj : j = n := Nat.eq_of_beq_eq_true hj
   subst hj
   split at h
   ·rename_i cs hcs
    split at h
    ·rename_i y hy
     split at h
     ·rename_i ys hys
      cases h
      obtain ⟨us, hx, ha⟩ := cellsOf_ok hv hcs
      have hnames : ∀ b ∈ namesA.namesL cs, Qn b := by
       intro b hb'
       refine hn (j, v) (by simp) b ?_
       show b ∈ namesA v
       cases v with
       | agg l => cases hcs; exact hb'
       | tup l => cases hcs
       | undef => cases hcs
       | gone => cases hcs
       | _ => cases hcs; rw [namesL_one] at hb'; exact hb'
      have hRc := cellsData_ok hb hc t cs us y ha hnames hy
      have hul := hRc.length
      simp only [List.length_cons, Nat.add_mul, Nat.one_mul] at hr'
      have hdone : (done ++ us).length = (j + 1) * te.size := by rw [List.length_append, hd', hul, hsz, Nat.add_mul]; omega
      obtain ⟨vs, hf, hE⟩ := elemsD_ok hb hc hsz hpos hpt (fun p hp => hn p (by simp [hp])) hdone (rest := rest.drop us.length) (by simp; omega) hys
      refine ⟨us ++ vs, ?_, us, vs, rfl, hRc, hE⟩
      have hsz' : x.cells.size = te.size := by rw [hx]; simp; omega
      unfold Instr.fill
      simp only
      rw [if_neg (by simp [hsz']; omega), foldl_set x.cells (j * te.size) _ (by rw [hsz']; simp; omega)]
      rw [show x.cells = _ from hx]
      have e1 : List.take (j * te.size) (done ++ rest) = done := by rw [← hd', List.take_left]
      have e2 : List.drop (j * te.size + us.length) (done ++ rest) = rest.drop us.length := by rw [← hd', ← List.drop_drop, List.drop_left]
      simp only [List.size_toArray, e1, e2]
      rw [hf, List.append_assoc]
     ·cases h
    ·cases h
   ·cases h
  ·cases h
 | [], _ :: _, _, _, _, _, h, _, _, _, _ => h.elim
 | _ :: _, [], _, _, _, _, h, _, _, _, _ => h.elim
theorem elemsD_length {t : Ty} : ∀ {parts : List (Nat × AV)} {n : Nat} {l : List t.den}, elemsD st t n parts = some l → l.length = parts.length
 | [], _, _, h => by cases h; rfl
 | (j, v) :: parts, n, l, h => by
  unfold elemsD at h
  split at h
  ·split at h
   ·split at h
    ·split at h
     ·rename_i hys
      cases h
      simp [elemsD_length hys]
     ·cases h
    ·cases h
   ·cases h
  ·cases h
theorem buildSlice_ok {t : TypeId} {len : Nat} {parts : Array (Nat × Operand)} (ht : TbOK P E.tb) (ho : o.op = .buildSlice t len parts) (h : Rel w0 M X hd st a w) (hk : Next w0 M X k r K) (hr : opK E o st k = some r) : o.wp P a w K Q := by
 simp only [opK, ho] at hr
 split at hr
 ·rename_i e _ _ _ hi
  obtain ⟨en⟩ := ht.entry hi
  have hsl := slice_of en rfl
  split at hr
  ·rename_i te hte
   obtain ⟨en'⟩ := ht.entry hte
   split at hr
   ·rename_i s hs
    split at hr
    ·rename_i q1 q2 q3 q4
     have q1 := Nat.eq_of_beq_eq_true q1
     have q2 : parts.size = len := Nat.eq_of_beq_eq_true q2
     have q3 := Nat.le_of_ble_eq_true q3
     have q4 : 0 < te.size := by simpa [Nat.blt_eq] using q4
     split at hr
     ·rename_i st1 hfz
      obtain ⟨h1, hfr, _, _, htm, _, _⟩ := frzN_ok h hfz
      split at hr
      ·rename_i l hl
       have hev : ∀ x, st1.ev x = st.ev x := St.ev_same htm
       have hparts : All2 (fun (p : Nat × AV) (q : Nat × Value) => p.1 = q.1 ∧ Rt (st1.cx X hd w) p.2 q.2) (parts.toList.map fun p => (p.1, st1.ev p.2)) (parts.toList.map fun p => (p.1, a.eval p.2)) :=
        All2.map _ _ _ fun p _ => ⟨rfl, ev_ok h1 p.2⟩
       have hnames : ∀ p ∈ (parts.toList.map fun p => (p.1, st1.ev p.2)), ∀ b ∈ namesA p.2, Frozen st1 b := by
        intro p hp b hb
        obtain ⟨q, hq, rfl⟩ := List.mem_map.1 hp
        refine hfr b (mem_namesL.2 ⟨st.ev q.2, List.mem_map.2 ⟨q, hq, rfl⟩, ?_⟩)
        rw [← hev]; exact hb
       have hlen := elemsD_length hl
       simp only [List.length_map, Array.length_toList, q2] at hlen
       have hmade : (madeCells en'.z.cells (len * te.size)).toList.length = (parts.toList.map fun p => (p.1, st1.ev p.2)).length * te.size := by
        rw [Array.length_toList, size_madeCells]; simp [q2]
       obtain ⟨vs, hf, hE⟩ := elemsD_ok h1.blocks h1.clear q1 q4 hparts hnames (done := []) (by simp) hmade hl
       have hvs := hE.length
       rw [hlen] at hvs
       have hrun : (Instr.buildSlice t len (parts.map fun (i, x) => (i, a.eval x))).run P w = .ok (.slice (some ⟨w.heap.size, 0, none⟩) len len) (w.alloc (.cells vs.toArray e)) := by
        have hfill : Instr.fill (fun i => some (i * te.size, te.size)) (madeCells en'.z.cells (len * te.size)) (parts.map fun (i, x) => (i, a.eval x)).toList = some vs.toArray := by
         have := hf
         simp only [List.nil_append, Array.toArray_toList] at this
         rw [← this, Array.toList_map]
        by_cases h0 : len = 0
        ·subst h0
         have hp0 : parts = #[] := Array.eq_empty_of_size_eq_zero q2
         have hv0 : vs = [] := List.eq_nil_of_length_eq_zero (by simpa using hvs)
         subst hv0
         simp [Instr.buildSlice, run_underlying hsl, run_sizeOf' en', newRow, Array.range_zero', Instr.fill, hp0]
        ·rw [en'.hsize] at hfill
         exact run_buildSlice w t e len _ vs.toArray en'.inf en'.z hsl en'.hi en'.hz (by rw [← en'.hsize]; omega) (by rw [← en'.hsize]; exact Nat.mul_ne_zero h0 (by omega)) hfill
       refine wp_value (v := .slice (some ⟨w.heap.size, 0, none⟩) len len) (w' := w.alloc (.cells vs.toArray e)) ?_
        (rowK_ok h1 rfl rfl rfl (by simp) (fun k hk => heap_alloc_old w _ k hk) (fun r hr => by simp [blockOf] at hr; omega) (xs := vs) ?_ hE hk hr)
       ·simp [execOp, ho, hrun]
       ·refine ⟨by rw [hvs, hlen], .inr ⟨w.heap.size, len, vs.toArray, by rw [hlen], Nat.zero_le _, heap_alloc_new w _, by rw [hlen]; exact Nat.le_refl _, ?_, by simp [hvs], ?_⟩⟩
        ·have : len * 1 ≤ len * te.size := Nat.mul_le_mul_left _ q4
         unfold maxLen; omega
        ·simp only [hlen, ← hvs, List.take_length]
      ·cases hr
     ·cases hr
    ·cases hr
   ·cases hr
  ·cases hr
 ·cases hr
end
end Go.V
end
section
namespace Go.V
open Go Go.RowKit
set_option linter.unusedVariables false
set_option linter.unusedSimpArgs false
section
variable {P : Program} {E : En} {R : Type} {w0 : World} {M : Mo} {X : Nat → Prop} {hd : Nat → Value} {st : St} {a : Act} {w w' : World}
variable {k : St → Option R} {r : R} {K : Act → World → Prop} {Q : Exit → Act → World → Prop} {o : Oper}
theorem map_of {t k e : TypeId} {i : TI} (en : Entry P t i) (h : i.tk = .map k e) : P.underlying t = some (.map k e) := by
 have hu := en.hu
 have ht := en.htk
 generalize en.d = d at hu ht
 rw [h] at ht
 cases d <;> simp [tkOf] at ht
 rw [hu, ht.1, ht.2]
theorem str_of {t : TypeId} {i : TI} (en : Entry P t i) (h : i.tk = .str) : P.underlying t = some .string := by
 have hu := en.hu
 have ht := en.htk
 generalize en.d = d at hu ht
 rw [h] at ht
 cases d <;> simp [tkOf] at ht
 rw [hu]
def KeyKind (P : Program) (t : TypeId) : Ty → Prop
 | .int j => P.underlying t = some (.int j)
 | .str => P.underlying t = some .string
 | _ => False
theorem keyKind_of {tb : TypeId → Option TI} (ht : TbOK P tb) {t : TypeId} {i : TI} {kt : Ty} (hi : tb t = some i) (h : tyOf tb 8 t = some kt) (hk : keyTy kt = true) : KeyKind P t kt := by
 obtain ⟨en⟩ := ht.entry hi
 unfold tyOf at h
 rw [hi] at h
 simp only at h
 cases htk : i.tk with
 | int j => rw [htk] at h; cases h; exact int_of en htk
 | str => rw [htk] at h; cases h; exact str_of en htk
 | bool => rw [htk] at h; cases h; cases hk
 | slice e => rw [htk] at h; simp only at h; split at h <;> cases h; cases hk
 | ptr e => rw [htk] at h; simp only at h; split at h <;> cases h; cases hk
 | struct q fs => rw [htk] at h; simp only at h; split at h <;> cases h; cases hk
 | map a b => rw [htk] at h; simp only at h; split at h <;> cases h; cases hk
 | fn => rw [htk] at h; cases h
 | other => rw [htk] at h; cases h
theorem one_agg {tb : TypeId → Option TI} {t : TypeId} {i : TI} {vt : Ty} (hi : tb t = some i) (h : tyOf tb 8 t = some vt) (hk : oneTy vt = true) : aggTK i.tk = false := by
 unfold tyOf at h
 rw [hi] at h
 simp only at h
 cases htk : i.tk with
 | struct q fs => rw [htk] at h; simp only at h; split at h <;> cases h; cases hk
 | other => rw [htk] at h; cases h
 | _ => rfl
structure MapInfo (P : Program) (t : TypeId) (kt vt : Ty) where
 k : TypeId
 e : TypeId
 hu : P.underlying t = some (.map k e)
 hk : KeyKind P k kt
 i : TI
 en : Entry P e i
 z : List Value
 hz : zcells vt = some z
 hzz : eqZs z i.zero = true
 one : oneTy vt = true
 agg : aggTK i.tk = false
 key : keyTy kt = true
theorem mapTys_ok {tb : TypeId → Option TI} (ht : TbOK P tb) {t : TypeId} {kt vt : Ty} (h : mapTys tb t = some (kt, vt)) : Nonempty (MapInfo P t kt vt) := by
 unfold mapTys at h
 split at h
 ·rename_i k e _ _ _ hi
  obtain ⟨en⟩ := ht.entry hi
  split at h
  ·rename_i kt' vt' hkt hvt
   split at h
   ·rename_i ik i h1 h2 h3 h4
    obtain ⟨en'⟩ := ht.entry h4
    split at h
    ·rename_i z hz
     split at h
     ·rename_i hzz
      cases h
      exact ⟨⟨k, e, map_of en rfl, keyKind_of ht h3 hkt h1, i, en', z, hz, hzz, h2, one_agg h4 hvt h2, h1⟩⟩
     ·cases h
    ·cases h
   ·cases h
  ·cases h
 ·cases h
theorem flatV_Rc {N : Nat → Prop} {t : Ty} {x : t.den} {v : Value} (ho : oneTy t = true) : Rc w N t x [v] ↔ v = flatV t x := by
 cases t <;> first | (cases ho; done) | (show [v] = [_] ↔ _; simp [flatV])
theorem keyTy_one {t : Ty} (h : keyTy t = true) : oneTy t = true := by cases t <;> first | rfl | cases h
theorem zero_flat {vt : Ty} {t : TypeId} {kt : Ty} (m : MapInfo P t kt vt) : m.en.z = flatV vt (dflt vt) := by
 have h1 := m.hz
 have h2 := m.hzz
 have h3 := m.one
 have h4 := m.en.hzero
 have h5 := m.en.hone
 rw [m.agg, Bool.false_or] at h5
 rw [cells_one h5] at h4
 generalize m.z = z at h1 h2
 rw [h4] at h2
 generalize m.en.z = v at h2
 cases vt <;> try (cases h3; done)
 ·rename_i j
  cases h1
  cases v <;> simp [eqZs, eqZ] at h2
  obtain ⟨rfl, rfl⟩ := h2
  rfl
 ·cases h1
  cases v <;> simp [eqZs, eqZ] at h2
  subst h2
  rfl
 ·cases h1
  cases v <;> simp [eqZs, eqZ] at h2
  rename_i s
  show Value.string s = Value.string ByteArray.empty
  congr 1
  apply ByteArray.ext
  simpa using h2
theorem ba_beq (a b : ByteArray) : (a == b) = decide (a = b) := by
 by_cases h : a = b
 ·subst h
  rw [decide_eq_true rfl]
  show (a.data == a.data) = true
  simp
 ·rw [decide_eq_false h]
  show (a.data == b.data) = false
  have : a.data ≠ b.data := fun e => h (ByteArray.ext e)
  simpa using this
theorem keyI_iff (a b : Int) : keyI a b = true ↔ a = b := by unfold keyI; simp
theorem keyS_iff (a b : ByteArray) : keyS a b = true ↔ a = b := by unfold keyS; rw [ba_beq]; simp
theorem keyEq_iff {kt : Ty} (hk : keyTy kt = true) (a b : kt.den) : keyEq kt a b = true ↔ a = b := by
 cases kt <;> try (cases hk; done)
 ·exact keyI_iff a b
 ·exact keyS_iff a b
def midx (kt : Ty) {α : Type} : List (kt.den × α) → kt.den → Option Nat
 | [], _ => none
 | (a, _) :: l, b => match keyEq kt b a with
  | true => some 0
  | false => (midx kt l b).map (· + 1)
theorem midx_key {kt : Ty} (hk : keyTy kt = true) {α : Type} : ∀ {l : List (kt.den × α)} {b : kt.den} {n : Nat}, midx kt l b = some n → ∃ x, l[n]? = some (b, x)
 | [], _, _, h => by cases h
 | (a, x) :: l, b, n, h => by
  unfold midx at h
  split at h
  ·rename_i he
   cases h
   rw [(keyEq_iff hk _ _).1 he]
   exact ⟨x, rfl⟩
  ·cases hm : midx kt l b with
   | none => rw [hm] at h; cases h
   | some m =>
    rw [hm] at h
    cases h
    simpa using midx_key hk hm
theorem mget_eq (kt : Ty) {α : Type} : ∀ (l : List (kt.den × α)) (b : kt.den), mget kt l b = (midx kt l b).bind fun n => (l[n]?).map (·.2)
 | [], _ => rfl
 | (a, x) :: l, b => by
  have ih := mget_eq kt l b
  cases hk : keyEq kt b a with
  | true => simp [mget, midx, hk]
  | false =>
   simp only [mget, midx, hk, ih]
   cases midx kt l b <;> simp
theorem mput_eq (kt : Ty) {α : Type} (y : α) : ∀ (l : List (kt.den × α)) (b : kt.den), mput kt l b y = match midx kt l b with
  | some n => l.set n (b, y)
  | none => l ++ [(b, y)]
 | [], _ => rfl
 | (a, x) :: l, b => by
  have ih := mput_eq kt y l b
  cases hk : keyEq kt b a with
  | true => simp [mput, midx, hk]
  | false =>
   simp only [mput, midx, hk, ih]
   cases midx kt l b <;> simp
theorem sameNow_ok {kt : Ty} {t : TypeId} (h : KeyKind P t kt) : ∃ d, P.underlying t = some d ∧ (∀ a b : kt.den, Instr.sameNow d (flatV kt a) (flatV kt b) = some (keyEq kt a b)) ∧
  (∀ (e : Bool) (a : kt.den) (w : World), (Instr.checkKey e 10000 t (flatV kt a)).run P w = .ok () w) ∧ ∀ (a : kt.den) (w : World), (Instr.keyThatStays (flatV kt a) (flatV kt a)).run P w = .ok (flatV kt a) w := by
 cases kt <;> try (cases h; done)
 ·rename_i j
  refine ⟨.int j, h, ?_, ?_, ?_⟩
  ·intro a b
   show (if j = j then some (@BEq.beq Int _ a b) else none) = some (keyI a b)
   rw [if_pos rfl]
   rfl
  ·intro e a w
   exact MapKept.run_checkKey (n := 9999) (show P.underlying t = some (.int j) from h) (show MapKept.IsKey (.int j) (flatV (.int j) a) from rfl) e
  ·intro a w
   have : ∀ a : Int, (Instr.sameBits 10000 (.int j a) (.int j a)) = true := fun a => by simp [Instr.sameBits]
   have hh : Instr.sameBits 10000 (flatV (.int j) a) (flatV (.int j) a) = true := this a
   simp [Instr.keyThatStays, hh]
 ·refine ⟨.string, h, fun a b => rfl, ?_, ?_⟩
  ·intro e a w
   exact MapKept.run_checkKey (n := 9999) (show P.underlying t = some .string from h) (show MapKept.IsKey .string (flatV .str a) from trivial) e
  ·intro a w
   have : ∀ a : ByteArray, (Instr.sameBits 10000 (.string a) (.string a)) = true := fun a => (keyS_iff a a).2 rfl
   have hh : Instr.sameBits 10000 (flatV .str a) (flatV .str a) = true := this a
   simp [Instr.keyThatStays, hh]
theorem findNow_ok {kt vt : Ty} {d : TypeDesc} (hd : ∀ a b : kt.den, Instr.sameNow d (flatV kt a) (flatV kt b) = some (keyEq kt a b)) (key : kt.den) :
  ∀ (es : List MapEntry) (m : List (kt.den × vt.den)) (i : Nat), es.map (fun e => (e.key, e.val)) = mapEnts kt vt m →
  Instr.findNow d (flatV kt key) es i = some ((midx kt m key).map fun n => (i + n, ((es[n]?).map (·.val)).getD undef))
 | [], m, i, h => by
  cases m with
  | nil => rfl
  | cons _ _ => simp [mapEnts] at h
 | e :: es, m, i, h => by
  cases m with
  | nil => simp [mapEnts] at h
  | cons p m =>
   obtain ⟨a, x⟩ := p
   simp only [mapEnts, List.map_cons, List.cons.injEq, Prod.mk.injEq] at h
   obtain ⟨⟨h1, h2⟩, h3⟩ := h
   unfold Instr.findNow midx
   rw [h1, hd]
   cases hk : keyEq kt key a with
   | true => simp
   | false =>
    simp only
    rw [findNow_ok hd key es m (i + 1) h3]
    cases midx kt m key with
    | none => rfl
    | some n => simp; omega
theorem ents_get {kt vt : Ty} {es : List MapEntry} {m : List (kt.den × vt.den)} (h : es.map (fun e => (e.key, e.val)) = mapEnts kt vt m) {n : Nat} {p : kt.den × vt.den} (hp : m[n]? = some p) :
  ∃ e, es[n]? = some e ∧ e.key = flatV kt p.1 ∧ e.val = flatV vt p.2 := by
 have h1 : (es.map (fun e => (e.key, e.val)))[n]? = some (flatV kt p.1, flatV vt p.2) := by
  rw [h, mapEnts, List.getElem?_map, hp]; rfl
 rw [List.getElem?_map] at h1
 cases he : es[n]? with
 | none => rw [he] at h1; cases h1
 | some e =>
  rw [he] at h1
  simp only [Option.map_some, Option.some.injEq, Prod.mk.injEq] at h1
  exact ⟨e, rfl, h1.1, h1.2⟩
def lookV (vt : Ty) (x : vt.den) (b ok : Bool) : Value :=
 match ok with
 | true => .tuple #[flatV vt x, .bool b]
 | false => flatV vt x
theorem run_look {t : TypeId} {kt vt : Ty} (mi : MapInfo P t kt vt) {q : Nat} {es : Array MapEntry} {cl : Nat} {l : List (kt.den × vt.den)} (hg : w.heap[q]? = some (.map es cl)) (he : entsOf es = mapEnts kt vt l) (key : kt.den) (ok : Bool) :
  (Instr.lookup t (.map (some q)) (flatV kt key) ok).run P w = .ok (lookV vt ((mget kt l key).getD (dflt vt)) (mget kt l key).isSome ok) w := by
 obtain ⟨d, hd, hs, hc, _⟩ := sameNow_ok mi.hk
 have hf := findNow_ok hs key es.toList l 0 he
 have hz := run_zeroValue' (w := w) mi.en
 rw [mget_eq]
 unfold Instr.lookup Instr.findKey
 simp only [Sem.run_bind, run_underlying mi.hu, run_underlying hd, Result.andThen_ok, MapKept.run_getObj_map hg, Sem.run_pure, hc, hf]
 cases hm : midx kt l key with
 | none =>
  rw [zero_flat mi] at hz
  cases ok <;> simp [hz, lookV]
 | some n =>
  obtain ⟨x, hx⟩ := midx_key mi.key hm
  obtain ⟨e, h1, h2, h3⟩ := ents_get he hx
  have h1 : es[n]? = some e := by simpa using h1
  cases ok <;> simp [h1, h3, hx, lookV]
theorem run_mput {t : TypeId} {kt vt : Ty} (mi : MapInfo P t kt vt) {q : Nat} {es : Array MapEntry} {cl : Nat} {l : List (kt.den × vt.den)} (hg : w.heap[q]? = some (.map es cl)) (he : entsOf es = mapEnts kt vt l) (key : kt.den) (y : vt.den) :
  ∃ es' cl', (Instr.mapUpdate t (.map (some q)) (flatV kt key) (flatV vt y)).run P w = .ok () { w with heap := w.heap.setIfInBounds q (.map es' cl') } ∧ entsOf es' = mapEnts kt vt (mput kt l key y) := by
 obtain ⟨d, hd, hs, hc, hst⟩ := sameNow_ok mi.hk
 have hf := findNow_ok hs key es.toList l 0 he
 have hset : ∀ o, (setObj q o).run P w = .ok () { w with heap := w.heap.setIfInBounds q o } := fun o => MapKept.run_setObj_map o hg
 rw [mput_eq]
 unfold Instr.mapUpdate Instr.findKey
 simp only [Sem.run_bind, run_underlying mi.hu, run_underlying hd, Result.andThen_ok, MapKept.run_getObj_map hg, Sem.run_pure, hc, hf]
 cases hm : midx kt l key with
 | none =>
  refine ⟨es.push { key := flatV kt key, val := flatV vt y, born := cl }, cl + 1, by simp [hset], ?_⟩
  have he : es.toList.map (fun e => (e.key, e.val)) = mapEnts kt vt l := he
  simp [entsOf, mapEnts, he] at he ⊢
  try exact he
 | some n =>
  obtain ⟨x, hx⟩ := midx_key mi.key hm
  obtain ⟨e, h1, h2, h3⟩ := ents_get he hx
  have h1' : es[n]? = some e := by simpa using h1
  have h2 : e.key = flatV kt key := h2
  refine ⟨es.modify n fun e => { e with key := flatV kt key, val := flatV vt y }, cl, ?_, ?_⟩
  ·simp [h1', h2, hst, hset]
  ·have he : es.toList.map (fun e => (e.key, e.val)) = mapEnts kt vt l := he
   show List.map _ (es.modify n _).toList = _
   rw [Array.toList_modify]
   apply List.ext_getElem?
   intro i
   have hi := congrArg (fun z => z[i]?) he
   simp only [mapEnts, List.getElem?_map, List.getElem?_modify, List.getElem?_set] at hi ⊢
   by_cases e : n = i
   ·subst e
    have hn : n < l.length := (List.getElem?_eq_some_iff.1 hx).1
    simp [h1, hn]
   ·simp [e]
    simpa using hi
theorem run_makeMap_hint {t : TypeId} {kt vt : Ty} (mi : MapInfo P t kt vt) (j : IntKind) (n : Int) : (Instr.makeMap t (some (.int j n))).run P w = .ok (.map (some w.heap.size)) (w.alloc (.map #[] 0)) := by
 simp [Instr.makeMap, newObj, Sem.run, run_underlying mi.hu, asInt, asIntOf]
theorem makeMap_ok {t : TypeId} {rv : Option Operand} (ht : TbOK P E.tb) (ho : o.op = .makeMap t rv) (h : Rel w0 M X hd st a w) (hk : Next w0 M X k r K) (hr : opK E o st k = some r) : o.wp P a w K Q := by
 simp only [opK, ho] at hr
 split at hr
 ·rename_i kt vt hmt hh
  obtain ⟨mi⟩ := mapTys_ok ht hmt
  unfold mapK at hr
  split at hr
  ·rename_i st' hal
   obtain ⟨hf, rfl⟩ := alloc_find hal
   have hrel := h.fresh (v := .map (some w.heap.size)) (blk := .mp kt vt []) (w' := w.alloc (.map #[] 0)) hf rfl rfl rfl (by simp) (fun k hk => heap_alloc_old w _ k hk) (fun r hr => by simp [blockOf] at hr; omega)
    (fun g => ⟨w.heap.size, #[], 0, by show (if nameOf o.dst = nameOf o.dst then _ else _) = _; rw [if_pos rfl], heap_alloc_new w _, rfl⟩)
   refine wp_value (v := .map (some w.heap.size)) (w' := w.alloc (.map #[] 0)) ?_ (put_ok hrel (v := .om (nameOf o.dst)) ?_ hk hr)
   ·cases rv with
    | none => simp [execOp, ho, Instr.makeMap, newObj, Sem.run]
    | some x =>
     have hx := ev_ok h x
     unfold hintOK at hh
     simp only at hh
     split at hh
     ·rename_i j n hv
      rw [hv] at hx
      have hx : a.eval x = .int j n := by simpa using (show [a.eval x] = [Value.int j n] from hx)
      have := run_makeMap_hint (w := w) mi j n
      simp [execOp, ho, hx, this]
     ·cases hh
   ·exact ⟨by show Value.map (some w.heap.size) = (if nameOf o.dst = nameOf o.dst then _ else _); rw [if_pos rfl], by simp [Value.oneCell'], _, kt, vt, by show St.find (St.lay _ _ _) _ = _; rw [St.find_cons, if_pos rfl], rfl⟩
  ·cases hr
 ·cases hr
theorem datD_flat {t : Ty} {v : AV} {x : Value} {y : t.den} (h1 : oneTy t = true) (h : Rt (st.cx X hd w) v x) (hd' : datD t v = some y) : x = flatV t y := by
 have hr : R1 (st.cx X hd w) v x := by
  refine h.one ?_ ?_ ?_ <;> (intros; intro e; rw [e] at hd'; cases hd')
 have := datD_ok (st := st) (X := X) (hd := hd) (w := w) (N' := (st.cx X hd w).N) (fun r h => h) hr hd'
 exact (flatV_Rc h1).1 this
theorem lookup_ok {t : TypeId} {x ix : Operand} {ok : Bool} (ht : TbOK P E.tb) (ho : o.op = .lookup t x ix ok) (h : Rel w0 M X hd st a w) (hk : Next w0 M X k r K) (hr : opK E o st k = some r) : o.wp P a w K Q := by
 simp only [opK, ho] at hr
 split at hr
 ·rename_i kt vt hmt
  obtain ⟨mi⟩ := mapTys_ok ht hmt
  split at hr
  ·rename_i l key hl hkey
   have hx := ev_ok h x
   have hx1 : R1 (st.cx X hd w) (st.ev x) (a.eval x) := by
    refine hx.one ?_ ?_ ?_ <;> (intros; intro e'; rw [e'] at hl; cases hl)
   obtain ⟨q, es, cl, hv, hg, he, _⟩ := mapOf_ok h.blocks hx1 hl
   have hkv := datD_flat (keyTy_one mi.key) (ev_ok h ix) hkey
   have hrun := run_look (w := w) mi hg he key ok
   refine wp_value (w' := w) (v := lookV vt ((mget kt l key).getD (dflt vt)) (mget kt l key).isSome ok) ?_ (put_ok h ?_ hk hr)
   ·rw [show execOp a.eval o = _ from by simp only [execOp, ho]; rfl, hv, hkv]
    simp [hrun]
   ·have h0 : R1 (st.cx X hd w) (.dat vt ((mget kt l key).getD (dflt vt))) (flatV vt ((mget kt l key).getD (dflt vt))) := (flatV_Rc (w := w) (N := (st.cx X hd w).N) mi.one).2 rfl
    cases ok with
    | true => exact ⟨[_, _], rfl, Ra.of1 h0, Ra.of1 (rfl : [Value.bool _] = [Value.bool _]), trivial⟩
    | false => exact Rt.of1 h0
  ·cases hr
 ·cases hr
theorem mputK_ok {t : TypeId} {x ix y : Operand} {kt vt : Ty} {key : kt.den} {u : vt.den} (ho : o.op = .mapUpdate t x ix y ∨ o.op = .insert t x ix y) (mi : MapInfo P t kt vt) (h : Rel w0 M X hd st a w) (hk : Next w0 M X k r K)
  (hkey : datD kt (st.ev ix) = some key) (hval : datD vt (st.ev y).settle = some u) (hr : mputK o.dst kt vt st key u k (st.ev x) = some r) : o.wp P a w K Q := by
 have hx := ev_ok h x
 have hkv := datD_flat (keyTy_one mi.key) (ev_ok h ix) hkey
 have hyv := datD_flat mi.one (ev_ok h y).settle hval
 generalize st.ev x = v at hr hx
 unfold mputK at hr
 split at hr
 ·rename_i b
  split at hr
  ·rename_i kt' vt' m hf
   split at hr
   ·rename_i m' hm
    obtain ⟨he, hx'⟩ := cast?_some hm
    cases he
    cases hx'
    obtain ⟨q, es, cl, hh, hg, hent⟩ := h.blocks b _ hf
    have hh : hd b = .map (some q) := hh
    have hg : w.heap[q]? = _ := hg
    have hv : a.eval x = .map (some q) := hx.1.trans hh
    obtain ⟨es', cl', hrun, hent'⟩ := run_mput mi hg hent key u
    have hq : q < w.heap.size := (Array.getElem?_eq_some_iff.1 hg).1
    have hrel := h.write (blk' := .mp kt vt (mput kt m key u)) (w' := { w with heap := w.heap.setIfInBounds q (.map es' cl') }) hf rfl rfl rfl rfl rfl (by simp)
     (fun c hc => by
      have : q ≠ c := fun e => hc (by rw [hh, e]; rfl)
      show (w.heap.setIfInBounds q _)[c]? = _
      rw [Array.getElem?_setIfInBounds, if_neg this])
     (fun g => ⟨q, es', cl', hh, by show (w.heap.setIfInBounds q _)[q]? = _; rw [Array.getElem?_setIfInBounds, if_pos rfl, if_pos hq], hent'⟩)
    refine wp_skip' (w' := { w with heap := w.heap.setIfInBounds q (.map es' cl') }) ?_ (put_ok hrel (v := .undef) trivial hk hr)
    rcases ho with ho | ho <;> simp [execOp, ho, hv, hkv, hyv, hrun]
   ·cases hr
  ·cases hr
 ·cases hr
theorem mapUpdate_ok {t : TypeId} {x ix y : Operand} (ht : TbOK P E.tb) (ho : o.op = .mapUpdate t x ix y ∨ o.op = .insert t x ix y) (h : Rel w0 M X hd st a w) (hk : Next w0 M X k r K) (hr : opK E o st k = some r) : o.wp P a w K Q := by
 have hr : (match mapTys E.tb t with
  | some (kt, vt) => match datD kt (st.ev ix), datD vt (st.ev y).settle with
   | some key, some u => mputK o.dst kt vt st key u k (st.ev x)
   | _, _ => none
  | none => none) = some r := by rcases ho with ho | ho <;> (simp only [opK, ho] at hr; exact hr)
 split at hr
 ·rename_i kt vt hmt
  obtain ⟨mi⟩ := mapTys_ok ht hmt
  split at hr
  ·rename_i key u h1 h2
   exact mputK_ok ho mi h hk h1 h2 hr
  ·cases hr
 ·cases hr
theorem lenOfM_ok (h : Rel w0 M X hd st a w) {v : AV} {x : Value} {n : Nat} (hx : Rt (st.cx X hd w) v x) (hn : lenOfM st v = some n) : ∃ q es cl, x = .map (some q) ∧ w.heap[q]? = some (.map es cl) ∧ es.size = n := by
 have key : ∀ {kt vt : Ty} {l : List (kt.den × vt.den)} {es : Array MapEntry}, entsOf es = mapEnts kt vt l → es.size = List.length l := by
  intro kt vt l es he
  have := congrArg List.length he
  simpa [entsOf, mapEnts] using this
 cases v with
 | dat t l =>
  cases t <;> try (cases hn; done)
  rename_i kt vt
  have hn : some (List.length l) = some n := hn
  cases hn
  obtain ⟨q, es, cl, e, _, hg, he⟩ := (show Rc w (st.cx X hd w).N (.map kt vt) l [x] from hx)
  exact ⟨q, es, cl, by simpa using e, hg, key he⟩
 | om b =>
  have hx' : x = hd b := hx.1
  simp only [lenOfM] at hn
  cases hf : st.find b with
  | none => rw [hf] at hn; cases hn
  | some blk =>
   rw [hf] at hn
   have hb := h.blocks b blk hf
   cases blk with
   | mp kt vt l => cases hn; obtain ⟨q, es, cl, hh, hg, he⟩ := hb; exact ⟨q, es, cl, hx'.trans hh, hg, key he⟩
   | fmp kt vt l => cases hn; obtain ⟨q, es, cl, hh, hg, he⟩ := hb; exact ⟨q, es, cl, hx'.trans hh, hg, key he⟩
   | _ => cases hn
 | _ => cases hn
theorem len_ok {c : Call} (ht : TbOK P E.tb) (ho : o.op = .call c) (hc : c.callee = .builtin .len) (h : Rel w0 M X hd st a w) (hk : Next w0 M X k r K) (hr : opK E o st k = some r) : o.wp P a w K Q := by
 simp only [opK, ho, hc] at hr
 split at hr
 ·rename_i x t hargs hts
  have ha : c.args = #[x] := by rw [← Array.toList_inj, hargs]
  have hts : c.argTypes = #[t] := by rw [← Array.toList_inj, hts]
  split at hr
  ·rename_i e _ _ _ hi
   obtain ⟨en⟩ := ht.entry hi
   have hsl := slice_of en rfl
   split at hr
   ·rename_i n hn
    obtain ⟨A, cap, hx⟩ := lenOfA_ok h (ev_ok h x) hn
    refine wp_value (v := .int .i64 (n : Int)) (w' := w) ?_ (put_ok h (v := .dat (.int .i64) ((n : Nat) : Int)) (Rt.of1 (rfl : [Value.int .i64 _] = [Value.int .i64 _])) hk hr)
    simp [execOp, ho, resolve, hc, ha, hts, hx, invoke, builtin, Builtin.len_, run_underlying hsl, goInt]
   ·cases hr
  ·rename_i kk ee _ _ _ hi
   obtain ⟨en⟩ := ht.entry hi
   have hsl := map_of en rfl
   split at hr
   ·rename_i n hn
    obtain ⟨q, es, cl, hx, hg, hsz⟩ := lenOfM_ok h (ev_ok h x) hn
    refine wp_value (v := .int .i64 (n : Int)) (w' := w) ?_ (put_ok h (v := .dat (.int .i64) ((n : Nat) : Int)) (Rt.of1 (rfl : [Value.int .i64 _] = [Value.int .i64 _])) hk hr)
    simp [execOp, ho, resolve, hc, ha, hts, hx, invoke, builtin, Builtin.len_, run_underlying hsl, MapKept.run_getObj_map hg, hsz, goInt]
   ·cases hr
  ·cases hr
 ·cases hr
end
end Go.V
end
section
namespace Go.V
open Go Go.RowKit
set_option linter.unusedVariables false
set_option linter.unusedSimpArgs false
def P1 (w : World) (N : Nat → Prop) : (d : D1) → d.den → Value → Prop
 | .dat t, x, v => Rc w N t x [v]
 | .own e t, l, v => ∃ xs, w.ownsRow 0 e t.size v (List.length l) xs ∧ Elems w N t l xs
 | .cel t, x, v => ∃ r vs e, v = .pointer (some ⟨r, 0, none⟩) ∧ w.heap[r]? = some (.cells (List.toArray vs) e (0, 0)) ∧ 0 < t.size ∧ Rc w N t x vs
def PL (w : World) (N : Nat → Prop) : (ds : List D1) → dens ds → List Value → Prop
 | [], _, vs => vs = []
 | [d], x, vs => ∃ v, vs = [v] ∧ P1 w N d x v
 | d :: d' :: ds, x, vs => ∃ v us, vs = v :: us ∧ P1 w N d x.1 v ∧ PL w N (d' :: ds) x.2 us
def CompsV : List (Bool × List D1) → List Value → List Value → Prop
 | [], vs, cs => vs = [] ∧ cs = []
 | (true, ds) :: ps, vs, cs => ∃ us vs' cs', vs = .agg (List.toArray us) :: vs' ∧ us.length = ds.length ∧ cs = us ++ cs' ∧ CompsV ps vs' cs'
 | (false, ds) :: ps, vs, cs => ∃ v vs' cs', ds.length = 1 ∧ vs = v :: vs' ∧ v.oneCell' = true ∧ cs = v :: cs' ∧ CompsV ps vs' cs'
def ownB : List D1 → List Value → List Nat
 | .own .. :: ds, v :: vs => match blockOf v with
  | some r => r :: ownB ds vs
  | none => ownB ds vs
 | .cel _ :: ds, v :: vs => match blockOf v with
  | some r => r :: ownB ds vs
  | none => ownB ds vs
 | .dat _ :: ds, _ :: vs => ownB ds vs
 | _, _ => []
def ownV : List D1 → List Value → List Value
 | .own .. :: ds, v :: vs => v :: ownV ds vs
 | .cel _ :: ds, v :: vs => v :: ownV ds vs
 | .dat _ :: ds, _ :: vs => ownV ds vs
 | _, _ => []
def Gives (v : Value) : List Value → Prop
 | [x] => v = x
 | vs => v = .tuple vs.toArray
def Gl (P : Program) (w : World) (B : Nat → Prop) : Prop :=
 ∀ g, P.globalNamed "internal/strconv.uint64pow10" = some g → ¬ B g ∧ g < w.heap.size ∧ Lib.TabIs P w "internal/strconv.uint64pow10" .u64 Lib.pow10Tab
theorem Gl.move {P : Program} {w0 w : World} {B B' : Nat → Prop} (h : Gl P w0 B) (hf : Frame0 w0 w B) (hb : ∀ r, B' r → B r ∨ w0.heap.size ≤ r) : Gl P w B' := by
 intro g hg
 obtain ⟨h1, h2, h3⟩ := h g hg
 refine ⟨fun hq => ?_, Nat.lt_of_lt_of_le h2 hf.size, ?_⟩
 ·rcases hb g hq with h4 | h4
  ·exact h1 h4
  ·omega
 ·unfold Lib.TabIs World.var? at h3 ⊢
  rw [hg, Option.bind_some] at h3 ⊢
  rw [hf.block g h2 h1]
  exact h3
theorem Gl.tab {P : Program} {w : World} {B : Nat → Prop} (h : Gl P w B) {g : Nat} (hg : P.globalNamed "internal/strconv.uint64pow10" = some g) : Lib.TabIs P w "internal/strconv.uint64pow10" .u64 Lib.pow10Tab := (h g hg).2.2
structure Meets (P : Program) (f : FuncId) (S : Does) : Prop where
 enters : ∀ args w, (callFunc f args).run P w = .ok (.enter f args) w
 calls : ∀ (w : World) (X : Nat → Prop) (args : List Value) (cells : List Value) (x : dens (flatC S.ps)) (y : dens (flatC S.rs ++ outsC S.ps)),
  CompsV S.ps args cells → (∀ r, X r → r < w.heap.size ∧ r ∉ ownB (flatC S.ps) cells) → PL w (fun r => X r ∨ r ∈ ownB (flatC S.ps) cells) (flatC S.ps) x cells → (ownB (flatC S.ps) cells).Nodup → Gl P w (· ∈ ownB (flatC S.ps) cells) → S.fn x = some y →
  Calls P f args.toArray w fun e w' => ∃ v vs rcells, e = .returned v ∧ Gives v vs ∧ CompsV S.rs vs rcells ∧ Frame0 w w' (· ∈ ownB (flatC S.ps) cells) ∧
   PL w' (fun r => X r ∨ r ∈ ownB (flatC S.ps) cells ∨ r ∈ ownB (flatC S.rs) rcells) (flatC S.rs ++ outsC S.ps) y (rcells ++ ownV (flatC S.ps) cells) ∧
   (ownB (flatC S.rs) rcells).Nodup ∧ ∀ r ∈ ownB (flatC S.rs) rcells, w.heap.size ≤ r
section
variable {P : Program} {E : En} {R : Type} {w0 : World} {M : Mo} {X : Nat → Prop} {hd : Nat → Value} {st : St} {a : Act} {w w' : World}
variable {k : St → Option R} {r : R} {K : Act → World → Prop} {Q : Exit → Act → World → Prop} {o : Oper}
theorem PL.length {N : Nat → Prop} : ∀ {ds : List D1} {x : dens ds} {vs : List Value}, PL w N ds x vs → vs.length = ds.length
 | [], _, _, h => by have h : _ = [] := h; rw [h]; rfl
 | [d], _, _, ⟨v, e, _⟩ => by rw [e]; rfl
 | d :: d' :: ds, _, _, ⟨v, us, e, _, h⟩ => by rw [e, List.length_cons, PL.length h]; rfl
theorem PL.cons {N : Nat → Prop} {d : D1} : ∀ {ds : List D1} {x : dens (d :: ds)} {vs : List Value}, PL w N (d :: ds) x vs → ∃ v us, vs = v :: us
 | [], _, _, ⟨v, e, _⟩ => ⟨v, [], e⟩
 | d' :: ds, _, _, ⟨v, us, e, _⟩ => ⟨v, us, e⟩
theorem P1.weaken {N N' : Nat → Prop} (hn : ∀ r, N' r → N r) : ∀ {d : D1} {x : d.den} {v : Value}, P1 w N d x v → P1 w N' d x v
 | .dat t, _, _, h => Rc.weaken hn h
 | .own e t, _, _, ⟨xs, h, hE⟩ => ⟨xs, h, hE.move fun _ _ q hc => ⟨fun q' => q (hn _ q'), hc⟩⟩
 | .cel t, _, _, ⟨r, vs, e, h1, h2, h3, h4⟩ => ⟨r, vs, e, h1, h2, h3, h4.weaken hn⟩
theorem PL.weaken {N N' : Nat → Prop} (hn : ∀ r, N' r → N r) : ∀ {ds : List D1} {x : dens ds} {vs : List Value}, PL w N ds x vs → PL w N' ds x vs
 | [], _, _, h => h
 | [d], _, _, ⟨v, e, h⟩ => ⟨v, e, h.weaken hn⟩
 | d :: d' :: ds, _, _, ⟨v, us, e, h, h'⟩ => ⟨v, us, e, h.weaken hn, PL.weaken hn h'⟩
theorem plain_any {N N' : Nat → Prop} : ∀ {t : Ty} {x : t.den} {cs : List Value}, plainTy t = true → Rc w N t x cs → Rc w' N' t x cs
 | .int _, _, _, _, h => h
 | .bool, _, _, _, h => h
 | .str, _, _, _, h => h
 | .unit, _, _, _, h => h
 | .pair a b, _, _, hp, ⟨c, d, e, h, k⟩ => by
  simp only [plainTy, Bool.and_eq_true] at hp
  exact ⟨c, d, e, plain_any hp.1 h, plain_any hp.2 k⟩
 | .struct t, _, _, hp, h => plain_any (t := t) hp h
 | .list _, _, _, hp, _ => by cases hp
 | .ptr _, _, _, hp, _ => by cases hp
 | .clo .., _, _, hp, _ => by cases hp
 | .map .., _, _, hp, _ => by cases hp
 | .optr _, _, _, hp, _ => by cases hp
theorem plain_elems {N N' : Nat → Prop} {t : Ty} (hp : plainTy t = true) : ∀ {l : List t.den} {xs : List Value}, Elems w N t l xs → Elems w N' t l xs
 | [], _, h => h
 | _ :: _, _, ⟨c, d, e, h, k⟩ => ⟨c, d, e, plain_any hp h, plain_elems hp k⟩
theorem P1.apart {N N' : Nat → Prop} : ∀ {d : D1} {x : d.den} {v : Value}, d.apart = true → P1 w N d x v → P1 w N' d x v
 | .dat t, _, _, hp, h => plain_any hp h
 | .own e t, _, _, hp, ⟨xs, h, hE⟩ => ⟨xs, h, plain_elems hp hE⟩
 | .cel t, _, _, hp, ⟨r, vs, e, h1, h2, h3, h4⟩ => ⟨r, vs, e, h1, h2, h3, plain_any hp h4⟩
theorem PL.apart {N N' : Nat → Prop} : ∀ {ds : List D1} {x : dens ds} {vs : List Value}, ds.all (·.apart) = true → PL w N ds x vs → PL w N' ds x vs
 | [], _, _, _, h => h
 | [d], _, _, hp, ⟨v, e, h⟩ => ⟨v, e, h.apart (by simpa using hp)⟩
 | d :: d' :: ds, _, _, hp, ⟨v, us, e, h, h'⟩ => by
  rw [List.all_cons, Bool.and_eq_true] at hp
  exact ⟨v, us, e, h.apart hp.1, PL.apart hp.2 h'⟩
theorem PL.split {N : Nat → Prop} : ∀ {ds es : List D1} {x : dens (ds ++ es)} {vs us : List Value}, vs.length = ds.length → PL w N (ds ++ es) x (vs ++ us) → PL w N ds (splitD ds es x).1 vs ∧ PL w N es (splitD ds es x).2 us
 | [], es, x, vs, us, hl, h => by
  have : vs = [] := List.eq_nil_of_length_eq_zero hl
  subst this
  exact ⟨rfl, h⟩
 | [d], [], x, vs, us, hl, h => by
  obtain ⟨v, rfl⟩ : ∃ v, vs = [v] := by
   match vs, hl with
   | [v], _ => exact ⟨v, rfl⟩
  obtain ⟨v', e, h'⟩ := h
  simp only [List.cons_append, List.nil_append, List.cons.injEq] at e
  obtain ⟨rfl, rfl⟩ := e
  exact ⟨⟨v, rfl, h'⟩, rfl⟩
 | [d], e :: es, x, vs, us, hl, h => by
  obtain ⟨v, rfl⟩ : ∃ v, vs = [v] := by
   match vs, hl with
   | [v], _ => exact ⟨v, rfl⟩
  obtain ⟨v', us', e, h', h2⟩ := h
  simp only [List.cons_append, List.nil_append, List.cons.injEq] at e
  obtain ⟨rfl, rfl⟩ := e
  exact ⟨⟨v, rfl, h'⟩, h2⟩
 | d :: d' :: ds, es, x, vs, us, hl, h => by
  match vs, hl with
  | v :: vs, hl =>
   obtain ⟨v', us', e, h', h2⟩ := h
   simp only [List.cons_append, List.cons.injEq] at e
   obtain ⟨rfl, rfl⟩ := e
   obtain ⟨h3, h4⟩ := PL.split (ds := d' :: ds) (es := es) (vs := vs) (us := us) (by simpa using hl) h2
   exact ⟨⟨v, vs, rfl, h', h3⟩, h4⟩
theorem read1_ok (h : Rel w0 M X hd st a w) {N' Qn : Nat → Prop} (hc : Clear st X hd w N' Qn) {d : D1} {x : d.den} {v : AV} {u : Value} (hr : R1 (st.cx X hd w) v u) (hn : ∀ t, d = .dat t → ∀ b ∈ namesA v, Qn b)
  (hx : read1 st d v = some x) : P1 w N' d x u := by
 cases d with
 | dat t =>
  have := cellsData_ok h.blocks hc t [v] [u] x ⟨hr, trivial⟩ (by rw [namesL_one]; exact hn t rfl) hx
  exact this
 | own e t =>
  cases v with
  | own b =>
   have hu : u = hd b := hr.1
   simp only [read1] at hx
   split at hx
   ·rename_i e' s l hf
    split at hx
    ·rename_i he
     have he := Nat.eq_of_beq_eq_true he
     subst he
     obtain ⟨h1, h2⟩ := cast?_some hx
     cases h1
     cases h2
     obtain ⟨xs, ho, hE⟩ := h.blocks b _ hf
     exact ⟨xs, by rw [hu]; exact ho, hE.move fun _ _ q hc' => ⟨fun q' => q (hc.sub _ q'), hc'⟩⟩
    ·cases hx
   ·cases hx
  | nil =>
   have hx : some [] = some x := hx
   cases hx
   have hu : u = .slice none 0 0 := hr
   rw [hu]
   exact ⟨[], World.ownsRow_nil w 0 e t.size, rfl⟩
  | _ => cases hx
 | cel t =>
  cases v with
  | box b i =>
   cases i with
   | succ i => cases hx
   | zero =>
    have hx : celD st t (st.find b) = some x := hx
    obtain ⟨blk, n, r, hf, hs, hi, hh, hv⟩ := hr
    have hf : st.find b = some blk := hf
    rw [hf] at hx
    cases blk with
    | cells cs =>
     simp only [celD] at hx
     split at hx
     ·rename_i h1 h2 h3
      have h1 := Nat.eq_of_beq_eq_true h1
      have h2 : namesA.namesL cs = [] := by simpa using h2
      have h3 : 0 < t.size := by simpa [Nat.blt_eq] using h3
      obtain ⟨r', vs, e, q1, q2, q3⟩ := h.blocks b _ hf
      have hh : hd b = .pointer (some ⟨r, 0, none⟩) := hh
      have q1 : hd b = .pointer (some ⟨r', 0, none⟩) := q1
      rw [hh] at q1
      cases q1
      have hrc := cellsData_ok h.blocks hc t cs vs x q3 (fun c hc' => by rw [h2] at hc'; cases hc') hx
      exact ⟨r, vs, e, hv, q2, h3, hrc⟩
     ·cases hx
    | _ => cases hx
  | _ => cases hx
theorem readL_ok (h : Rel w0 M X hd st a w) {N' Qn : Nat → Prop} (hc : Clear st X hd w N' Qn) : ∀ {ds : List D1} {x : dens ds} {vs : List AV} {us : List Value}, All2 (R1 (st.cx X hd w)) vs us → (∀ b ∈ datNames ds vs, Qn b) →
  readL st ds vs = some x → PL w N' ds x us
 | [], x, vs, us, hr, _, hx => by
  cases vs with
  | nil => cases us with
   | nil => rfl
   | cons _ _ => exact hr.elim
  | cons _ _ => cases hx
 | [d], x, vs, us, hr, hn, hx => by
  have hx : (match one? vs with | some v => read1 st d v | none => none) = some x := hx
  split at hx
  ·rename_i v hv
   obtain rfl := one?_some hv
   obtain ⟨u, rfl, hu⟩ := hr.one
   exact ⟨u, rfl, read1_ok h hc hu (fun t e b hb => hn b (by subst e; simp [datNames, hb])) hx⟩
  ·cases hx
 | d :: d' :: ds, x, vs, us, hr, hn, hx => by
  cases vs with
  | nil => cases hx
  | cons v vs => cases us with
   | nil => exact hr.elim
   | cons u us =>
    have hx : (match read1 st d v with
     | some x => match readL st (d' :: ds) vs with
      | some y => some (x, y)
      | none => none
     | none => none) = some x := hx
    split at hx
    ·rename_i y hy
     split at hx
     ·rename_i z hz
      cases hx
      refine ⟨u, us, rfl, read1_ok h hc hr.1 (fun t e b hb => hn b (by subst e; simp [datNames, hb])) hy, readL_ok h hc hr.2 (fun b hb => hn b ?_) hz⟩
      cases d with
      | dat t => exact List.mem_append_right _ hb
      | own e t => exact hb
      | cel t => exact hb
     ·cases hx
    ·cases hx
theorem flatA_ok {c : Cx} : ∀ {ps : List (Bool × List D1)} {vs : List AV} {us : List Value} {cells : List AV}, All2 (Rt c) vs us → flatA ps vs = some cells → ∃ vcells, CompsV ps us vcells ∧ All2 (R1 c) cells vcells
 | [], [], [], cells, _, h => by cases h; exact ⟨[], ⟨rfl, rfl⟩, trivial⟩
 | [], [], _ :: _, _, hr, _ => hr.elim
 | [], _ :: _, _, _, _, h => by cases h
 | _ :: _, [], _, _, _, h => by cases h
 | _ :: _, _ :: _, [], _, hr, _ => hr.elim
 | (b, ds) :: ps, v :: vs, u :: us, cells, hr, h => by
  rw [flatA] at h
  split at h
  ·cases h
  ·rename_i l hfl
   obtain ⟨vc, hv, hav⟩ := flatA_ok hr.2 hfl
   split at h
   ·split at h
    ·rename_i cs hcs
     split at h
     ·rename_i hl
      have hl := Nat.eq_of_beq_eq_true hl
      cases h
      have hva : v = .agg cs := by cases v <;> first | (cases hcs; rfl) | (cases hcs)
      subst hva
      obtain ⟨xs, hu, ha⟩ := hr.1
      exact ⟨xs ++ vc, ⟨xs, us, vc, by rw [hu], by rw [← ha.length]; exact hl, rfl, hv⟩, ha.append hav⟩
     ·cases h
    ·cases h
   ·split at h
    ·rename_i h1 h2
     have h2 := Nat.eq_of_beq_eq_true h2
     cases h
     have hr1 : R1 c v u := hr.1.one (fun e => by rw [e] at h1; cases h1) (fun cs e => by rw [e] at h1; cases h1) (fun cs e => by rw [e] at h1; cases h1)
     exact ⟨u :: vc, ⟨u, us, vc, h2, rfl, hr1.one (by cases v <;> first | rfl | cases h1), rfl, hv⟩, hr1, hav⟩
    ·cases h
end
end Go.V
end
section
namespace Go.V
open Go Go.RowKit
set_option linter.unusedVariables false
set_option linter.unusedSimpArgs false
section
variable {P : Program} {E : En} {R : Type} {w0 : World} {M : Mo} {X : Nat → Prop} {hd : Nat → Value} {st : St} {a : Act} {w w' : World}
variable {k : St → Option R} {r : R} {K : Act → World → Prop} {Q : Exit → Act → World → Prop} {o : Oper}
theorem names0 {c : Cx} {v : AV} {u : Value} (h : R0 c v u) : ∀ b ∈ namesA v, ∃ blk, c.find b = some blk := by
 intro b hb
 cases v with
 | own b' =>
  simp [namesA] at hb; subst hb
  obtain ⟨_, _, blk, _, _, _, hf, _⟩ := h
  exact ⟨blk, hf⟩
 | om b' =>
  simp [namesA] at hb; subst hb
  obtain ⟨_, _, blk, _, _, hf, _⟩ := h
  exact ⟨blk, hf⟩
 | box b' i =>
  simp [namesA] at hb; subst hb
  obtain ⟨blk, _, _, hf, _⟩ := h
  exact ⟨blk, hf⟩
 | ep b' i =>
  simp [namesA] at hb; subst hb
  obtain ⟨blk, _, _, _, _, _, _, _, hf, _⟩ := h
  exact ⟨blk, hf⟩
 | clo f caps => exact h.elim
 | agg _ => exact h.elim
 | tup _ => exact h.elim
 | _ => simp [namesA] at hb
theorem namesL0 {c : Cx} : ∀ {l : List AV} {m : List Value}, All2 (R0 c) l m → ∀ b ∈ namesA.namesL l, ∃ blk, c.find b = some blk
 | [], [], _, b, hb => by simp [namesA.namesL] at hb
 | v :: l, u :: m, h, b, hb => by
  simp only [namesA.namesL, List.mem_append] at hb
  exact hb.elim (names0 h.1 b) (namesL0 h.2 b)
 | [], _ :: _, h, _, _ => h.elim
 | _ :: _, [], h, _, _ => h.elim
theorem names1 {c : Cx} {v : AV} {u : Value} (h : R1 c v u) : ∀ b ∈ namesA v, ∃ blk, c.find b = some blk := by
 cases v with
 | clo f caps =>
  obtain ⟨vs, _, ha⟩ := h
  intro b hb
  exact namesL0 ha b (by simpa [namesA] using hb)
 | _ => exact names0 (u := u) (show R0 c _ u from h)
theorem namesL1 {c : Cx} : ∀ {l : List AV} {m : List Value}, All2 (R1 c) l m → ∀ b ∈ namesA.namesL l, ∃ blk, c.find b = some blk
 | [], [], _, b, hb => by simp [namesA.namesL] at hb
 | v :: l, u :: m, h, b, hb => by
  simp only [namesA.namesL, List.mem_append] at hb
  exact hb.elim (names1 h.1 b) (namesL1 h.2 b)
 | [], _ :: _, h, _, _ => h.elim
 | _ :: _, [], h, _, _ => h.elim
theorem datNames_found {c : Cx} : ∀ {ds : List D1} {l : List AV} {m : List Value}, All2 (R1 c) l m → ∀ b ∈ datNames ds l, ∃ blk, c.find b = some blk
 | [], [], [], _, b, hb => by simp [datNames] at hb
 | d :: ds, [], [], _, b, hb => by cases d <;> simp [datNames] at hb
 | [], v :: l, u :: m, h, b, hb => by simp [datNames] at hb
 | .dat t :: ds, v :: l, u :: m, h, b, hb => by
  simp only [datNames, List.mem_append] at hb
  exact hb.elim (names1 h.1 b) (datNames_found h.2 b)
 | .own e t :: ds, v :: l, u :: m, h, b, hb => datNames_found (ds := ds) h.2 b hb
 | .cel t :: ds, v :: l, u :: m, h, b, hb => datNames_found (ds := ds) h.2 b hb
 | _, [], _ :: _, h, _, _ => h.elim
 | _, _ :: _, [], h, _, _ => h.elim
theorem any_beq {l : List Nat} {b : Nat} : l.any (Nat.beq b) = true ↔ b ∈ l := by
 rw [List.any_eq_true]
 constructor
 ·rintro ⟨x, hx, he⟩
  have := Nat.eq_of_beq_eq_true he
  subst this; exact hx
 ·intro h
  exact ⟨b, h, Nat.beq_refl b⟩
theorem nodupN_ok : ∀ {l : List Nat}, nodupN l = true → l.Nodup
 | [], _ => List.nodup_nil
 | b :: l, h => by
  simp only [nodupN, Bool.and_eq_true, Bool.not_eq_true'] at h
  rw [List.nodup_cons]
  refine ⟨fun hm => ?_, nodupN_ok h.2⟩
  rw [any_beq.2 hm] at h
  exact absurd h.1 (by simp)
theorem sepK_ok {ds : List D1} {cells : List AV} {rch : List Nat} (h : sepK st ds cells = some rch) :
  (∀ b ∈ datNames ds cells, b ∈ rch) ∧ (∀ b ∈ rch, ∀ c ∈ namesB (st.find b), c ∈ rch) ∧ (ownIn ds cells).Nodup ∧ ∀ b ∈ rch, b ∉ ownIn ds cells := by
 unfold sepK at h
 simp only at h
 split at h
 ·rename_i hb
  cases h
  simp only [Bool.and_eq_true] at hb
  obtain ⟨⟨⟨h1, h2⟩, h3⟩, h4⟩ := hb
  refine ⟨fun b hb => any_beq.1 (List.all_eq_true.1 h1 b hb), fun b hb c hc => any_beq.1 (List.all_eq_true.1 (List.all_eq_true.1 h2 b hb) c hc), nodupN_ok h3, fun b hb hm => ?_⟩
  have := List.all_eq_true.1 h4 b hb
  rw [any_beq.2 hm] at this
  cases this
 ·cases h
theorem cel_box {t : Ty} {x : t.den} {v : AV} {u : Value} (hu : R1 (st.cx X hd w) v u) (hx : read1 st (.cel t) v = some x) : ∃ b, v = .box b 0 ∧ ∃ cs, st.find b = some (.cells cs) ∧ hd b = u := by
 cases v with
 | box b i =>
  cases i with
  | succ i => cases hx
  | zero =>
   have hx : celD st t (st.find b) = some x := hx
   obtain ⟨blk, n, r, hf, hs, hi, hh, hv⟩ := hu
   have hf : st.find b = some blk := hf
   rw [hf] at hx
   cases blk with
   | cells cs => exact ⟨b, rfl, cs, hf, hh.trans hv.symm⟩
   | _ => cases hx
 | _ => cases hx
theorem ownB_in (h : Rel w0 M X hd st a w) : ∀ {ds : List D1} {x : dens ds} {cells : List AV} {vs : List Value}, All2 (R1 (st.cx X hd w)) cells vs → readL st ds cells = some x → ∀ r ∈ ownB ds vs, ∃ b ∈ ownIn ds cells, (∃ blk, st.find b = some blk ∧ blk.live = true) ∧ blockOf (hd b) = some r := by
 have oneC : ∀ {t : Ty} {x : t.den} {v : AV} {u : Value} {r : Nat}, R1 (st.cx X hd w) v u → read1 st (.cel t) v = some x → blockOf u = some r → ∃ b, v = .box b 0 ∧ (∃ blk, st.find b = some blk ∧ blk.live = true) ∧ blockOf (hd b) = some r := by
  intro t x v u r hu hx hr
  obtain ⟨b, rfl, cs, hf, hh⟩ := cel_box hu hx
  exact ⟨b, rfl, ⟨_, hf, rfl⟩, by rw [hh]; exact hr⟩
 have one : ∀ {e : TypeId} {t : Ty} {x : List t.den} {v : AV} {u : Value} {r : Nat}, R1 (st.cx X hd w) v u → read1 st (.own e t) v = some x → blockOf u = some r → ∃ b, v = .own b ∧ (∃ blk, st.find b = some blk ∧ blk.live = true) ∧ blockOf (hd b) = some r := by
  intro e t x v u r hu hx hr
  cases v with
  | own b =>
   have hub : u = hd b := hu.1
   simp only [read1] at hx
   split at hx
   ·rename_i e' s l hf
    exact ⟨b, rfl, ⟨_, hf, rfl⟩, by rw [← hub]; exact hr⟩
   ·cases hx
  | nil =>
   have : u = .slice none 0 0 := hu
   rw [this] at hr; cases hr
  | _ => cases hx
 intro ds
 induction ds with
 | nil => intro x cells vs _ _ r hr; simp [ownB] at hr
 | cons d ds ih =>
  intro x cells vs ha hx r hr
  cases ds with
  | nil =>
   have hx : (match one? cells with | some v => read1 st d v | none => none) = some x := hx
   split at hx
   ·rename_i v hv
    obtain rfl := one?_some hv
    obtain ⟨u, rfl, hu⟩ := ha.one
    cases d with
    | dat t => simp [ownB] at hr
    | own e t =>
     have hr' : blockOf u = some r := by
      cases hb : blockOf u with
      | none => simp [ownB, hb] at hr
      | some r' => simp [ownB, hb] at hr; rw [hr]
     obtain ⟨b, rfl, h1, h2⟩ := one hu hx hr'
     exact ⟨b, by simp [ownIn], h1, h2⟩
    | cel t =>
     have hr' : blockOf u = some r := by
      cases hb : blockOf u with
      | none => simp [ownB, hb] at hr
      | some r' => simp [ownB, hb] at hr; rw [hr]
     obtain ⟨b, rfl, h1, h2⟩ := oneC hu hx hr'
     exact ⟨b, by simp [ownIn], h1, h2⟩
   ·cases hx
  | cons d' ds =>
   cases cells with
   | nil => cases hx
   | cons v cells => cases vs with
    | nil => exact ha.elim
    | cons u vs =>
     have hx : (match read1 st d v with
      | some x => match readL st (d' :: ds) cells with
       | some y => some (x, y)
       | none => none
      | none => none) = some x := hx
     split at hx
     ·rename_i y hy
      split at hx
      ·rename_i z hz
       cases d with
       | dat t =>
        obtain ⟨b, hb, h1⟩ := ih ha.2 hz r hr
        exact ⟨b, hb, h1⟩
       | own e t =>
        have sub : ∀ b ∈ ownIn (d' :: ds) cells, b ∈ ownIn (.own e t :: d' :: ds) (v :: cells) := by
         intro b hb
         rcases v with _ | _ | _ | _ | _ | _ | _ | _ | _ | ⟨_, _ | _⟩ | _ | _ | _ | _ | _ <;> first | exact hb | exact List.mem_cons_of_mem _ hb
        cases hb : blockOf u with
        | none =>
         simp only [ownB, hb] at hr
         obtain ⟨b, hb, h1⟩ := ih ha.2 hz r hr
         exact ⟨b, sub b hb, h1⟩
        | some r' =>
         simp only [ownB, hb, List.mem_cons] at hr
         rcases hr with rfl | hr
         ·obtain ⟨b, rfl, h1, h2⟩ := one ha.1 hy hb
          exact ⟨b, by simp [ownIn], h1, h2⟩
         ·obtain ⟨b, hb, h1⟩ := ih ha.2 hz r hr
          exact ⟨b, sub b hb, h1⟩
       | cel t =>
        have sub : ∀ b ∈ ownIn (d' :: ds) cells, b ∈ ownIn (.cel t :: d' :: ds) (v :: cells) := by
         intro b hb
         rcases v with _ | _ | _ | _ | _ | _ | _ | _ | _ | ⟨_, _ | _⟩ | _ | _ | _ | _ | _ <;> first | exact hb | exact List.mem_cons_of_mem _ hb
        cases hb : blockOf u with
        | none =>
         simp only [ownB, hb] at hr
         obtain ⟨b, hb, h1⟩ := ih ha.2 hz r hr
         exact ⟨b, sub b hb, h1⟩
        | some r' =>
         simp only [ownB, hb, List.mem_cons] at hr
         rcases hr with rfl | hr
         ·obtain ⟨b, rfl, h1, h2⟩ := oneC ha.1 hy hb
          exact ⟨b, by simp [ownIn], h1, h2⟩
         ·obtain ⟨b, hb, h1⟩ := ih ha.2 hz r hr
          exact ⟨b, sub b hb, h1⟩
      ·cases hx
     ·cases hx
theorem ownB_nodup (h : Rel w0 M X hd st a w) : ∀ {ds : List D1} {x : dens ds} {cells : List AV} {vs : List Value}, All2 (R1 (st.cx X hd w)) cells vs → readL st ds cells = some x → (ownIn ds cells).Nodup → (ownB ds vs).Nodup := by
 intro ds
 induction ds with
 | nil => intro x cells vs _ _ _; cases vs <;> simp [ownB]
 | cons d ds ih =>
  intro x cells vs ha hx hn
  cases ds with
  | nil =>
   match vs with
   | [] => cases d <;> simp [ownB]
   | u :: us => cases d with
    | dat t => cases us <;> simp [ownB]
    | own e t => cases hb : blockOf u <;> cases us <;> simp [ownB, hb]
    | cel t => cases hb : blockOf u <;> cases us <;> simp [ownB, hb]
  | cons d' ds =>
   cases cells with
   | nil => cases hx
   | cons v cells => cases vs with
    | nil => exact ha.elim
    | cons u vs =>
     have hx' := hx
     have hx : (match read1 st d v with
      | some x => match readL st (d' :: ds) cells with
       | some y => some (x, y)
       | none => none
      | none => none) = some x := hx
     split at hx
     ·rename_i y hy
      split at hx
      ·rename_i z hz
       cases d with
       | dat t => exact ih ha.2 hz hn
       | own e t =>
        have hn' : (ownIn (d' :: ds) cells).Nodup := by
         rcases v with _ | _ | _ | _ | _ | _ | _ | _ | _ | ⟨_, _ | _⟩ | _ | _ | _ | _ | _ <;> first | exact hn | exact (List.nodup_cons.1 hn).2
        cases hb : blockOf u with
        | none => simp only [ownB, hb]; exact ih ha.2 hz hn'
        | some r' =>
         simp only [ownB, hb]
         rw [List.nodup_cons]
         refine ⟨fun hm => ?_, ih ha.2 hz hn'⟩
         obtain ⟨b2, hb2, ⟨blk2, hf2, _⟩, hr2⟩ := ownB_in h ha.2 hz r' hm
         cases v with
         | own b =>
          have hu : u = hd b := ha.1.1
          obtain ⟨_, _, blk, _, _, _, hf, _⟩ := ha.1
          rw [hu] at hb
          have := h.inj b b2 blk _ r' hf hf2 hb hr2
          subst this
          exact (List.nodup_cons.1 hn).1 hb2
         | nil =>
          have : u = .slice none 0 0 := ha.1
          rw [this] at hb; cases hb
         | _ => cases hy
       | cel t =>
        have hn' : (ownIn (d' :: ds) cells).Nodup := by
         rcases v with _ | _ | _ | _ | _ | _ | _ | _ | _ | ⟨_, _ | _⟩ | _ | _ | _ | _ | _ <;> first | exact hn | exact (List.nodup_cons.1 hn).2
        cases hb : blockOf u with
        | none => simp only [ownB, hb]; exact ih ha.2 hz hn'
        | some r' =>
         simp only [ownB, hb]
         rw [List.nodup_cons]
         refine ⟨fun hm => ?_, ih ha.2 hz hn'⟩
         obtain ⟨b2, hb2, ⟨blk2, hf2, _⟩, hr2⟩ := ownB_in h ha.2 hz r' hm
         obtain ⟨b, rfl, cs, hf, hu⟩ := cel_box ha.1 hy
         rw [← hu] at hb
         have := h.inj b b2 _ _ r' hf hf2 hb hr2
         subst this
         exact (List.nodup_cons.1 hn).1 hb2
      ·cases hx
     ·cases hx
theorem frzN_other : ∀ {ns : List Nat} {st st' : St}, frzN st ns = some st' → ∀ b, b ∉ ns → st'.find b = st.find b
 | [], st, st', e, b, _ => by cases e; rfl
 | c :: ns, st, st', e, b, hb => by
  unfold frzN at e
  have h1 : b ≠ c := fun e => hb (by simp [e])
  have h2 : b ∉ ns := fun e => hb (by simp [e])
  split at e
  ·rename_i e' t l hf
   rw [frzN_other e b h2, St.find_cons, if_neg h1]
  ·rename_i e' t l hf
   exact frzN_other e b h2
  ·rename_i k v m hf
   rw [frzN_other e b h2, St.find_cons, if_neg h1]
  ·rename_i k v m hf
   exact frzN_other e b h2
  ·cases e
def avN : AV → Option Nat
 | .own b => some b
 | .box b 0 => some b
 | _ => none
def outBlk : (d : D1) → d.den → Option Blk
 | .own e t, l => some (.flat e t l)
 | .cel t, x => some (.cells (cellsAV t x))
 | .dat _, _ => none
theorem setOut1_ok {N : Nat → Prop} {d : D1} {x : d.den} {v : AV} {u : Value} {st st' : St} (hv : ∀ b, avN v = some b → u = hd b) (hp : P1 w' N d x u) (h : setOut1 st d x v = some st') :
  st'.n = st.n ∧ st'.get = st.get ∧ ∀ c, (st'.find c = st.find c ∧ avN v ≠ some c) ∨ (∃ blk, avN v = some c ∧ outBlk d x = some blk ∧ st'.find c = some blk ∧ P1 w' N d x (hd c)) := by
 have key : ∀ b blk, avN v = some b → outBlk d x = some blk → st.lay b blk = st' → st'.n = st.n ∧ st'.get = st.get ∧ ∀ c, (st'.find c = st.find c ∧ avN v ≠ some c) ∨ (∃ blk, avN v = some c ∧ outBlk d x = some blk ∧ st'.find c = some blk ∧ P1 w' N d x (hd c)) := by
  rintro b blk hb ho rfl
  refine ⟨rfl, rfl, fun c => ?_⟩
  by_cases e' : c = b
  ·subst e'
   exact .inr ⟨blk, hb, ho, by rw [St.find_cons, if_pos rfl], by rw [← hv c hb]; exact hp⟩
  ·exact .inl ⟨by rw [St.find_cons, if_neg e'], fun h => e' (by rw [hb] at h; exact (Option.some.inj h).symm)⟩
 cases d with
 | dat t => cases h
 | own e t =>
  cases v with
  | own b =>
   have h : some _ = some st' := h
   exact key b _ rfl rfl (Option.some.inj h)
  | nil =>
   have h : some st = some st' := h
   cases h
   exact ⟨rfl, rfl, fun c => .inl ⟨rfl, by simp [avN]⟩⟩
  | _ => cases h
 | cel t =>
  cases v with
  | box b i =>
   cases i with
   | zero =>
    have h : some _ = some st' := h
    exact key b _ rfl rfl (Option.some.inj h)
   | succ i => cases h
  | _ => cases h
theorem setOuts_ok {N : Nat → Prop} : ∀ {ds : List D1} {x : dens ds} {cells : List AV} {vs : List Value} {st st' : St}, All2 (fun v u => ∀ b, avN v = some b → u = hd b) cells vs → PL w' N ds x vs → setOuts st ds x cells = some st' →
  st'.n = st.n ∧ st'.get = st.get ∧ ∀ c, (st'.find c = st.find c ∧ ∀ v ∈ cells, avN v ≠ some c) ∨ (∃ d y v blk, (d, v) ∈ ds.zip cells ∧ avN v = some c ∧ outBlk d y = some blk ∧ st'.find c = some blk ∧ P1 w' N d y (hd c))
 | [], x, cells, vs, st, st', ha, hp, h => by
  cases cells with
  | nil =>
   have h : some st = some st' := h
   cases h
   exact ⟨rfl, rfl, fun c => .inl ⟨rfl, by simp⟩⟩
  | cons _ _ => cases h
 | [d], x, cells, vs, st, st', ha, hp, h => by
  have h : (match one? cells with | some v => setOut1 st d x v | none => none) = some st' := h
  split at h
  ·rename_i v hv
   obtain rfl := one?_some hv
   obtain ⟨u, rfl, hu⟩ := ha.one
   obtain ⟨u', e, hp⟩ := hp
   cases e
   obtain ⟨h1, h2, h3⟩ := setOut1_ok hu hp h
   refine ⟨h1, h2, fun c => ?_⟩
   rcases h3 c with ⟨q1, q2⟩ | ⟨blk, q1, q2⟩
   ·exact .inl ⟨q1, by simpa using q2⟩
   ·exact .inr ⟨d, x, v, blk, by simp, q1, q2⟩
  ·cases h
 | d :: d' :: ds, x, cells, vs, st, st', ha, hp, h => by
  cases cells with
  | nil => cases h
  | cons v cells => cases vs with
   | nil => exact ha.elim
   | cons u vs =>
    have h : (match setOut1 st d x.1 v with | some st => setOuts st (d' :: ds) x.2 cells | none => none) = some st' := h
    split at h
    ·rename_i st1 hst1
     obtain ⟨u', us', e, hp1, hp2⟩ := hp
     simp only [List.cons.injEq] at e
     obtain ⟨rfl, rfl⟩ := e
     obtain ⟨h1, h2, h3⟩ := setOut1_ok ha.1 hp1 hst1
     obtain ⟨q1, q2, q3⟩ := setOuts_ok ha.2 hp2 h
     refine ⟨q1.trans h1, q2.trans h2, fun c => ?_⟩
     rcases q3 c with ⟨p1, p2⟩ | ⟨d2, y, v2, blk, p1, p2⟩
     ·rcases h3 c with ⟨p3, p4⟩ | ⟨blk, p3, p4, p5, p6⟩
      ·refine .inl ⟨p1.trans p3, fun v' hv' => ?_⟩
       rcases List.mem_cons.1 hv' with rfl | hv'
       ·exact p4
       ·exact p2 v' hv'
      ·exact .inr ⟨d, x.1, v, blk, by simp, p3, p4, p1.trans p5, p6⟩
     ·exact .inr ⟨d2, y, v2, blk, by rw [List.zip_cons_cons]; exact List.mem_cons_of_mem _ p1, p2⟩
    ·cases h
theorem Rel.adoptB {us : List Nat} {b : Nat} {blk : Blk} {v : Value} {r : Option Nat} (h : Rel w0 M (fun q => X q ∨ q ∈ r.toList ++ us) hd st a w) (hf : st.find b = none) (hv : blockOf v = r)
  (hnew : ∀ q, r = some q → w0.heap.size ≤ q ∧ q ∉ us ∧ ¬ X q)
  (hrb : ∀ (N' : Nat → Prop) (hd' : Nat → Value) (f : Nat → Option Blk), (∀ q, N' q → ((X q ∨ q ∈ r.toList ++ us) ∨ Mine st.find hd q)) → hd' b = v → RB ⟨w, N', hd', f⟩ b blk) :
  Rel w0 M (fun q => X q ∨ q ∈ us) (fun c => if c = b then v else hd c) (st.lay b blk) a w ∧
  Goes some (st.cx (fun q => X q ∨ q ∈ r.toList ++ us) hd w) ((st.lay b blk).cx (fun q => X q ∨ q ∈ us) (fun c => if c = b then v else hd c) w) ∧
  (∀ q, ((X q ∨ q ∈ us) ∨ Mine (st.lay b blk).find (fun c => if c = b then v else hd c) q) → ((X q ∨ q ∈ r.toList ++ us) ∨ Mine st.find hd q)) := by
 have hne : ∀ c blk, st.find c = some blk → c ≠ b := fun c blk hc e => by rw [e, hf] at hc; cases hc
 have hmine : ∀ q, Mine (st.lay b blk).find (fun c => if c = b then v else hd c) q → Mine st.find hd q ∨ r = some q := by
  rintro q ⟨c, blk', hc, hl, hr⟩
  rw [St.find_cons] at hc
  by_cases e : c = b
  ·simp only [e, if_true] at hr
   exact .inr (hv.symm.trans hr)
  ·simp only [if_neg e] at hc hr
   exact .inl ⟨c, blk', hc, hl, hr⟩
 have hheld : ∀ q, Held (st.lay b blk).find (fun c => if c = b then v else hd c) q → Held st.find hd q ∨ r = some q := by
  rintro q ⟨c, blk', hc, hr⟩
  rw [St.find_cons] at hc
  by_cases e : c = b
  ·simp only [e, if_true] at hr
   exact .inr (hv.symm.trans hr)
  ·simp only [if_neg e] at hc hr
   exact .inl ⟨c, blk', hc, hr⟩
 have hN : ∀ q, ((X q ∨ q ∈ us) ∨ Mine (st.lay b blk).find (fun c => if c = b then v else hd c) q) → ((X q ∨ q ∈ r.toList ++ us) ∨ Mine st.find hd q) := by
  rintro q ((hx | hu) | hm)
  ·exact .inl (.inl hx)
  ·exact .inl (.inr (List.mem_append_right _ hu))
  ·rcases hmine q hm with h1 | h1
   ·exact .inr h1
   ·exact .inl (.inr (List.mem_append_left _ (by simp [h1])))
 have g : Goes some (st.cx (fun q => X q ∨ q ∈ r.toList ++ us) hd w) ((st.lay b blk).cx (fun q => X q ∨ q ∈ us) (fun c => if c = b then v else hd c) w) := by
  refine ⟨fun ad u hn hc => ⟨fun hq => hn (hN _ hq), hc⟩, ?_⟩
  intro c c' blk' hc hf'
  cases hc
  have := hne c blk' hf'
  refine ⟨blk', ?_, rfl, ?_⟩
  ·show St.find (St.lay _ _ _) _ = _
   rw [St.find_cons, if_neg this]; exact hf'
  ·show (if c = b then v else hd c) = hd c
   rw [if_neg this]
 refine ⟨⟨h.size, h.defers, fun q => Rt.go g (h.tmps q), ?_, ?_, h.frame, ?_, ?_, ?_⟩, g, hN⟩
 ·intro c blk' hc
  rw [St.find_cons] at hc
  by_cases e' : c = b
  ·subst e'
   rw [if_pos rfl] at hc
   cases hc
   exact hrb _ _ _ hN (by show (if c = c then v else _) = v; rw [if_pos rfl])
  ·rw [if_neg e'] at hc
   have := RB.ren g (c := st.cx (fun q => X q ∨ q ∈ r.toList ++ us) hd w) (b := c) (b' := c) (by show (if c = b then v else hd c) = hd c; rw [if_neg e']) (fun _ _ => rfl) (h.blocks c blk' hc)
   rw [Blk.ren_some] at this
   exact this
 ·intro c c' blk1 blk2 q h1 h2 hr1 hr2
  rw [St.find_cons] at h1 h2
  have far : ∀ c blk, st.find c = some blk → blockOf (hd c) = some q → r ≠ some q := by
   intro c blk hc hq e'
   exact (h.xfar q (.inr (List.mem_append_left _ (by simp [e'])))).2 ⟨c, blk, hc, hq⟩
  by_cases e1 : c = b <;> by_cases e2 : c' = b
  ·rw [e1, e2]
  ·simp only [e1, if_true] at hr1
   simp only [if_neg e2] at h2 hr2
   exact absurd (hv.symm.trans hr1) (far c' blk2 h2 hr2)
  ·simp only [e2, if_true] at hr2
   simp only [if_neg e1] at h1 hr1
   exact absurd (hv.symm.trans hr2) (far c blk1 h1 hr1)
  ·simp only [if_neg e1] at h1 hr1
   simp only [if_neg e2] at h2 hr2
   exact h.inj c c' blk1 blk2 q h1 h2 hr1 hr2
 ·intro q hq
  rcases hheld q hq with h1 | h1
  ·exact h.mine q h1
  ·exact .inr (hnew q h1).1
 ·intro i hi
  obtain ⟨h1, blk', h2⟩ := h.pins i hi
  have := hne i blk' h2
  exact ⟨by simp [this, h1], blk', by rw [St.find_cons, if_neg this]; exact h2⟩
 ·rintro q (hx | hu)
  ·obtain ⟨h1, h2⟩ := h.xfar q (.inl hx)
   refine ⟨h1, fun hh => ?_⟩
   rcases hheld q hh with h3 | h3
   ·exact h2 h3
   ·exact (hnew q h3).2.2 hx
  ·obtain ⟨h1, h2⟩ := h.xfar q (.inr (List.mem_append_right _ hu))
   refine ⟨h1, fun hh => ?_⟩
   rcases hheld q hh with h3 | h3
   ·exact h2 h3
   ·exact (hnew q h3).2.1 hu
theorem Rel.adopt {us : List Nat} {b : Nat} {e : TypeId} {t : Ty} {l : List t.den} {v : Value} {r : Option Nat} (h : Rel w0 M (fun q => X q ∨ q ∈ r.toList ++ us) hd st a w) (hf : st.find b = none) (hv : blockOf v = r)
  (hnew : ∀ q, r = some q → w0.heap.size ≤ q ∧ q ∉ us ∧ ¬ X q)
  (hown : ∃ xs, w.ownsRow 0 e t.size v (List.length l) xs ∧ Elems w (fun q => (X q ∨ q ∈ r.toList ++ us) ∨ Mine st.find hd q) t l xs) :
  Rel w0 M (fun q => X q ∨ q ∈ us) (fun c => if c = b then v else hd c) (st.lay b (.flat e t l)) a w ∧
  Goes some (st.cx (fun q => X q ∨ q ∈ r.toList ++ us) hd w) ((st.lay b (.flat e t l)).cx (fun q => X q ∨ q ∈ us) (fun c => if c = b then v else hd c) w) ∧
  (∀ q, ((X q ∨ q ∈ us) ∨ Mine (st.lay b (.flat e t l)).find (fun c => if c = b then v else hd c) q) → ((X q ∨ q ∈ r.toList ++ us) ∨ Mine st.find hd q)) := by
 refine h.adoptB hf hv hnew ?_
 intro N' hd' f hN hh
 obtain ⟨xs, h1, h2⟩ := hown
 exact ⟨xs, by show w.ownsRow 0 e t.size (hd' b) _ _; rw [hh]; exact h1, h2.move fun _ _ q hc => ⟨fun q' => q (hN _ q'), hc⟩⟩
end
end Go.V
end
section
namespace Go.V
open Go Go.RowKit
set_option linter.unusedVariables false
set_option linter.unusedSimpArgs false
section
variable {P : Program} {E : En} {R : Type} {w0 : World} {M : Mo} {X : Nat → Prop} {hd : Nat → Value} {st : St} {a : Act} {w w' : World}
variable {k : St → Option R} {r : R} {K : Act → World → Prop} {Q : Exit → Act → World → Prop} {o : Oper}
theorem Goes.trans {c1 c2 c3 : Cx} (g : Goes some c1 c2) (h : Goes some c2 c3) : Goes some c1 c3 := by
 refine ⟨fun ad v hn hc => ?_, fun b b' blk hb hf => ?_⟩
 ·obtain ⟨h1, h2⟩ := g.move ad v hn hc
  exact h.move ad v h1 h2
 ·cases hb
  obtain ⟨blk1, q1, q2, q3⟩ := g.name b b blk rfl hf
  obtain ⟨blk2, p1, p2, p3⟩ := h.name b b blk1 rfl q1
  exact ⟨blk2, p1, p2.trans q2, p3.trans q3⟩
theorem Goes.refl (c : Cx) : Goes some c c := ⟨fun _ _ hn hc => ⟨hn, hc⟩, fun b b' blk hb hf => by cases hb; exact ⟨blk, hf, rfl, rfl⟩⟩
theorem place1_ok {d : D1} {x : d.den} {us : List Nat} {v : Value} {nm : Nat} {c : AV} {st' : St} (h : Rel w0 M (fun q => X q ∨ q ∈ ownB [d] [v] ++ us) hd st a w)
  (hp : P1 w (fun q => (X q ∨ q ∈ ownB [d] [v] ++ us) ∨ Mine st.find hd q) d x v) (hn : (ownB [d] [v] ++ us).Nodup) (hf : ∀ q ∈ ownB [d] [v] ++ us, w0.heap.size ≤ q ∧ ¬ X q) (hs : place1 st nm d x = some (c, st')) :
  ∃ hd', Rel w0 M (fun q => X q ∨ q ∈ us) hd' st' a w ∧ R1 (st'.cx (fun q => X q ∨ q ∈ us) hd' w) c v ∧ Goes some (st.cx (fun q => X q ∨ q ∈ ownB [d] [v] ++ us) hd w) (st'.cx (fun q => X q ∨ q ∈ us) hd' w) ∧
   (∀ q, ((X q ∨ q ∈ us) ∨ Mine st'.find hd' q) → ((X q ∨ q ∈ ownB [d] [v] ++ us) ∨ Mine st.find hd q)) := by
 cases d with
 | dat t =>
  have hs : (match cellsAV t x with | [v] => some (v, st) | _ => none) = some (c, st') := hs
  split at hs
  ·rename_i u hu
   cases hs
   refine ⟨hd, h, ?_, Goes.refl _, fun q hq => hq⟩
   have hc := cellsAV_ok (c := st.cx (fun q => X q ∨ q ∈ us) hd w) (show Rc w _ t x [v] from hp)
   rw [hu] at hc
   exact R1.of0 hc.1
  ·cases hs
 | own e t =>
  have hs : (match st.alloc nm (.flat e t x) with | some st' => some (.own nm, st') | none => none) = some (c, st') := hs
  split at hs
  ·rename_i st1 hal
   cases hs
   obtain ⟨hfind, rfl⟩ := alloc_find hal
   have hlist : ownB [.own e t] [v] = (blockOf v).toList := by
    cases hb : blockOf v <;> simp [ownB, hb]
   rw [hlist] at h hp hn hf ⊢
   obtain ⟨xs, hown, hE⟩ := hp
   obtain ⟨h1, h2, h3⟩ := h.adopt (b := nm) (v := v) hfind rfl (fun q hq => ⟨(hf q (by simp [hq])).1, fun hm => by
    rw [hq] at hn; simp at hn; exact hn.1 hm, (hf q (by simp [hq])).2⟩) ⟨xs, hown, hE⟩
   refine ⟨_, h1, ?_, h2, h3⟩
   exact ⟨by show v = (if nm = nm then v else _); rw [if_pos rfl], owns_one hown, .flat e t x, e, t, List.length x, by show St.find (St.lay _ _ _) _ = _; rw [St.find_cons, if_pos rfl], rfl⟩
  ·cases hs
 | cel t =>
  have hs : (match st.alloc nm (.cells (cellsAV t x)) with | some st' => some (.box nm 0, st') | none => none) = some (c, st') := hs
  split at hs
  ·rename_i st1 hal
   cases hs
   obtain ⟨hfind, rfl⟩ := alloc_find hal
   have hlist : ownB [.cel t] [v] = (blockOf v).toList := by
    cases hb : blockOf v <;> simp [ownB, hb]
   rw [hlist] at h hp hn hf ⊢
   obtain ⟨r, vs, e, hve, hheap, hpos, hrc⟩ := hp
   obtain ⟨h1, h2, h3⟩ := h.adoptB (b := nm) (blk := .cells (cellsAV t x)) (v := v) hfind rfl (fun q hq => ⟨(hf q (by simp [hq])).1, fun hm => by
    rw [hq] at hn; simp at hn; exact hn.1 hm, (hf q (by simp [hq])).2⟩) (fun N' hd' f hN hh => ⟨r, vs, e, by show hd' nm = _; rw [hh, hve], hheap, (cellsAV_ok (c := ⟨w, N', hd', f⟩) (hrc.weaken hN)).mono fun _ _ => R1.of0⟩)
   refine ⟨_, h1, ?_, h2, h3⟩
   have hlen := (cellsAV_ok (c := ⟨w, _, hd, st.find⟩) hrc).length
   exact ⟨.cells (cellsAV t x), _, r, by show St.find (St.lay _ _ _) _ = _; rw [St.find_cons, if_pos rfl], rfl, by rw [hlen, hrc.length]; exact hpos, by show (if nm = nm then v else _) = _; rw [if_pos rfl, hve], hve⟩
  ·cases hs
theorem ownB_cons (d : D1) (ds : List D1) (v : Value) (vs : List Value) : ownB (d :: ds) (v :: vs) = ownB [d] [v] ++ ownB ds vs := by
 cases d with
 | dat t => simp [ownB]
 | own e t => cases h : blockOf v <;> simp [ownB, h]
 | cel t => cases h : blockOf v <;> simp [ownB, h]
theorem placeL_ok : ∀ {ds : List D1} {x : dens ds} {vals : List Value} {nm : Nat} {hd : Nat → Value} {st st' : St} {cs : List AV}, Rel w0 M (fun q => X q ∨ q ∈ ownB ds vals) hd st a w →
  PL w (fun q => (X q ∨ q ∈ ownB ds vals) ∨ Mine st.find hd q) ds x vals → (ownB ds vals).Nodup → (∀ q ∈ ownB ds vals, w0.heap.size ≤ q ∧ ¬ X q) → placeL st nm ds x = some (cs, st') →
  ∃ hd', Rel w0 M X hd' st' a w ∧ All2 (R1 (st'.cx X hd' w)) cs vals ∧ Goes some (st.cx (fun q => X q ∨ q ∈ ownB ds vals) hd w) (st'.cx X hd' w)
 | [], x, vals, nm, hd, st, st', cs, h, hp, hn, hf, hs => by
  have e : vals = [] := hp
  subst e
  cases hs
  have e : (fun q => X q ∨ q ∈ ownB [] []) = X := by funext q; simp [ownB]
  rw [e] at h ⊢
  exact ⟨hd, h, trivial, Goes.refl _⟩
 | [d], x, vals, nm, hd, st, st', cs, h, hp, hn, hf, hs => by
  obtain ⟨v, rfl, hp⟩ := hp
  have hs : (match place1 st nm d x with | some (v, st) => some ([v], st) | none => none) = some (cs, st') := hs
  split at hs
  ·rename_i c st1 h1
   cases hs
   have e0 : ownB [d] [v] = ownB [d] [v] ++ [] := by simp
   rw [e0] at h hp hn hf ⊢
   obtain ⟨hd', q1, q2, q3, _⟩ := place1_ok h hp hn hf h1
   have e : (fun q => X q ∨ q ∈ ([] : List Nat)) = X := by funext q; simp
   rw [e] at q1 q2 q3
   exact ⟨hd', q1, ⟨q2, trivial⟩, q3⟩
  ·cases hs
 | d :: d' :: ds, x, vals, nm, hd, st, st', cs, h, hp, hn, hf, hs => by
  obtain ⟨v, us, rfl, hp1, hp2⟩ := hp
  have hs : (match place1 st nm d x.1 with
   | some (v, st) => match placeL st (nm + 1) (d' :: ds) x.2 with
    | some (vs, st) => some (v :: vs, st)
    | none => none
   | none => none) = some (cs, st') := hs
  rw [ownB_cons] at h hp1 hp2 hn hf ⊢
  split at hs
  ·rename_i c st1 h1
   split at hs
   ·rename_i cs' st2 h2
    cases hs
    obtain ⟨hd1, q1, q2, q3, q4⟩ := place1_ok h hp1 hn hf h1
    obtain ⟨hd2, p1, p2, p3⟩ := placeL_ok (ds := d' :: ds) q1 (hp2.weaken q4) (List.nodup_append.1 hn).2.1 (fun q hq => hf q (List.mem_append_right _ hq)) h2
    exact ⟨hd2, p1, ⟨R1.go p3 q2, p2⟩, q3.trans p3⟩
   ·cases hs
  ·cases hs
theorem compsA_ok {c : Cx} : ∀ {rs : List (Bool × List D1)} {cs : List AV} {vs : List Value} {us : List Value} {vals : List AV}, All2 (R1 c) cs us → CompsV rs vs us → compsA rs cs = some vals → All2 (Ra c) vals vs
 | [], [], vs, us, vals, ha, hc, h => by
  obtain ⟨rfl, rfl⟩ := hc
  cases h
  trivial
 | [], _ :: _, vs, us, vals, ha, hc, h => by cases h
 | (true, ds) :: rs, cs, vs, us, vals, ha, hc, h => by
  obtain ⟨us1, vs', cs', rfl, hl, rfl, hc'⟩ := hc
  have h : (match compsA rs (cs.drop ds.length) with | some l => some (AV.agg (cs.take ds.length) :: l) | none => none) = some vals := h
  split at h
  ·rename_i l hl'
   cases h
   have h1 := ha.take ds.length
   have h2 := ha.drop ds.length
   rw [← hl, List.take_left] at h1
   rw [← hl, List.drop_left] at h2
   rw [← hl]
   exact ⟨⟨us1, rfl, h1⟩, compsA_ok h2 hc' (by rw [hl]; exact hl')⟩
  ·cases h
 | (false, ds) :: rs, cs, vs, us, vals, ha, hc, h => by
  obtain ⟨v, vs', cs', hl, rfl, h1, rfl, hc'⟩ := hc
  match ds, hl with
  | [d], _ =>
   cases cs with
   | nil => exact ha.elim
   | cons c' cs =>
    have h : (match compsA rs cs with | some l => some (c' :: l) | none => none) = some vals := h
    split at h
    ·rename_i l hl'
     cases h
     exact ⟨Ra.of1 ha.1, compsA_ok ha.2 hc' hl'⟩
    ·cases h
end
end Go.V
end
section
namespace Go.V
open Go Go.RowKit
set_option linter.unusedVariables false
set_option linter.unusedSimpArgs false
section
variable {P : Program} {E : En} {R : Type} {w0 : World} {M : Mo} {X : Nat → Prop} {hd : Nat → Value} {st : St} {a : Act} {w w' : World}
variable {k : St → Option R} {r : R} {K : Act → World → Prop} {Q : Exit → Act → World → Prop} {o : Oper}
theorem CompsV.length : ∀ {ps : List (Bool × List D1)} {vs cs : List Value}, CompsV ps vs cs → cs.length = (flatC ps).length
 | [], _, _, ⟨_, h⟩ => by rw [h]; rfl
 | (true, ds) :: ps, _, _, ⟨us, vs', cs', _, hl, e, h⟩ => by
  rw [e, List.length_append, CompsV.length h, hl]; simp [flatC]
 | (false, ds) :: ps, _, _, ⟨v, vs', cs', hl, _, _, e, h⟩ => by
  rw [e, List.length_cons, CompsV.length h]; simp [flatC, hl]; omega
theorem owns_len {base base' : Nat} {e e' : TypeId} {s s' : Nat} {v : Value} {n n' : Nat} {xs xs' : List Value} (h : w.ownsRow base e s v n xs) (h' : w'.ownsRow base' e' s' v n' xs') : n = n' := by
 rcases h.2 with ⟨rfl, rfl⟩ | ⟨g, c, _, rfl, _⟩ <;> rcases h'.2 with ⟨e1, e2⟩ | ⟨g', c', _, e1, _⟩ <;> simp_all
def Kind (d : D1) (blk : Blk) : Prop :=
 match d with
 | .own e t => ∃ l, blk = .flat e t l
 | .cel t => ∃ cs, blk = .cells cs ∧ cs.length = t.size ∧ 0 < t.size
 | .dat _ => False
theorem own_at {ds : List D1} : ∀ {x : dens ds} {cells : List AV}, readL st ds cells = some x → ∀ {d : D1} {v : AV} {c : Nat}, (d, v) ∈ ds.zip cells → d.isOwn = true → avN v = some c → c ∈ ownIn ds cells ∧ ∃ blk, st.find c = some blk ∧ Kind d blk := by
 have one : ∀ {d : D1} {x : d.den} {v : AV} {c : Nat}, read1 st d v = some x → d.isOwn = true → avN v = some c → (∀ ds cells, c ∈ ownIn (d :: ds) (v :: cells)) ∧ ∃ blk, st.find c = some blk ∧ Kind d blk := by
  intro d x v c hx hd hv
  cases d with
  | dat t => cases hd
  | own e t =>
   cases v with
   | own b =>
    cases hv
    refine ⟨fun ds cells => by simp [ownIn], ?_⟩
    simp only [read1] at hx
    split at hx
    ·rename_i e' s l hf
     split at hx
     ·rename_i he
      have he := Nat.eq_of_beq_eq_true he
      subst he
      obtain ⟨h1, h2⟩ := cast?_some hx
      cases h1
      exact ⟨_, hf, l, rfl⟩
     ·cases hx
    ·cases hx
   | nil => cases hv
   | _ => cases hx
  | cel t =>
   cases v with
   | box b i =>
    cases i with
    | succ i => cases hx
    | zero =>
     cases hv
     refine ⟨fun ds cells => by simp [ownIn], ?_⟩
     have hx : celD st t (st.find c) = some x := hx
     cases hf : st.find c with
     | none => rw [hf] at hx; cases hx
     | some blk =>
      rw [hf] at hx
      cases blk with
      | cells cs =>
       simp only [celD] at hx
       split at hx
       ·rename_i h1 h2 h3
        exact ⟨_, rfl, cs, rfl, Nat.eq_of_beq_eq_true h1, by simpa [Nat.blt_eq] using h3⟩
       ·cases hx
      | _ => cases hx
   | _ => cases hx
 have sub : ∀ {d : D1} {ds : List D1} {v : AV} {cells : List AV} {c : Nat}, c ∈ ownIn ds cells → c ∈ ownIn (d :: ds) (v :: cells) := by
  intro d ds v cells c h
  cases d with
  | dat t => exact h
  | own e t => cases v <;> first | exact h | exact List.mem_cons_of_mem _ h
  | cel t => rcases v with _ | _ | _ | _ | _ | _ | _ | _ | _ | ⟨_, _ | _⟩ | _ | _ | _ | _ | _ <;> first | exact h | exact List.mem_cons_of_mem _ h
 induction ds with
 | nil => intro x cells _ d v c h; simp at h
 | cons d ds ih =>
  intro x cells hx d1 v1 c h hd hv1
  cases ds with
  | nil =>
   have hx : (match one? cells with | some v => read1 st d v | none => none) = some x := hx
   split at hx
   ·rename_i v hv
    obtain rfl := one?_some hv
    simp at h
    obtain ⟨rfl, rfl⟩ := h
    obtain ⟨h1, h2⟩ := one hx hd hv1
    exact ⟨h1 _ _, h2⟩
   ·cases hx
  | cons d' ds =>
   cases cells with
   | nil => cases hx
   | cons v cells =>
    have hx : (match read1 st d v with
     | some x => match readL st (d' :: ds) cells with
      | some y => some (x, y)
      | none => none
     | none => none) = some x := hx
    split at hx
    ·rename_i y hy
     split at hx
     ·rename_i z hz
      rw [List.zip_cons_cons, List.mem_cons] at h
      rcases h with h | h
      ·simp only [Prod.mk.injEq] at h
       obtain ⟨rfl, rfl⟩ := h
       obtain ⟨h1, h2⟩ := one hy hd hv1
       exact ⟨h1 _ _, h2⟩
      ·obtain ⟨h1, h2⟩ := ih hz h hd hv1
       exact ⟨sub h1, h2⟩
     ·cases hx
    ·cases hx
theorem outs_zip : ∀ {ds : List D1} {cells : List AV} {p : D1 × AV}, p ∈ (ds.filter (·.isOwn)).zip (ownCells ds cells) → p ∈ ds.zip cells ∧ p.1.isOwn = true
 | [], _, _, h => by simp at h
 | .own e t :: ds, [], _, h => by simp [ownCells] at h
 | .cel t :: ds, [], _, h => by simp [ownCells] at h
 | .dat t :: ds, [], p, h => by simp [ownCells] at h
 | .own e t :: ds, v :: cells, p, h => by
  simp only [List.filter_cons, D1.isOwn, if_true, ownCells, List.zip_cons_cons, List.mem_cons] at h
  rw [List.zip_cons_cons, List.mem_cons]
  rcases h with rfl | h
  ·exact ⟨.inl rfl, rfl⟩
  ·exact ⟨.inr (outs_zip h).1, (outs_zip h).2⟩
 | .cel t :: ds, v :: cells, p, h => by
  simp only [List.filter_cons, D1.isOwn, if_true, ownCells, List.zip_cons_cons, List.mem_cons] at h
  rw [List.zip_cons_cons, List.mem_cons]
  rcases h with rfl | h
  ·exact ⟨.inl rfl, rfl⟩
  ·exact ⟨.inr (outs_zip h).1, (outs_zip h).2⟩
 | .dat t :: ds, v :: cells, p, h => by
  rw [List.filter_cons_of_neg (by simp [D1.isOwn])] at h
  rw [List.zip_cons_cons, List.mem_cons]
  exact ⟨.inr (outs_zip (ds := ds) (cells := cells) h).1, (outs_zip (ds := ds) (cells := cells) h).2⟩
theorem ownIn_cells : ∀ {ds : List D1} {cells : List AV} {b : Nat}, b ∈ ownIn ds cells → ∃ v ∈ ownCells ds cells, avN v = some b
 | [], _, b, h => by simp [ownIn] at h
 | .own e t :: ds, [], b, h => by simp [ownIn] at h
 | .cel t :: ds, [], b, h => by simp [ownIn] at h
 | .dat t :: ds, [], b, h => by simp [ownIn] at h
 | .dat t :: ds, v :: cells, b, h => ownIn_cells (ds := ds) (cells := cells) h
 | .own e t :: ds, v :: cells, b, h => by
  have h' : (∃ b', v = .own b' ∧ (b = b' ∨ b ∈ ownIn ds cells)) ∨ b ∈ ownIn ds cells := by
   cases v <;> first | (left; exact ⟨_, rfl, by simpa [ownIn] using h⟩) | (right; exact h)
  rcases h' with ⟨b', rfl, rfl | h⟩ | h
  ·exact ⟨_, List.mem_cons_self, rfl⟩
  ·obtain ⟨u, h1, h2⟩ := ownIn_cells h
   exact ⟨u, List.mem_cons_of_mem _ h1, h2⟩
  ·obtain ⟨u, h1, h2⟩ := ownIn_cells h
   exact ⟨u, List.mem_cons_of_mem _ h1, h2⟩
 | .cel t :: ds, v :: cells, b, h => by
  have h' : (∃ b', v = .box b' 0 ∧ (b = b' ∨ b ∈ ownIn ds cells)) ∨ b ∈ ownIn ds cells := by
   rcases v with _ | _ | _ | _ | _ | _ | _ | _ | _ | ⟨_, _ | _⟩ | _ | _ | _ | _ | _ <;> first | (left; exact ⟨_, rfl, by simpa [ownIn] using h⟩) | (right; exact h)
  rcases h' with ⟨b', rfl, rfl | h⟩ | h
  ·exact ⟨_, List.mem_cons_self, rfl⟩
  ·obtain ⟨u, h1, h2⟩ := ownIn_cells h
   exact ⟨u, List.mem_cons_of_mem _ h1, h2⟩
  ·obtain ⟨u, h1, h2⟩ := ownIn_cells h
   exact ⟨u, List.mem_cons_of_mem _ h1, h2⟩
theorem avN_hd {c : Cx} {v : AV} {u : Value} (h : R1 c v u) : ∀ b, avN v = some b → u = c.hd b := by
 intro b e
 cases v with
 | own b' => cases e; exact h.1
 | box b' i =>
  cases i with
  | zero =>
   cases e
   obtain ⟨_, _, _, _, _, _, h1, h2⟩ := h
   rw [h1, h2]
  | succ i => cases e
 | _ => cases e
theorem own_vals {c : Cx} : ∀ {ds : List D1} {cells : List AV} {vs : List Value}, All2 (R1 c) cells vs → All2 (fun v u => ∀ b, avN v = some b → u = c.hd b) (ownCells ds cells) (ownV ds vs)
 | [], _, _, _ => trivial
 | .own e t :: ds, [], [], _ => trivial
 | .cel t :: ds, [], [], _ => trivial
 | .dat t :: ds, [], [], _ => trivial
 | .own e t :: ds, v :: cells, u :: vs, h => ⟨avN_hd h.1, own_vals h.2⟩
 | .cel t :: ds, v :: cells, u :: vs, h => ⟨avN_hd h.1, own_vals h.2⟩
 | .dat t :: ds, v :: cells, u :: vs, h => own_vals (ds := ds) h.2
 | _ :: _, [], _ :: _, h => h.elim
 | _ :: _, _ :: _, [], h => h.elim
theorem kind_shape {N : Nat → Prop} {d : D1} {y : d.den} {blk blk0 : Blk} {c : Nat} (h : RB (st.cx X hd w) c blk0) (hk : Kind d blk0) (ho : outBlk d y = some blk) (hp : P1 w' N d y (hd c)) : blk.shape = blk0.shape ∧ blk.live = true ∧ blk0.live = true := by
 cases d with
 | dat t => cases ho
 | own e t =>
  cases ho
  obtain ⟨l, rfl⟩ := hk
  obtain ⟨xs, h1, _⟩ := hp
  obtain ⟨xs0, h2, _⟩ := h
  exact ⟨by simp only [Blk.shape]; rw [owns_len h1 h2], rfl, rfl⟩
 | cel t =>
  cases ho
  obtain ⟨cs, rfl, hl, _⟩ := hk
  obtain ⟨r, vs, e, _, _, _, hrc⟩ := hp
  have hlen := (cellsAV_ok (c := ⟨w', N, hd, st.find⟩) hrc).length
  exact ⟨by simp only [Blk.shape]; rw [hlen, hrc.length, hl], rfl, rfl⟩
theorem out_RB {N : Nat → Prop} {d : D1} {y : d.den} {blk : Blk} {c : Nat} {c1 : Cx} (hw : c1.w = w') (hN : ∀ q, c1.N q → N q) (ho : outBlk d y = some blk) (hp : P1 w' N d y (c1.hd c)) : RB c1 c blk := by
 subst hw
 cases d with
 | dat t => cases ho
 | own e t =>
  cases ho
  obtain ⟨xs, h1, h2⟩ := hp
  exact ⟨xs, h1, h2.move fun _ _ q hc => ⟨fun q' => q (hN _ q'), hc⟩⟩
 | cel t =>
  cases ho
  obtain ⟨r, vs, e, h1, h2, _, hrc⟩ := hp
  exact ⟨r, vs, e, h1, h2, (cellsAV_ok (c := c1) (hrc.weaken hN)).mono fun _ _ => R1.of0⟩
theorem callK_ok {nm : Nat} {f : FuncId} {S : Does} (hgl : Gl P w0 M.blocks) (hm : Meets P f S) {cells : List AV} {vcells vargs : List Value} {dst : Option Tmp} {x : dens (flatC S.ps)} (h : Rel w0 M X hd st a w) (hcomps : CompsV S.ps vargs vcells)
  (ha : All2 (R1 (st.cx X hd w)) cells vcells) (hx : readL st (flatC S.ps) cells = some x) (hk : Next w0 M X k r K) (hr : callK nm S cells st dst x k = some r) :
  Calls P f vargs.toArray w fun e w' => ∃ v, e = .returned v ∧ K (a.put dst v) w' := by
 unfold callK at hr
 split at hr
 ·cases hr
 ·rename_i rch hsep
  obtain ⟨y, hy, hr⟩ := Option.bind_eq_some_iff.1 hr
  obtain ⟨s1, s2, s3, s4⟩ := sepK_ok hsep
  -- what the callee stays away from
  obtain ⟨Xc, hXc⟩ : ∃ Xc : Nat → Prop, Xc = fun q => (X q ∨ Mine st.find hd q) ∧ (∀ b ∈ rch, ∀ blk, st.find b = some blk → blockOf (hd b) ≠ some q) ∧ q ∉ ownB (flatC S.ps) vcells := ⟨_, rfl⟩
  have hown := ownB_in h ha hx
  have hclear : Clear st X hd w (fun q => Xc q ∨ q ∈ ownB (flatC S.ps) vcells) (fun b => b ∈ rch ∧ ∃ blk, st.find b = some blk) := by
   refine ⟨?_, ?_, ?_⟩
   ·rintro q (hq | hq)
    ·rw [hXc] at hq; exact hq.1
    ·obtain ⟨b, _, ⟨blk, hf, hl⟩, hb⟩ := hown q hq
     exact .inr ⟨b, _, hf, hl, hb⟩
   ·rintro b q ⟨hb, blk, hf⟩ hq (hx' | hx')
    ·rw [hXc] at hx'; exact hx'.2.1 b hb blk hf hq
    ·obtain ⟨b', hb', ⟨blk', hf', _⟩, hq'⟩ := hown q hx'
     have := h.inj b b' _ _ q hf hf' hq hq'
     subst this
     exact s4 b hb hb'
   ·rintro b cs ⟨hb, _⟩ hf c hc
    refine ⟨s2 b hb c (by rw [hf]; exact hc), ?_⟩
    obtain ⟨r', vs', e', _, _, hcs⟩ := h.blocks b _ hf
    exact namesL1 hcs c hc
  have hpl := readL_ok h hclear ha (fun b hb => ⟨s1 b hb, datNames_found ha b hb⟩) hx
  refine (hm.calls w Xc vargs vcells x y hcomps ?_ hpl (ownB_nodup h ha hx s3) (hgl.move h.frame fun q hq => by obtain ⟨b, _, ⟨blk, hf, _⟩, hb⟩ := hown q hq; exact h.mine q ⟨b, _, hf, hb⟩) hy).mono ?_
  ·intro q hq
   rw [hXc] at hq
   refine ⟨?_, hq.2.2⟩
   rcases hq.1 with h1 | h1
   ·exact (h.xfar q h1).1
   ·exact h.mine_lt h1
  ·rintro e w' ⟨v, vs, rcells, he, hg, hcv, hfr, hres, hnd, hnew⟩
   refine ⟨v, he, ?_⟩
   obtain ⟨hres, houts⟩ := PL.split hcv.length hres
   -- the state before the results: some rows frozen
   have hst1 : ∃ st1, frzIf ((flatC S.rs ++ outsC S.ps).all (·.apart)) st rch = some st1 ∧ Rel w0 M X hd st1 a w ∧ Goes some (st.cx X hd w) (st1.cx X hd w) ∧
     (∀ b ∈ ownIn (flatC S.ps) cells, st1.find b = st.find b) ∧ (∀ b blk, st1.find b = some blk → blk.live = true → st.find b = some blk) ∧ (∀ b blk, st1.find b = some blk → ∃ blk', st.find b = some blk' ∧ blk'.shape = blk.shape) ∧
     PL w' (fun q => (X q ∨ q ∈ ownB (flatC S.rs) rcells) ∨ Mine st1.find hd q) (flatC S.rs) (splitD (flatC S.rs) (outsC S.ps) y).1 rcells ∧
     PL w' (fun q => (X q ∨ q ∈ ownB (flatC S.rs) rcells) ∨ Mine st1.find hd q) (outsC S.ps) (splitD (flatC S.rs) (outsC S.ps) y).2 (ownV (flatC S.ps) vcells) := by
    cases hap : (flatC S.rs ++ outsC S.ps).all (·.apart) with
    | true =>
     rw [List.all_append, Bool.and_eq_true] at hap
     exact ⟨st, rfl, h, Goes.refl _, fun _ _ => rfl, fun b blk hb _ => hb, fun b blk hb => ⟨blk, hb, rfl⟩, hres.apart hap.1, houts.apart hap.2⟩
    | false =>
     rw [hap] at hr
     cases hfz : frzN st rch with
     | none => rw [show frzIf false st rch = none from hfz] at hr; cases hr
     | some st1 =>
      obtain ⟨h1, hfr1, _, _, _, h7, h8⟩ := frzN_ok h hfz
      have hsub : ∀ q, ((X q ∨ q ∈ ownB (flatC S.rs) rcells) ∨ Mine st1.find hd q) → (Xc q ∨ q ∈ ownB (flatC S.ps) vcells ∨ q ∈ ownB (flatC S.rs) rcells) := by
       rintro q ((hq | hq) | hq)
       ·left
        rw [hXc]
        refine ⟨.inl hq, fun b hb blk hf hbq => (h.xfar q hq).2 ⟨b, blk, hf, hbq⟩, fun hm' => ?_⟩
        obtain ⟨b, _, ⟨blk, hf, _⟩, hb⟩ := hown q hm'
        exact (h.xfar q hq).2 ⟨b, _, hf, hb⟩
       ·exact .inr (.inr hq)
       ·by_cases hm' : q ∈ ownB (flatC S.ps) vcells
        ·exact .inr (.inl hm')
        ·left
         rw [hXc]
         obtain ⟨b, blk, hf, hl, hb⟩ := hq
         refine ⟨.inr ⟨b, blk, h8 b blk hf hl, hl, hb⟩, fun b' hb' blk' hf' hbq => ?_, hm'⟩
         have := h.inj b b' _ _ q (h8 b blk hf hl) hf' hb hbq
         subst this
         obtain ⟨blk0, hfz', hnl, _⟩ := (hfr1 b hb').find
         rw [hf] at hfz'
         cases hfz'
         rw [hnl] at hl
         cases hl
      refine ⟨st1, hfz, h1, frzN_goes h hfz, fun b hb => frzN_other hfz b (fun hb' => s4 b hb' hb), h8, ?_, hres.weaken hsub, houts.weaken hsub⟩
      intro b blk hb
      by_cases hbr : b ∈ rch
      ·cases hfb : st.find b with
       | none =>
        exfalso
        have := frzN_none hfz b hfb
        rw [this] at hb; cases hb
       | some blk' =>
        obtain ⟨blk2, q1, q2⟩ := h7 b blk' hfb
        rw [hb] at q1
        cases q1
        exact ⟨blk', rfl, q2.symm⟩
      ·exact ⟨blk, by rw [← frzN_other hfz b hbr]; exact hb, rfl⟩
   obtain ⟨st1, e1, h1, g1, hsame, hlive, hshape, hres, houts⟩ := hst1
   rw [e1] at hr
   simp only at hr
   split at hr
   ·cases hr
   ·rename_i st2 hso
    obtain ⟨o1, o2, o3⟩ := setOuts_ok (own_vals (ds := flatC S.ps) (ha.mono fun _ _ => R1.go g1)) houts hso
    have hflat : ∀ {d : D1} {v : AV} {c : Nat}, (d, v) ∈ (outsC S.ps).zip (ownCells (flatC S.ps) cells) → avN v = some c → c ∈ ownIn (flatC S.ps) cells ∧ ∃ blk, st.find c = some blk ∧ st1.find c = some blk ∧ Kind d blk := by
     intro d v c hz hv
     obtain ⟨z1, z2⟩ := outs_zip hz
     obtain ⟨hi, blk, hl, hk'⟩ := own_at hx z1 z2 hv
     exact ⟨hi, blk, hl, (hsame c hi).trans hl, hk'⟩
    have hfind2 : ∀ c blk, st2.find c = some blk → ∃ blk1, st1.find c = some blk1 ∧ blk.shape = blk1.shape ∧ blk.live = blk1.live := by
     intro c blk hc
     rcases o3 c with ⟨p1, _⟩ | ⟨d, y, v, blk', p1, pv, p2, p3, p4⟩
     ·exact ⟨blk, by rw [← p1]; exact hc, rfl, rfl⟩
     ·obtain ⟨_, blk0, hl0, hl1, hkd⟩ := hflat p1 pv
      rw [p3] at hc
      cases hc
      obtain ⟨k1, k2, k3⟩ := kind_shape (h.blocks c _ hl0) hkd p2 p4
      exact ⟨_, hl1, k1, k2.trans k3.symm⟩
    have hmine2 : ∀ q, Mine st2.find hd q → Mine st1.find hd q := by
     rintro q ⟨c, blk, hf, hl, hb⟩
     obtain ⟨blk1, q1, _, q3⟩ := hfind2 c blk hf
     exact ⟨c, blk1, q1, q3 ▸ hl, hb⟩
    have hheld2 : ∀ q, Held st2.find hd q → Held st1.find hd q := by
     rintro q ⟨c, blk, hf, hb⟩
     obtain ⟨blk1, q1, _, _⟩ := hfind2 c blk hf
     exact ⟨c, blk1, q1, hb⟩
    have hinM : ∀ q, q ∈ ownB (flatC S.ps) vcells → Mine st1.find hd q := by
     intro q hq
     obtain ⟨b, hb, ⟨blk, hf, hl⟩, hbq⟩ := hown q hq
     exact ⟨b, _, (hsame b hb).trans hf, hl, hbq⟩
    have hsize := hfr.size
    have g2 : Goes some (st1.cx X hd w) (st2.cx (fun q => X q ∨ q ∈ ownB (flatC S.rs) rcells) hd w') := by
     refine ⟨?_, ?_⟩
     ·intro ad u hn hc
      have hlt : ad < w.heap.size := (Array.getElem?_eq_some_iff.1 hc).1
      refine ⟨?_, ?_⟩
      ·rintro ((hq | hq) | hq)
       ·exact hn (.inl hq)
       ·have := hnew _ hq; omega
       ·exact hn (.inr (hmine2 _ hq))
      ·exact (hfr.block _ hlt fun hq => hn (.inr (hinM _ hq))).trans hc
     ·intro c c' blk hc hf
      cases hc
      have hf : st1.find c = some blk := hf
      rcases o3 c with ⟨p1, _⟩ | ⟨d, y, v, blk', p1, pv, p2, p3, p4⟩
      ·exact ⟨blk, p1.trans hf, rfl, rfl⟩
      ·obtain ⟨_, blk0, hl0, hl1, hkd⟩ := hflat p1 pv
       rw [hl1] at hf
       cases hf
       exact ⟨_, p3, (kind_shape (h.blocks c _ hl0) hkd p2 p4).1, rfl⟩
    have h2 : Rel w0 M (fun q => X q ∨ q ∈ ownB (flatC S.rs) rcells) hd st2 a w' := by
     refine h1.turnX some o1 (fun t => .inl (by rw [AV.ren_some]; exact St.get_same o2 t)) g2 ⟨hfr.os, hfr.tape, hfr.output, hfr.size, fun q hq hn => hfr.block q hq fun hm' => hn (hinM q hm')⟩ ?_ ?_ (fun q hq => .inl (hheld2 q hq)) ?_ ?_
     ·intro c blk hc
      rcases o3 c with ⟨p1, p2⟩ | ⟨d, y, v, blk', p1, pv, p2, p3, p4⟩
      ·refine .inl ⟨c, blk, by rw [← p1]; exact hc, (Blk.ren_some _).symm, rfl, fun q hq => ?_⟩
       have hf1 : st1.find c = some blk := by rw [← p1]; exact hc
       refine hfr.block q (h1.lt hf1 hq) fun hm' => ?_
       obtain ⟨b, hb, ⟨blk', hf, _⟩, hbq⟩ := hown q hm'
       have := h1.inj c b _ _ q hf1 ((hsame b hb).trans hf) hq hbq
       subst this
       obtain ⟨v, hv1, hv2⟩ := ownIn_cells hb
       exact p2 v hv1 hv2
      ·rw [p3] at hc
       cases hc
       exact .inr (out_RB rfl (fun q hq => hq.imp id (hmine2 q)) p2 p4)
     ·intro c c' blk1 blk2 q q1 q2 q3 q4
      obtain ⟨b1, p1, _⟩ := hfind2 c blk1 q1
      obtain ⟨b2, p2, _⟩ := hfind2 c' blk2 q2
      exact h1.inj c c' b1 b2 q p1 p2 q3 q4
     ·intro i hi
      refine ⟨rfl, ?_⟩
      obtain ⟨_, blk, hi'⟩ := h1.pins i hi
      rcases o3 i with ⟨p1, _⟩ | ⟨d, y, v, blk', _, _, _, p3, _⟩
      ·exact ⟨blk, p1.trans hi'⟩
      ·exact ⟨_, p3⟩
     ·rintro q (hq | hq)
      ·refine ⟨Nat.lt_of_lt_of_le (h1.xfar q hq).1 hsize, fun hh => (h1.xfar q hq).2 (hheld2 q hh)⟩
      ·refine ⟨ownB_lt hres q hq, fun hh => ?_⟩
       obtain ⟨b, blk, hf, hb⟩ := hheld2 q hh
       have := h1.lt hf hb
       have := hnew q hq
       omega
    split at hr
    ·cases hr
    ·rename_i cs st3 hpl3
     obtain ⟨hd3, h3, ha3, _⟩ := placeL_ok h2 (hres.weaken fun q hq => hq.imp id (hmine2 q)) hnd (fun q hq => ⟨Nat.le_trans h.frame.size (hnew q hq), fun hxq => by have := (h.xfar q hxq).1; have := hnew q hq; omega⟩) hpl3
     split at hr
     ·rename_i v1 hcomp
      have hv := compsA_ok ha3 hcv hcomp
      obtain ⟨u, rfl, hu⟩ := hv.one
      have hg : v = u := hg
      rw [hg]
      exact put_ok h3 (Rt.ofa hu) hk hr
     ·rename_i vs1 hne hcomp
      have hv := compsA_ok ha3 hcv hcomp
      have hg' : v = .tuple vs.toArray := by
       have hlen := hv.length
       match vs, hg with
       | [], hg => exact hg
       | [u], hg =>
        match vs1, hlen with
        | [v1], _ => exact absurd rfl (hne v1)
       | _ :: _ :: _, hg => exact hg
      rw [hg']
      exact put_ok h3 (v := .tup vs1) ⟨vs, rfl, hv⟩ hk hr
     ·cases hr
where
 frzN_none : ∀ {ns : List Nat} {st st' : St}, frzN st ns = some st' → ∀ b, st.find b = none → st'.find b = none := by
  intro ns
  induction ns with
  | nil => intro st st' e b hb; cases e; exact hb
  | cons c ns ih =>
   intro st st' e b hb
   unfold frzN at e
   split at e
   ·rename_i e' t l hf
    refine ih e b ?_
    rw [St.find_cons]
    split
    ·rename_i e2; subst e2; rw [hb] at hf; cases hf
    ·exact hb
   ·exact ih e b hb
   ·rename_i kt vt m hf
    refine ih e b ?_
    rw [St.find_cons]
    split
    ·rename_i e2; subst e2; rw [hb] at hf; cases hf
    ·exact hb
   ·exact ih e b hb
   ·cases e
 ownB_lt : ∀ {N : Nat → Prop} {ds : List D1} {x : dens ds} {vs : List Value} {w : World}, PL w N ds x vs → ∀ q ∈ ownB ds vs, q < w.heap.size := by
  intro N ds
  induction ds with
  | nil => intro x vs w _ q hq; cases vs <;> simp [ownB] at hq
  | cons d ds ih =>
   intro x vs w hp q hq
   have one : ∀ {y : d.den} {v : Value}, P1 w N d y v → q ∈ ownB [d] [v] → q < w.heap.size := by
    intro y v hp hq
    cases d with
    | dat t => simp [ownB] at hq
    | own e t =>
     obtain ⟨xs, ho, _⟩ := hp
     rcases ho.2 with ⟨rfl, _⟩ | ⟨g, cap, cur, rfl, _, hg, _⟩
     ·simp [ownB, blockOf] at hq
     ·simp [ownB, blockOf] at hq
      subst hq
      exact (Array.getElem?_eq_some_iff.1 hg).1
    | cel t =>
     obtain ⟨r, vs, e, rfl, hg, _⟩ := hp
     simp [ownB, blockOf] at hq
     subst hq
     exact (Array.getElem?_eq_some_iff.1 hg).1
   cases ds with
   | nil =>
    obtain ⟨v, rfl, hp⟩ := hp
    exact one hp hq
   | cons d' ds =>
    obtain ⟨v, us, rfl, hp1, hp2⟩ := hp
    rw [ownB_cons] at hq
    rcases List.mem_append.1 hq with hq | hq
    ·exact one hp1 hq
    ·exact ih hp2 q hq
end
end Go.V
end
section
namespace Go.V
open Go Go.RowKit
set_option linter.unusedVariables false
set_option linter.unusedSimpArgs false
section
variable {P : Program} {E : En} {R : Type} {w0 : World} {M : Mo} {X : Nat → Prop} {hd : Nat → Value} {st : St} {a : Act} {w w' : World}
variable {k : St → Option R} {r : R} {K : Act → World → Prop} {Q : Exit → Act → World → Prop} {o : Oper}
theorem callAny_ok (hgl : Gl P w0 M.blocks) {nm : Nat} {f : FuncId} {dst : Option Tmp} {args : List AV} {vargs : List Value} (h : Rel w0 M X hd st a w) (ha : All2 (Rt (st.cx X hd w)) args vargs) (hk : Next w0 M X k r K) :
  ∀ {l : List Does}, (∀ S ∈ l, Meets P f S) → callAny nm st dst args k l = some r → Calls P f vargs.toArray w fun e w' => ∃ v, e = .returned v ∧ K (a.put dst v) w'
 | [], _, hr => by cases hr
 | S :: l, hm, hr => by
  unfold callAny at hr
  split at hr
  ·rename_i cells hfl
   obtain ⟨vcells, hcv, hac⟩ := flatA_ok ha hfl
   split at hr
   ·rename_i x hx
    exact callK_ok hgl (hm S (by simp)) h hcv hac hx hk hr
   ·exact callAny_ok hgl h ha hk (fun S hS => hm S (by simp [hS])) hr
  ·exact callAny_ok hgl h ha hk (fun S hS => hm S (by simp [hS])) hr
theorem wp_enter {f : FuncId} {args : Array Value} (h : (execOp a.eval o).run P w = .ok (.enter f args) w) (hc : Calls P f args w fun e w' => ∃ v, e = .returned v ∧ K (a.put o.dst v) w') : o.wp P a w K Q := by
 unfold Oper.wp
 rw [h]
 refine hc.mono ?_
 rintro e w' ⟨v, rfl, hv⟩
 exact hv
def OrcOK (P : Program) (orc : FuncId → List Does) : Prop := ∀ f, ∀ S ∈ orc f, Meets P f S
def OrcM (P : Program) (orc : FuncId → List Does) (w0 : World) (M : Mo) : Prop := Gl P w0 M.blocks ∧ OrcOK P orc
theorem sureK_ok {cx : Cx} : ∀ {l : List AV} {vs : List Value} {k : List AV → Option R} {r : R}, All2 (Rt cx) l vs → sureK l k = some r → ∃ l', All2 (Rt cx) l' vs ∧ k l' = some r
 | [], [], k, r, _, hr => ⟨[], trivial, hr⟩
 | [], _ :: _, _, _, h, _ => h.elim
 | _ :: _, [], _, _, h, _ => h.elim
 | v :: l, u :: vs, k, r, h, hr => by
  unfold sureK at hr
  split at hr
  ·rename_i t x
   cases x with
   | none => cases hr
   | some y =>
    have hr : (sureK l fun l => k (.dp t y :: l)) = some r := hr
    obtain ⟨l', h1, h2⟩ := sureK_ok h.2 hr
    obtain ⟨ad, e, hc⟩ := (show ∃ ad, [u] = [Value.pointer (some ad)] ∧ ∃ c, c.length = t.size ∧ At cx.w cx.N ad c ∧ Rc cx.w cx.N t y c from h.1)
    exact ⟨.dp t y :: l', ⟨(show Rc cx.w cx.N (.ptr t) y [u] from ⟨ad, e, hc⟩), h1⟩, h2⟩
  ·obtain ⟨l', h1, h2⟩ := sureK_ok h.2 hr
   exact ⟨v :: l', ⟨h.1, h1⟩, h2⟩
theorem fzK_next {dst : Option Tmp} (hk : Next w0 M X k r K) : Next w0 M X (fzK E dst k) r K := by
 intro st hd a w h hr
 unfold fzK at hr
 split at hr
 ·exact hk _ _ _ _ h hr
 ·split at hr
  ·exact hk _ _ _ _ h hr
  ·split at hr
   ·rename_i st1 hfz
    exact hk _ _ _ _ (frzN_ok h hfz).1 hr
   ·cases hr
theorem callV_ok {c : Call} {f : Operand} {fn : FuncId} {first caps : List Value} {avs : List AV} (hoc : OrcM P E.orc w0 M) (ho : o.op = .call c) (hc : c.callee = .value f) (h : Rel w0 M X hd st a w) (hk : Next w0 M X k r K)
  (hfv : a.eval f = .func (.func fn) first.toArray caps.toArray) (hall : All2 (Rt (st.cx X hd w)) avs (first ++ c.args.toList.map a.eval ++ caps))
  (hr : callAny (nameOf o.dst) st o.dst avs (fzK E o.dst k) (E.orc fn) = some r) : o.wp P a w K Q := by
 have hcalls := callAny_ok (P := P) (f := fn) hoc.1 h hall (fzK_next hk) (fun S hS => hoc.2 fn S hS) hr
 cases hlist : E.orc fn with
 | nil => rw [hlist] at hr; cases hr
 | cons S l =>
  have hm : Meets P fn S := hoc.2 fn S (by rw [hlist]; simp)
  refine wp_enter ?_ hcalls
  have hen := hm.enters (first ++ c.args.toList.map a.eval ++ caps).toArray w
  have e1 : (first.toArray ++ c.args.map a.eval : Array Value) ++ caps.toArray = (first ++ c.args.toList.map a.eval ++ caps).toArray := by
   apply Array.toList_inj.1; simp
  simp only [execOp, ho, resolve, hc, hfv, Deferred.ofValue, Sem.run_bind, Sem.run_pure, Result.andThen_ok, invoke]
  rw [e1]
  exact hen
theorem callC_ok {c : Call} {f : Operand} {f' : FuncId} {caps : List AV} {vs : List Value} (hoc : OrcM P E.orc w0 M) (ho : o.op = .call c) (hc : c.callee = .value f) (h : Rel w0 M X hd st a w) (hk : Next w0 M X k r K)
  (hfv : a.eval f = cloV f' vs) (hcap : All2 (R0 (st.cx X hd w)) caps vs) (hr : (sureK (c.args.toList.map st.ev) fun args => callAny (nameOf o.dst) st o.dst (argsF f' args caps) (fzK E o.dst k) (E.orc (funF f'))) = some r) : o.wp P a w K Q := by
 have hargs : All2 (Rt (st.cx X hd w)) (c.args.toList.map st.ev) (c.args.toList.map a.eval) := All2.map _ _ _ fun x _ => ev_ok h x
 obtain ⟨args, hargs, hr⟩ := sureK_ok hargs hr
 cases hb : Nat.ble bfst f' with
 | false =>
  rw [argsF_low hb, funF_low hb] at hr
  rw [cloV_low hb] at hfv
  exact callV_ok (first := []) hoc ho hc h hk hfv (by simpa using hargs.append (hcap.mono fun _ _ => Rt.of0)) hr
 | true =>
  rw [argsF_high hb, funF_high hb] at hr
  rw [cloV_high hb] at hfv
  exact callV_ok (first := [.agg vs.toArray]) (caps := []) hoc ho hc h hk hfv (by simpa using (show All2 (Rt (st.cx X hd w)) (.agg caps :: args) (.agg vs.toArray :: c.args.toList.map a.eval) from ⟨⟨vs, rfl, hcap.mono fun _ _ => R1.of0⟩, hargs⟩)) hr
theorem call_ok {c : Call} {f : Operand} (hoc : OrcM P E.orc w0 M) (ho : o.op = .call c) (hc : c.callee = .value f) (h : Rel w0 M X hd st a w) (hk : Next w0 M X k r K) (hr : opK E o st k = some r) : o.wp P a w K Q := by
 have hf := ev_ok h f
 simp only [opK, ho, hc] at hr
 split at hr
 ·rename_i f' caps hv
  rw [hv] at hf
  obtain ⟨vs, hfv, hcap⟩ := hf
  exact callC_ok hoc ho hc h hk hfv hcap hr
 ·rename_i f' c' x hv
  rw [hv] at hf
  obtain ⟨vs, e, hrc⟩ := (show Rc w (st.cx X hd w).N (.clo f' c') x [a.eval f] from hf)
  exact callC_ok hoc ho hc h hk (by simpa using e) (cellsAV_ok (c := st.cx X hd w) hrc) hr
 ·cases hr
theorem op_ok (hnp : M.np ≤ E.pin) (ht : TbOK P E.tb) (hoc : OrcM P E.orc w0 M) (h : Rel w0 M X hd st a w) (hk : Next w0 M X k r K) (hr : opK E o st k = some r) : o.wp P a w K Q := by
 cases ho : o.op with
 | move x => exact move_ok (.inl ho) h hk (ev_ok h x) (by simpa only [opK, ho] using hr)
 | assign x => exact move_ok (.inr ho) h hk (ev_ok h x).settle (by simpa only [opK, ho] using hr)
 | pick c x y =>
  simp only [opK, ho] at hr
  obtain ⟨t, hc, hr⟩ := fork_ok (ev_ok h c) hr
  exact pick_ok ho h hk hc hr
 | box e x => exact box_ok ho h hk hr
 | alloc e => exact alloc_ok ht ho h hk hr
 | build t parts => exact build_ok ht ho h hk hr
 | buildSlice t n parts => exact buildSlice_ok ht ho h hk hr
 | load t p => exact load_ok ht ho h hk hr
 | store t p x => exact store_ok ht ho h hk hr
 | nilCheck x => exact nilCheck_ok ho h hk hr
 | binOp op t x y u => exact bin_ok ht ho h hk hr
 | unOp op t x => exact un_ok ho h hk hr
 | convert s d x => exact convert_ok ht ho h hk hr
 | makeSlice t l c => exact makeSlice_ok ht ho h hk hr
 | slice t x lo hi mx =>
  cases mx with
  | none => exact slice_ok hnp ht ho h hk hr
  | some _ => simp only [opK, ho] at hr; cases hr
 | fieldAddr t p f => exact fieldAddr_ok ht ho h hk hr
 | field t x f => exact field_ok ht ho h hk hr
 | indexAddr t x ix => exact indexAddr_ok ht ho h hk hr
 | extract x i => exact extract_ok ho h hk hr
 | makeMap t rv => exact makeMap_ok ht ho h hk hr
 | lookup t x ix ok => exact lookup_ok ht ho h hk hr
 | mapUpdate t x ix y => exact mapUpdate_ok ht (.inl ho) h hk hr
 | insert t x ix y => exact mapUpdate_ok ht (.inr ho) h hk hr
 | makeFunc fn first captured =>
  cases fn with
  | func f => exact makeFunc_ok ho h hk hr
  | _ => simp only [opK, ho] at hr; cases hr
 | call c =>
  cases hc : c.callee with
  | value f => exact call_ok hoc ho hc h hk hr
  | invoke _ _ => simp only [opK, ho, hc] at hr; cases hr
  | builtin b =>
   cases b with
   | len => exact len_ok ht ho hc h hk hr
   | max => exact max_ok ho hc h hk hr
   | min => exact min_ok ho hc h hk hr
   | append =>
    simp only [opK, ho, hc] at hr
    split at hr
    ·rename_i s x t t' hargs hts
     split at hr
     ·rename_i he
      have he := Nat.eq_of_beq_eq_true he
      subst he
      exact append_ok (e' := 0) hnp ht ho hc hargs hts h hk hr
     ·cases hr
    ·cases hr
   | _ => simp only [opK, ho, hc] at hr; cases hr
 | _ => simp only [opK, ho] at hr; cases hr
def Facts (fs : List (Nat × Bool)) (a : Act) : Prop := ∀ d b, look fs d = some b → a.tmps.getD d undef = .bool b
theorem Facts.drop {fs : List (Nat × Bool)} (h : Facts fs a) (dst : Option Tmp) (v : Value) : Facts (dropFact dst fs) (a.put dst v) := by
 cases dst with
 | none => exact h
 | some d =>
  intro d' b hb
  have key : ∀ (fs : List (Nat × Bool)) (b : Bool), look (fs.filter fun p => !Nat.beq p.1 d) d' = some b → d' ≠ d ∧ look fs d' = some b := by
   intro fs
   induction fs with
   | nil => intro b h; cases h
   | cons p fs ih =>
    intro b h
    obtain ⟨q, c⟩ := p
    rw [List.filter_cons] at h
    by_cases e : q = d
    ·subst e
     simp only [Nat.beq_refl, Bool.not_true, Bool.false_eq_true, if_false] at h
     obtain ⟨h1, h2⟩ := ih b h
     exact ⟨h1, by rw [look_cons, if_neg h1]; exact h2⟩
    ·have : Nat.beq q d = false := by rw [Bool.eq_false_iff]; intro hh; exact e (Nat.eq_of_beq_eq_true hh)
     rw [this] at h
     simp only [Bool.not_false, if_true] at h
     rw [look_cons] at h ⊢
     split at h
     ·rename_i e'
      cases h
      exact ⟨fun e2 => e (e'.symm.trans e2), by rw [if_pos e']⟩
     ·rename_i e'
      obtain ⟨h1, h2⟩ := ih b h
      exact ⟨h1, by rw [if_neg e']; exact h2⟩
  obtain ⟨h1, h2⟩ := key fs b hb
  have := h d' b h2
  rw [← this]
  simp only [Act.put, Array.getD_eq_getD_getElem?, Array.getElem?_setIfInBounds]
  rw [if_neg (fun h => h1 h.symm)]
theorem askK_ok {fs : List (Nat × Bool)} {d : Nat} {k : Bool → List (Nat × Bool) → Option R} (h : Rel w0 M X hd st a w) (hf : Facts fs a) (hr : askK fs st d k = some r) :
  ∃ b fs', a.tmps.getD d undef = .bool b ∧ Facts fs' a ∧ k b fs' = some r := by
 unfold askK at hr
 split at hr
 ·rename_i b hb
  exact ⟨b, fs, hf d b hb, hf, hr⟩
 ·obtain ⟨b, hb, hr⟩ := fork_ok (h.tmps d) hr
  refine ⟨b, _, hb, ?_, hr⟩
  intro d' b' hl
  rw [look_cons] at hl
  split at hl
  ·rename_i e; cases hl; rw [e]; exact hb
  ·exact hf d' b' hl
theorem yielded_of {ops : Array Oper} {j d : Nat} {b : Bool} (hd : dstOf ops.toList j = some d) (hb : a.tmps.getD d undef = .bool b) : yielded ops a.tmps j = some b := by
 unfold dstOf at hd
 split at hd
 ·rename_i o ho
  have ho : ops[j]? = some o := by simpa using ho
  unfold yielded
  rw [ho]
  simp only [Option.bind_some, hd]
  rw [Array.getD_eq_getD_getElem?] at hb
  cases ht : a.tmps[d]? with
  | none => rw [ht] at hb; cases hb
  | some v => rw [ht] at hb; simp at hb; rw [hb]
 ·cases hd
theorem yielded_gone {ops : Array Oper} {j d : Nat} (hd : dstOf ops.toList j = some d) (hb : a.tmps.getD d undef = undef) : yielded ops a.tmps j = none := by
 unfold dstOf at hd
 split at hd
 ·rename_i o ho
  have ho : ops[j]? = some o := by simpa using ho
  unfold yielded
  rw [ho]
  simp only [Option.bind_some, hd]
  rw [Array.getD_eq_getD_getElem?] at hb
  cases ht : a.tmps[d]? with
  | none => rfl
  | some v =>
   rw [ht] at hb
   simp at hb
   rw [hb]
   rfl
 ·cases hd
theorem goneA_ok {v : AV} {x : Value} {c : Cx} (h : Rt c v x) (hg : goneA v = true) : x = undef := by
 cases v <;> first | exact h | cases hg
theorem askG_ok {ops : Array Oper} {j : Nat} {fs : List (Nat × Bool)} {d : Nat} {want : Bool} {k : Bool → List (Nat × Bool) → Option R} (hd' : dstOf ops.toList j = some d) (h : Rel w0 M X hd st a w) (hf : Facts fs a) (hr : askG fs st d want k = some r) :
  ∃ x fs', (yielded ops a.tmps j == some want) = !x ∧ Facts fs' a ∧ k x fs' = some r := by
 have hb' : ∀ b, a.tmps.getD d undef = .bool b → (yielded ops a.tmps j == some want) = !(Bool.xor b want) := by
  intro b hb
  rw [yielded_of hd' hb]
  cases b <;> cases want <;> rfl
 unfold askG at hr
 split at hr
 ·rename_i b hb
  exact ⟨_, fs, hb' b (hf d b hb), hf, hr⟩
 ·split at hr
  ·rename_i hg
   refine ⟨true, fs, ?_, hf, hr⟩
   rw [yielded_gone hd' (goneA_ok (h.tmps d) hg)]
   rfl
  ·obtain ⟨b, hb, hr⟩ := fork_ok (h.tmps d) hr
   refine ⟨_, _, hb' b hb, ?_, hr⟩
   intro d' b' hl
   rw [look_cons] at hl
   split at hl
   ·rename_i e; cases hl; rw [e]; exact hb
   ·exact hf d' b' hl
theorem wp_tmps {K K' : Act → World → Prop} (hk : ∀ a' w', (∃ v, a'.tmps = (a.put o.dst v).tmps) → K a' w' → K' a' w') (h : o.wp P a w K Q) : o.wp P a w K' Q := by
 unfold Oper.wp at *
 generalize (execOp a.eval o).run P w = r at *
 cases r with
 | ok n w' =>
  cases n <;> simp only [Oper.upon] at h ⊢ <;>
   first
    | exact hk _ _ ⟨_, rfl⟩ h
    | (refine hk _ _ ⟨undef, ?_⟩ h; cases o.dst <;> rfl)
    | exact Calls.mono h (fun e w'' he => by cases e <;> first | exact hk _ _ ⟨_, rfl⟩ he | exact he)
    | exact Rows.mono h (fun _ _ he => hk _ _ ⟨_, rfl⟩ he)
    | exact h
 | halt x w' => cases x <;> simp only [Oper.upon] at h ⊢ <;> exact h
theorem Facts.of_tmps {fs : List (Nat × Bool)} {a a' : Act} (h : Facts fs a) (e : a'.tmps = a.tmps) : Facts fs a' := by
 intro d b hb; rw [e]; exact h d b hb
theorem exec_ok (hnp : M.np ≤ E.pin) (ht : TbOK P E.tb) (hoc : OrcM P E.orc w0 M) {fs : List (Nat × Bool)} {k : List (Nat × Bool) → St → Option R} (h : Rel w0 M X hd st a w) (hf : Facts fs a)
  (hk : ∀ fs st hd a w, Rel w0 M X hd st a w → Facts fs a → k fs st = some r → K a w)
  (hr : (match o.op with
   | .pick (.tmp c) x y => askK fs st c fun t fs => st.put o.dst (st.ev (pickOf t x y)) fun st => k (dropFact o.dst fs) st
   | _ => opK E o st fun st => k (dropFact o.dst fs) st) = some r) : o.wp P a w K Q := by
 have main : ∀ fs, Facts fs a → opK E o st (fun st => k (dropFact o.dst fs) st) = some r → o.wp P a w K Q := by
  intro fs hf hr
  have h1 : o.wp P a w (fun a' w' => Facts (dropFact o.dst fs) a' → K a' w') Q :=
   op_ok hnp ht hoc h (fun st hd a w hrel hkk hff => hk _ _ _ _ _ hrel hff hkk) hr
  refine wp_tmps ?_ h1
  rintro a' w' ⟨v, e⟩ hK
  exact hK ((hf.drop o.dst v).of_tmps e)
 split at hr
 ·rename_i c x y ho
  obtain ⟨t, fs', hc, hf', hr⟩ := askK_ok h hf hr
  have h1 : o.wp P a w (fun a' w' => Facts (dropFact o.dst fs') a' → K a' w') Q :=
   pick_ok ho h (fun st hd a w hrel hkk hff => hk _ _ _ _ _ hrel hff hkk) hc hr
  refine wp_tmps ?_ h1
  rintro a' w' ⟨v, e⟩ hK
  exact hK ((hf'.drop o.dst v).of_tmps e)
 ·exact main fs hf hr
theorem opsK_ok (hnp : M.np ≤ E.pin) (ht : TbOK P E.tb) (hoc : OrcM P E.orc w0 M) {all : Array Oper} (hk : Next w0 M X k r fun a w => Q .normal a w) :
  ∀ (n i : Nat) {hd : Nat → Value} {fs : List (Nat × Bool)} {st : St} {a : Act} {w : World}, i + n = all.size → Rel w0 M X hd st a w → Facts fs a → opsK E all.toList (all.toList.drop i) fs st k = some r →
   wpOps P all Q (List.range' i n) a w
 | 0, i, hd, fs, st, a, w, hn, h, hf, hr => by
  have : all.toList.drop i = [] := List.drop_eq_nil_of_le (by simp; omega)
  rw [this] at hr
  exact hk _ _ _ _ h hr
 | n + 1, i, hd, fs, st, a, w, hn, h, hf, hr => by
  have hi : i < all.size := by omega
  have hdrop : all.toList.drop i = all[i] :: all.toList.drop (i + 1) := by
   rw [List.drop_eq_getElem_cons (by simpa using hi)]; simp
  rw [hdrop] at hr
  have ho : all[i]? = some all[i] := by simp [hi]
  generalize all[i] = o at hr ho
  -- the rest
  have rest : ∀ fs st hd a w, Rel w0 M X hd st a w → Facts fs a → opsK E all.toList (all.toList.drop (i + 1)) fs st k = some r → wpOps P all Q (List.range' (i + 1) n) a w :=
   fun fs st hd a w h hf hr => opsK_ok hnp ht hoc hk n (i + 1) (by omega) h hf hr
  rw [List.range'_succ]
  simp only [wpOps, ho]
  unfold opsK at hr
  split at hr
  ·rename_i hg
   rw [if_pos (show Region.wanted o (yielded all a.tmps) = true by unfold Region.wanted; rw [hg])]
   refine .inl (exec_ok hnp ht hoc (k := fun fs st => opsK E all.toList (all.toList.drop (i + 1)) fs st k) h hf rest ?_)
   exact hr
  ·rename_i j want hg
   split at hr
   ·cases hr
   ·rename_i d hd'
    obtain ⟨x, fs', hy, hf', hr⟩ := askG_ok hd' h hf hr
    have hw : Region.wanted o (yielded all a.tmps) = !x := by
     unfold Region.wanted; rw [hg]; exact hy
    rw [hw]
    cases x with
    | true =>
     rw [if_neg (by simp)]
     have hput := put_ok (K := fun a' w' => Facts (dropFact o.dst fs') a' → wpOps P all Q (List.range' (i + 1) n) a' w') h (show Rt (st.cx X hd w) .gone undef from rfl) (fun st hd a w hrel hkk hff => rest _ _ _ _ _ hrel hff hkk) hr
     exact hput (hf'.drop o.dst undef)
    | false =>
     rw [if_pos (show (!false) = true from rfl)]
     refine .inl (exec_ok hnp ht hoc (k := fun fs st => opsK E all.toList (all.toList.drop (i + 1)) fs st k) h hf' rest ?_)
     exact hr
theorem region_ok (hnp : M.np ≤ E.pin) (ht : TbOK P E.tb) (hoc : OrcM P E.orc w0 M) {id : Nat} {ops : Array Oper} (h : Rel w0 M X hd st a w) (hk : Next w0 M X k r fun a w => Q .normal a w) (hr : opsK E ops.toList ops.toList [] st k = some r) :
  (Code.region id ops false).wp P Q a w := by
 refine wp_region ?_
 rw [List.range_eq_range']
 exact opsK_ok hnp ht hoc hk ops.size 0 (by omega) (fs := []) h (fun d b hb => by simp [look] at hb) (by simpa using hr)
end
end Go.V
end
section
namespace Go.V
open Go Go.RowKit
set_option linter.unusedVariables false
set_option linter.unusedSimpArgs false
section
variable {w0 : World} {M : Mo} {X : Nat → Prop} {hd : Nat → Value} {st st' : St} {a : Act} {w w' : World}
theorem indexOf_ge : ∀ {ns : List Nat} {i b j : Nat}, indexOf ns i b = some j → i ≤ j ∧ j < i + ns.length ∧ ns[j - i]? = some b
 | [], i, b, j, h => by cases h
 | c :: ns, i, b, j, h => by
  unfold indexOf at h
  split at h
  ·rename_i he
   have he := Nat.eq_of_beq_eq_true he
   cases h
   exact ⟨Nat.le_refl _, by simp, by simp [he]⟩
  ·obtain ⟨h1, h2, h3⟩ := indexOf_ge h
   refine ⟨by omega, by simp; omega, ?_⟩
   rw [show j - i = (j - (i + 1)) + 1 by omega, List.getElem?_cons_succ]
   exact h3
theorem indexOf_inj {ns : List Nat} {i b b' j : Nat} (h : indexOf ns i b = some j) (h' : indexOf ns i b' = some j) : b = b' := by
 have h1 := (indexOf_ge h).2.2
 have h2 := (indexOf_ge h').2.2
 rw [h1] at h2
 exact Option.some.inj h2
theorem normH_ok {σ : Nat → Option Nat} : ∀ {ns : List Nat} {i : Nat} {h : List (Nat × Blk)}, normH st σ ns i = some h → ∀ j blk, look h j = some blk → i ≤ j ∧ j < i + ns.length ∧ ∃ b blk0, ns[j - i]? = some b ∧ st.find b = some blk0 ∧ blk = blk0.ren σ
 | [], i, h, e, j, blk, hl => by cases e; cases hl
 | b :: ns, i, h, e, j, blk, hl => by
  unfold normH at e
  split at e
  ·rename_i blk0 hf
   split at e
   ·rename_i h' he
    cases e
    rw [look_cons] at hl
    split at hl
    ·rename_i hj
     cases hl
     subst hj
     exact ⟨Nat.le_refl _, by simp, b, blk0, by simp, hf, rfl⟩
    ·rename_i hj
     obtain ⟨h1, h2, b', blk1, h3, h4, h5⟩ := normH_ok he j blk hl
     refine ⟨by omega, by simp; omega, b', blk1, ?_, h4, h5⟩
     rw [show j - i = (j - (i + 1)) + 1 by omega, List.getElem?_cons_succ]
     exact h3
   ·cases e
  ·cases e
theorem normH_look {σ : Nat → Option Nat} : ∀ {ns : List Nat} {i : Nat} {h : List (Nat × Blk)}, normH st σ ns i = some h → ∀ p b, ns[p]? = some b → ∃ blk0, st.find b = some blk0 ∧ look h (i + p) = some (blk0.ren σ)
 | [], i, h, e, p, b, hp => by simp at hp
 | c :: ns, i, h, e, p, b, hp => by
  unfold normH at e
  split at e
  ·rename_i blk0 hf
   split at e
   ·rename_i h' he
    cases e
    cases p with
    | zero =>
     simp at hp
     subst hp
     exact ⟨blk0, hf, by rw [look_cons]; simp⟩
    | succ p =>
     obtain ⟨blk1, h1, h2⟩ := normH_look he p b (by simpa using hp)
     refine ⟨blk1, h1, ?_⟩
     rw [look_cons, if_neg (by omega), show i + (p + 1) = i + 1 + p by omega]
     exact h2
   ·cases e
  ·cases e
theorem look_append {α : Type} : ∀ (l m : List (Nat × α)) (n : Nat), look (l ++ m) n = match look l n with | some v => some v | none => look m n
 | [], m, n => rfl
 | (k, v) :: l, m, n => by
  rw [List.cons_append, look_cons, look_cons]
  split
  ·rfl
  ·exact look_append l m n
theorem normT_look {σ : Nat → Option Nat} : ∀ {lv : List (Nat × Option (TypeId × Ty))} {t : Nat} {v : AV}, look (normT st σ lv) t = some v → v = (st.get t).settle.ren σ
 | [], t, v, h => by cases h
 | (s, _) :: lv, t, v, h => by
  unfold normT at h
  rw [look_cons] at h
  split at h
  ·rename_i e; cases h; rw [e]
  ·exact normT_look h
theorem nils_ok : ∀ {lv : List (Nat × Option (TypeId × Ty))} {i : Nat} {ts : List (Nat × AV)} {bs : List (Nat × Blk)}, nils st lv i = (ts, bs) →
  (∀ t v, look ts t = some v → st.get t = .nil ∧ ∃ j e ty, v = .own j ∧ i ≤ j ∧ look bs j = some (.flat e ty [])) ∧ ∀ j blk, look bs j = some blk → i ≤ j ∧ ∃ e ty, blk = .flat e ty []
 | [], i, ts, bs, h => by
  cases h
  exact ⟨(fun t v hl => by cases hl), (fun j blk hl => by cases hl)⟩
 | (s, some (e, ty)) :: lv, i, ts, bs, h => by
  unfold nils at h
  split at h
  ·rename_i hn
   split at h
   rename_i ts' bs' he
   cases h
   obtain ⟨h1, h2⟩ := nils_ok he
   refine ⟨?_, ?_⟩
   ·intro t v hl
    rw [look_cons] at hl
    split at hl
    ·rename_i e'
     cases hl
     exact ⟨by rw [e']; exact hn, i, e, ty, rfl, Nat.le_refl _, by rw [look_cons, if_pos rfl]⟩
    ·obtain ⟨h3, j, e2, ty2, h4, h5, h6⟩ := h1 t v hl
     exact ⟨h3, j, e2, ty2, h4, by omega, by rw [look_cons, if_neg (by omega)]; exact h6⟩
   ·intro j blk hl
    rw [look_cons] at hl
    split at hl
    ·rename_i e'
     cases hl
     exact ⟨by omega, e, ty, rfl⟩
    ·obtain ⟨h3, h4⟩ := h2 j blk hl
     exact ⟨by omega, h4⟩
  ·exact nils_ok h
 | (s, none) :: lv, i, ts, bs, h => by
  unfold nils at h
  exact nils_ok h
theorem nodup_inj : ∀ {l : List Nat}, l.Nodup → ∀ {i j : Nat} (hi : i < l.length) (hj : j < l.length), l[i] = l[j] → i = j
 | [], _, i, _, hi, _, _ => absurd hi (Nat.not_lt_zero _)
 | x :: l, h, 0, 0, _, _, _ => rfl
 | x :: l, h, 0, j + 1, _, hj, e => by
  simp only [List.getElem_cons_zero, List.getElem_cons_succ] at e
  exact absurd (e ▸ List.getElem_mem _) (List.nodup_cons.1 h).1
 | x :: l, h, i + 1, 0, hi, _, e => by
  simp only [List.getElem_cons_zero, List.getElem_cons_succ] at e
  exact absurd (e ▸ List.getElem_mem _) (List.nodup_cons.1 h).1
 | x :: l, h, i + 1, j + 1, hi, hj, e => by
  simp only [List.getElem_cons_succ] at e
  rw [nodup_inj (List.nodup_cons.1 h).2 (by simpa using hi) (by simpa using hj) e]
theorem norm0_ok {pin : Nat} {lv : List (Nat × Option (TypeId × Ty))} (hnp : M.np ≤ pin) (h : Rel w0 M X hd st a w) (hn : norm0 pin lv st = some st') : ∃ hd', Rel w0 M X hd' st' a w := by
 unfold norm0 at hn
 simp only at hn
 generalize discover st 3 (addN (List.range pin) (lv.flatMap fun p => namesA (st.get p.1))) = ns at hn
 split at hn
 ·rename_i hp hnd hH
  obtain ⟨ts, bs, hnil⟩ : ∃ ts bs, nils st lv ns.length = (ts, bs) := ⟨_, _, rfl⟩
  rw [hnil] at hn
  cases hn
  rw [Bool.and_eq_true] at hnd
  have hfirst := hnd.2
  have hnd := nodupN_ok hnd.1
  obtain ⟨n1, n2⟩ := nils_ok hnil
  have hσ : ∀ b j, indexOf ns 0 b = some j → ∃ blk0, st.find b = some blk0 ∧ look hp j = some (blk0.ren (indexOf ns 0)) := by
   intro b j hj
   obtain ⟨_, _, h3⟩ := indexOf_ge hj
   obtain ⟨blk0, h4, h5⟩ := normH_look hH (j - 0) b h3
   exact ⟨blk0, h4, by simpa using h5⟩
  -- the headers
  refine ⟨fun j => match ns[j]? with | some b => hd b | none => .slice none 0 0, ?_⟩
  have hhd : ∀ (j b : Nat), ns[j]? = some b → (match ns[j]? with | some b => hd b | none => Value.slice none 0 0) = hd b := fun j b e => by rw [e]
  have hfind : ∀ j blk, look (hp ++ bs) j = some blk → (∃ b blk0, ns[j]? = some b ∧ st.find b = some blk0 ∧ blk = blk0.ren (indexOf ns 0) ∧ look hp j = some blk) ∨ (ns[j]? = none ∧ ∃ e ty, blk = .flat e ty []) := by
   intro j blk hl
   rw [look_append] at hl
   split at hl
   ·rename_i v hv
    cases hl
    obtain ⟨_, h2, b, blk0, h3, h4, h5⟩ := normH_ok hH j _ hv
    exact .inl ⟨b, blk0, by simpa using h3, h4, h5, hv⟩
   ·obtain ⟨h1, h2⟩ := n2 j blk hl
    exact .inr ⟨List.getElem?_eq_none (by omega), h2⟩
  have hblock : ∀ j blk r, look (hp ++ bs) j = some blk → blockOf (match ns[j]? with | some b => hd b | none => Value.slice none 0 0) = some r → ∃ b blk0, ns[j]? = some b ∧ st.find b = some blk0 ∧ blk = blk0.ren (indexOf ns 0) ∧ blockOf (hd b) = some r := by
   intro j blk r hl hr
   rcases hfind j blk hl with ⟨b, blk0, h1, h2, h3, _⟩ | ⟨h1, _⟩
   ·rw [hhd j b h1] at hr
    exact ⟨b, blk0, h1, h2, h3, hr⟩
   ·simp [h1, blockOf] at hr
  have hlive : ∀ j blk, look (hp ++ bs) j = some blk → ∀ b blk0, ns[j]? = some b → st.find b = some blk0 → blk = blk0.ren (indexOf ns 0) → blk.live = blk0.live := by
   intro j blk _ b blk0 _ _ e
   rw [e, Blk.ren_live]
  have hmine : ∀ r, Mine (fun j => look (hp ++ bs) j) (fun j => match ns[j]? with | some b => hd b | none => Value.slice none 0 0) r → Mine st.find hd r := by
   rintro r ⟨j, blk, hf, hl, hr⟩
   obtain ⟨b, blk0, h1, h2, h3, h4⟩ := hblock j blk r hf hr
   exact ⟨b, blk0, h2, by rw [h3, Blk.ren_live] at hl; exact hl, h4⟩
  have hheld : ∀ r, Held (fun j => look (hp ++ bs) j) (fun j => match ns[j]? with | some b => hd b | none => Value.slice none 0 0) r → Held st.find hd r := by
   rintro r ⟨j, blk, hf, hr⟩
   obtain ⟨b, blk0, h1, h2, h3, h4⟩ := hblock j blk r hf hr
   exact ⟨b, blk0, h2, h4⟩
  have g : Goes (indexOf ns 0) (st.cx X hd w) (St.cx ⟨st.n, lookA (ts ++ normT st (indexOf ns 0) lv), look (hp ++ bs)⟩ X (fun j => match ns[j]? with | some b => hd b | none => Value.slice none 0 0) w) := by
   refine ⟨fun ad u hn hc => ⟨fun hq => hn (hq.imp id (hmine _)), hc⟩, ?_⟩
   intro b j blk hj hf
   obtain ⟨_, _, h3⟩ := indexOf_ge hj
   have h3 : ns[j]? = some b := by simpa using h3
   obtain ⟨blk0, h4, h5⟩ := hσ b j hj
   rw [show st.find b = some blk from hf] at h4
   cases h4
   refine ⟨blk.ren (indexOf ns 0), ?_, Blk.ren_shape _ _, hhd j b h3⟩
   show look (hp ++ bs) j = _
   rw [look_append, h5]
  refine ⟨h.size, h.defers, ?_, ?_, ?_, h.frame, fun r hr => h.mine r (hheld r hr), ?_, fun r hr => ⟨(h.xfar r hr).1, fun hh => (h.xfar r hr).2 (hheld r hh)⟩⟩
  ·intro t
   show Rt (St.cx ⟨st.n, lookA (ts ++ normT st (indexOf ns 0) lv), look (hp ++ bs)⟩ X _ w) (lookA (ts ++ normT st (indexOf ns 0) lv) t) _
   have ht := h.tmps t
   unfold lookA
   simp only [look_append]
   split
   ·rename_i v hv
    split at hv
    ·rename_i u hu
     cases hv
     obtain ⟨h1, j, e, ty, rfl, h3, h4⟩ := n1 t _ hu
     rw [h1] at ht
     have hval : a.tmps.getD t undef = .slice none 0 0 := ht
     have hns : ns[j]? = none := List.getElem?_eq_none (by omega)
     refine ⟨?_, by rw [hval]; rfl, .flat e ty [], e, ty, 0, ?_, rfl⟩
     ·rw [hval]; show _ = (match ns[j]? with | some b => hd b | none => Value.slice none 0 0); rw [hns]
     ·show look (hp ++ bs) j = _
      rw [look_append]
      split
      ·rename_i v hv
       obtain ⟨_, h6, _⟩ := normH_ok hH j _ hv
       omega
      ·exact h4
    ·rw [normT_look hv]
     exact Rt.ren g ht.settle
   ·exact True.intro
  ·intro j blk hl
   rcases hfind j blk hl with ⟨b, blk0, h1, h2, rfl, _⟩ | ⟨h1, e, ty, rfl⟩
   ·exact RB.ren g (c := st.cx X hd w) (hhd j b h1) (fun _ _ => rfl) (h.blocks b blk0 h2)
   ·refine ⟨[], ?_, rfl⟩
    show w.ownsRow 0 e ty.size (match ns[j]? with | some b => hd b | none => Value.slice none 0 0) _ _
    rw [h1]
    exact World.ownsRow_nil w 0 e ty.size
  ·intro j j' blk blk' r h1 h2 h3 h4
   obtain ⟨b, b0, p1, p2, _, p4⟩ := hblock j blk r h1 h3
   obtain ⟨b', b0', q1, q2, _, q4⟩ := hblock j' blk' r h2 h4
   have := h.inj b b' _ _ r p2 q2 p4 q4
   subst this
   obtain ⟨hj, e1⟩ := List.getElem?_eq_some_iff.1 p1
   obtain ⟨hj', e2⟩ := List.getElem?_eq_some_iff.1 q1
   exact nodup_inj hnd hj hj' (e1.trans e2.symm)
  ·intro i hi
   have h1 := List.all_eq_true.1 hfirst i (by simp; omega)
   split at h1
   ·rename_i b hb
    have h1 := Nat.eq_of_beq_eq_true h1
    subst h1
    refine ⟨?_, ?_⟩
    ·show (match ns[b]? with | some b => hd b | none => Value.slice none 0 0) = _
     rw [hb]; exact (h.pins b hi).1
    ·obtain ⟨blk0, h2, h3⟩ := normH_look hH b b hb
     refine ⟨blk0.ren (indexOf ns 0), ?_⟩
     show look (hp ++ bs) b = _
     rw [look_append, show look hp b = _ from by simpa using h3]
   ·cases h1
 ·cases hn
theorem Rel.reget (h : Rel w0 M X hd st a w) {t : Nat} {v : AV} (hv : Rt (st.cx X hd w) v (a.tmps.getD t undef)) : Rel w0 M X hd (st.set t v) a w := by
 refine ⟨h.size, h.defers, ?_, h.blocks, h.inj, h.frame, h.mine, h.pins, h.xfar⟩
 intro t'
 rw [St.get_set]
 show Rt (st.cx X hd w) _ _
 by_cases e : t' = t
 ·subst e; rw [if_pos rfl]; exact hv
 ·rw [if_neg e]; exact h.tmps t'
theorem prep1_ok {s : Nat} {x : LvK} (h : Rel w0 M X hd st a w) (he : prep1 s st x = some st') : ∃ hd', Rel w0 M X hd' st' a w := by
 have adopt : ∀ {b : Nat} {e : TypeId} {t : Ty}, st.find b = none → ∃ hd', Rel w0 M X hd' (st.lay b (.flat e t [])) a w ∧ hd' b = .slice none 0 0 ∧ (∀ c, c ≠ b → hd' c = hd c) := by
  intro b e t hfind
  have e0 : (fun q => X q ∨ q ∈ (none : Option Nat).toList ++ []) = X := by funext q; simp
  have h0 : Rel w0 M (fun q => X q ∨ q ∈ (none : Option Nat).toList ++ []) hd st a w := by rw [e0]; exact h
  obtain ⟨h1, _, _⟩ := h0.adopt (b := b) (e := e) (t := t) (l := []) (v := .slice none 0 0) hfind rfl (fun q hq => by cases hq) ⟨[], World.ownsRow_nil w 0 e t.size, rfl⟩
  have e1 : (fun q => X q ∨ q ∈ ([] : List Nat)) = X := by funext q; simp
  rw [e1] at h1
  exact ⟨_, h1, by simp, fun c hc => by simp [hc]⟩
 cases x with
 | nil e t =>
  simp only [prep1] at he
  split at he
  ·rename_i hnil
   split at he
   ·rename_i st1 hal
    obtain ⟨hfind, rfl⟩ := alloc_find hal
    cases he
    obtain ⟨hd', h1, h2, _⟩ := adopt (e := e) (t := t) hfind
    have hval : a.tmps.getD s undef = .slice none 0 0 := by
     have := h.tmps s
     rw [hnil] at this
     exact this
    refine ⟨hd', h1.reget (t := s) (v := .own (s * 64 + 32)) ?_⟩
    rw [hval]
    exact ⟨h2.symm, rfl, .flat e t [], e, t, 0, by show St.find (St.lay _ _ _) _ = _; rw [St.find_cons, if_pos rfl], rfl⟩
   ·cases he
  ·cases he; exact ⟨hd, h⟩
 | data t =>
  simp only [prep1] at he
  split at he
  ·rename_i b hb
   split at he
   ·rename_i st1 hfz
    obtain ⟨h1, hfr, _, _, htm, _, _⟩ := frzN_ok h hfz
    split at he
    ·rename_i l hl
     cases he
     have hx := h1.tmps s
     rw [St.get_same htm, hb] at hx
     have hRc := listOf_ok h1.blocks h1.clear (a := .own b) hx (fun c hc => hfr c (by simpa [namesA] using hc)) hl
     exact ⟨hd, h1.reget (t := s) (v := .dat (.list t) l) hRc⟩
    ·cases he
   ·cases he
  ·rename_i hnil
   cases he
   have hx := h.tmps s
   rw [hnil] at hx
   have hval : a.tmps.getD s undef = .slice none 0 0 := hx
   refine ⟨hd, h.reget (t := s) (v := .dat (.list t) []) ?_⟩
   rw [hval]
   exact (show Rc w (st.cx X hd w).N (.list t) [] [Value.slice none 0 0] from ⟨none, 0, rfl, Nat.le_refl _, fun _ => rfl, fun i hi => absurd hi (Nat.not_lt_zero _)⟩)
  ·cases he; exact ⟨hd, h⟩
 | cell j e t =>
  simp only [prep1] at he
  split at he
  ·rename_i b i hb
   split at he
   ·rename_i cs hf
    split at he
    ·rename_i hj
     split at he
     ·rename_i st1 hal
      obtain ⟨hfind, rfl⟩ := alloc_find hal
      cases he
      obtain ⟨hd', h1, h2, h3⟩ := adopt (e := e) (t := t) hfind
      have hne : b ≠ s * 64 + 33 + j := fun e' => by rw [e', hfind] at hf; cases hf
      have hf1 : (st.lay (s * 64 + 33 + j) (.flat e t [])).find b = some (.cells cs) := by rw [St.find_cons, if_neg hne]; exact hf
      refine ⟨hd', h1.write (w' := w) (blk' := .cells (cs.set j (.own (s * 64 + 33 + j)))) hf1 rfl (by simp [Blk.shape]) rfl rfl rfl rfl (fun _ _ => rfl) ?_⟩
      intro g
      obtain ⟨r, vs, e', q1, q2, q3⟩ := h1.blocks b _ hf1
      refine ⟨r, vs, e', q1, q2, ?_⟩
      have q4 := All2.mono (R := R1 ((st.lay (s * 64 + 33 + j) (.flat e t [])).cx X hd' w)) (fun x y hxy => R1.go g hxy) q3
      obtain ⟨u, hu, hur⟩ := q3.get hj
      have hun : u = .slice none 0 0 := hur
      have hset : vs = vs.set j u := by
       apply List.ext_getElem?
       intro n
       rw [List.getElem?_set]
       split
       ·rename_i e2
        subst e2
        split
        ·rw [hu]
        ·rename_i hlt; exact List.getElem?_eq_none (by omega)
       ·rfl
      rw [hset]
      refine q4.set ?_ j
      rw [hun]
      refine ⟨h2.symm, rfl, .flat e t [], e, t, 0, ?_, rfl⟩
      show St.find (St.lay (St.lay _ _ _) _ _) _ = _
      rw [St.find_cons, if_neg (Ne.symm hne), St.find_cons, if_pos rfl]
     ·cases he
    ·cases he; exact ⟨hd, h⟩
   ·cases he; exact ⟨hd, h⟩
  ·cases he; exact ⟨hd, h⟩
 | que =>
  simp only [prep1] at he
  split at he
  ·rename_i b hb
   split at he
   ·rename_i e t l hf
    cases he
    refine ⟨hd, h.write (w' := w) (blk' := .que e t l) hf rfl rfl rfl rfl rfl rfl (fun _ _ => rfl) ?_⟩
    intro g
    obtain ⟨xs, ho, hE⟩ := h.blocks b _ hf
    exact ⟨xs, ownsAt_of ho, hE.move g.move⟩
   ·cases he; exact ⟨hd, h⟩
  ·cases he; exact ⟨hd, h⟩
theorem prepL_ok {s : Nat} : ∀ {l : List LvK} {hd : Nat → Value} {st st' : St}, Rel w0 M X hd st a w → prepL s l st = some st' → ∃ hd', Rel w0 M X hd' st' a w
 | [], hd, st, st', h, e => by cases e; exact ⟨hd, h⟩
 | x :: l, hd, st, st', h, he => by
  unfold prepL at he
  split at he
  ·rename_i st1 h1
   obtain ⟨hd1, q⟩ := prep1_ok h h1
   exact prepL_ok q he
  ·cases he
theorem prepS_ok : ∀ {lv : List (Nat × List LvK)} {hd : Nat → Value} {st st' : St}, Rel w0 M X hd st a w → prepS lv st = some st' → ∃ hd', Rel w0 M X hd' st' a w
 | [], hd, st, st', h, e => by cases e; exact ⟨hd, h⟩
 | (s, l) :: m, hd, st, st', h, he => by
  unfold prepS at he
  split at he
  ·rename_i st1 h1
   obtain ⟨hd1, q⟩ := prepL_ok h h1
   exact prepS_ok q he
  ·cases he
theorem norm_ok {pin : Nat} {lv : List (Nat × List LvK)} (hnp : M.np ≤ pin) (h : Rel w0 M X hd st a w) (hn : norm pin lv st = some st') : ∃ hd', Rel w0 M X hd' st' a w := by
 unfold norm at hn
 split at hn
 ·rename_i st1 h1
  obtain ⟨hd1, q⟩ := prepS_ok h h1
  exact norm0_ok hnp q hn
 ·cases hn
end
end Go.V
end
section
namespace Go.V
open Go Go.RowKit
set_option linter.unusedVariables false
set_option linter.unusedSimpArgs false
def St.layL (st : St) (ns : List (Nat × Blk)) : St := { st with find := fun c => match look ns c with | some b => some b | none => st.find c }
theorem St.layL_nil (st : St) : st.layL [] = st := rfl
theorem St.lay_layL (st : St) (b : Nat) (blk : Blk) (ns : List (Nat × Blk)) : (st.layL ns).lay b blk = st.layL ((b, blk) :: ns) := by
 unfold St.layL St.lay
 congr 1
 funext c
 rw [upd_eq, look_cons]
 split <;> rfl
theorem St.lay_one (st : St) (b : Nat) (blk : Blk) : st.lay b blk = st.layL [(b, blk)] := by
 have := St.lay_layL st b blk []
 rwa [St.layL_nil] at this
section
variable {E : En} {R R' : Type} {st s st' : St} {o : Oper}
theorem put_bind (st : St) (dst : Option Tmp) (v : AV) (k : St → Option R) : st.put dst v k = (st.put dst v some).bind k := by
 unfold St.put
 cases dst with
 | none => rfl
 | some d =>
  simp only
  split <;> rfl
theorem intK_sel {op : BinOp} {j : IntKind} {a b : Int} {k : AV → Option R} {r : R} (h : intK op j a b k = some r) : ∃ v, k v = some r ∧ ∀ {R' : Type} (k' : AV → Option R'), intK op j a b k' = k' v := by
  cases op <;> first
    | exact ⟨_, h, fun _ => rfl⟩
    | (by_cases h0 : b = 0
       · simp only [intK, if_pos h0] at h; cases h
       · simp only [intK, if_neg h0] at h; exact ⟨_, h, fun k' => by simp only [intK, if_neg h0]⟩)
    | (simp only [intK] at h; cases h)
theorem shiftK_sel {op : BinOp} {j : IntKind} {a b : Int} {k : AV → Option R} {r : R} (h : shiftK op j a b k = some r) : ∃ v, k v = some r ∧ ∀ {R' : Type} (k' : AV → Option R'), shiftK op j a b k' = k' v := by
 by_cases h0 : b < 0
 ·simp only [shiftK, if_pos h0] at h; cases h
 ·cases op <;> simp only [shiftK, if_neg h0] at h <;> first
   | (cases h; done)
   | exact ⟨_, h, fun k' => by simp only [shiftK, if_neg h0]⟩
theorem nilK_sel {q : BT} {op : BinOp} {b : Bool} {k : AV → Option R} {r : R} (h : nilK q op b k = some r) : ∃ v, k v = some r ∧ ∀ {R' : Type} (k' : AV → Option R'), nilK q op b k' = k' v := by
 cases q <;> cases op <;> first
  | exact ⟨_, h, fun _ => rfl⟩
  | cases h
theorem strK_sel {op : BinOp} {a b : ByteArray} {k : AV → Option R} {r : R} (h : strK op a b k = some r) : ∃ v, k v = some r ∧ ∀ {R' : Type} (k' : AV → Option R'), strK op a b k' = k' v := by
  cases op <;> first
    | exact ⟨_, h, fun _ => rfl⟩
    | (by_cases h0 : a.size + b.size ≤ 9223372036854775807
       · simp only [strK, if_pos h0] at h; exact ⟨_, h, fun k' => by simp only [strK, if_pos h0]⟩
       · simp only [strK, if_neg h0] at h; cases h)
    | (simp only [strK] at h; cases h)
theorem binK_sel {q : BT} {op : BinOp} {x y : AV} {k : AV → Option R} {r : R} (h : binK q op x y k = some r) : ∃ v, k v = some r ∧ ∀ {R' : Type} (k' : AV → Option R'), binK q op x y k' = k' v := by
 cases x with
 | dat s a =>
  cases y with
  | dat s' b =>
   cases s with
   | int j => cases s' with
    | int j' =>
     have e : ∀ {R' : Type} (k' : AV → Option R'), binK q op (.dat (.int j) a) (.dat (.int j') b) k' = (match isShift op, decide (j = j') with
      | true, _ => shiftK op j a b k'
      | false, true => intK op j a b k'
      | false, false => none) := fun _ => rfl
     rw [e] at h
     split at h
     ·rename_i h1
      obtain ⟨v, h2, h3⟩ := shiftK_sel h
      exact ⟨v, h2, fun k' => by rw [e]; simp only [h1]; exact h3 k'⟩
     ·rename_i h1 h1'
      obtain ⟨v, h2, h3⟩ := intK_sel h
      exact ⟨v, h2, fun k' => by rw [e]; simp only [h1, h1']; exact h3 k'⟩
     ·cases h
    | _ => cases h
   | bool => cases s' with
    | bool =>
     have e : ∀ {R' : Type} (k' : AV → Option R'), binK q op (.dat .bool a) (.dat .bool b) k' = boolT q op a b k' := fun _ => rfl
     rw [e] at h
     cases q with
     | bool =>
      cases op <;> first
       | exact ⟨_, h, fun _ => rfl⟩
       | cases h
     | _ => cases h
    | _ => cases h
   | str => cases s' with
    | str =>
     have e : ∀ {R' : Type} (k' : AV → Option R'), binK q op (.dat .str a) (.dat .str b) k' = strK op a b k' := fun _ => rfl
     rw [e] at h
     obtain ⟨v, h2, h3⟩ := strK_sel h
     exact ⟨v, h2, fun k' => by rw [e]; exact h3 k'⟩
    | _ => cases h
   | _ => cases s' <;> cases h
  | nil =>
   cases s with
   | list s =>
    have e : ∀ {R' : Type} (k' : AV → Option R'), binK q op (.dat (.list s) a) .nil k' = nil0K (List.length a) (nilK q op false k') := fun _ => rfl
    rw [e] at h
    unfold nil0K at h
    split at h
    ·cases h
    ·rename_i h0
     obtain ⟨v, h2, h3⟩ := nilK_sel h
     exact ⟨v, h2, fun k' => by rw [e]; unfold nil0K; rw [if_neg h0]; exact h3 k'⟩
   | _ => cases h
  | _ => cases s <;> cases h
 | nil =>
  cases y with
  | nil =>
   obtain ⟨v, h2, h3⟩ := nilK_sel (show nilK q op true k = some r from h)
   exact ⟨v, h2, fun k' => h3 k'⟩
  | _ => cases h
 | dne s =>
  cases y with
  | nil =>
   obtain ⟨v, h2, h3⟩ := nilK_sel (show nilK q op false k = some r from h)
   exact ⟨v, h2, fun k' => h3 k'⟩
  | _ => cases h
 | _ => cases h
theorem bin2K_sel {tb : TypeId → Option TI} {t : TypeId} {op : BinOp} {x y : AV} {k : AV → Option R} {r : R} (h : bin2K tb t op x y k = some r) : ∃ v, k v = some r ∧ ∀ {R' : Type} (k' : AV → Option R'), bin2K tb t op x y k' = k' v := by
 unfold bin2K at h
 split at h
 ·rename_i b hq
  unfold eqlK at h
  split at h
  ·exact ⟨_, h, fun k' => by unfold bin2K; rw [hq]; rfl⟩
  ·exact ⟨_, h, fun k' => by unfold bin2K; rw [hq]; rfl⟩
  ·cases h
 ·rename_i hq
  obtain ⟨v, h1, h2⟩ := binK_sel h
  exact ⟨v, h1, fun k' => by unfold bin2K; rw [hq]; exact h2 k'⟩
theorem sureK_sel : ∀ {l : List AV} {k : List AV → Option R} {r : R}, sureK l k = some r → ∃ l', k l' = some r ∧ namesA.namesL l' = namesA.namesL l ∧ ∀ {R' : Type} (k' : List AV → Option R'), sureK l k' = k' l'
 | [], k, r, h => ⟨[], h, rfl, fun _ => rfl⟩
 | v :: l, k, r, h => by
  unfold sureK at h
  split at h
  ·rename_i t x
   cases x with
   | none => cases h
   | some y =>
    have h : (sureK l fun l => k (.dp t y :: l)) = some r := h
    obtain ⟨l', h1, h2, h3⟩ := sureK_sel h
    exact ⟨.dp t y :: l', h1, by simp [namesA.namesL, namesA, h2], fun k' => h3 fun l => k' (.dp t y :: l)⟩
  ·rename_i hne
   obtain ⟨l', h1, h2, h3⟩ := sureK_sel h
   refine ⟨v :: l', h1, by simp [namesA.namesL, h2], fun k' => ?_⟩
   conv => lhs; unfold sureK
   split
   ·exact absurd rfl (hne _ _)
   ·exact h3 fun l => k' (v :: l)
theorem forkB_sel {v : AV} {k : Bool → Option R} {r : R} (h : forkB v k = some r) : ∃ b, k b = some r ∧ ∀ {R' : Type} (k' : Bool → Option R'), forkB v k' = k' b := by
 cases v with
 | dat t y =>
  cases t with
  | bool =>
   have e : ∀ {R' : Type} (k' : Bool → Option R'), forkB (.dat .bool y) k' = forkB1 y k' := fun _ => rfl
   rw [e] at h
   have key : ∀ (y : Bool) {R' : Type} (k' : Bool → Option R'), forkB1 y k' = k' y := by intro y R' k'; unfold forkB1; cases y <;> simp
   exact ⟨y, (key y k).symm.trans h, fun k' => (e k').trans (key y k')⟩
  | _ => cases h
 | test pos p i =>
  cases pos
  ·have e : ∀ {R' : Type} (k' : Bool → Option R'), forkB (.test false p i) k' = @ite _ p i (k' false) (k' true) := fun _ => rfl
   rw [e] at h
   split at h
   ·rename_i hp; exact ⟨false, h, fun k' => by rw [e, if_pos hp]⟩
   ·rename_i hp; exact ⟨true, h, fun k' => by rw [e, if_neg hp]⟩
  ·have e : ∀ {R' : Type} (k' : Bool → Option R'), forkB (.test true p i) k' = @ite _ p i (k' true) (k' false) := fun _ => rfl
   rw [e] at h
   split at h
   ·rename_i hp; exact ⟨true, h, fun k' => by rw [e, if_pos hp]⟩
   ·rename_i hp; exact ⟨false, h, fun k' => by rw [e, if_neg hp]⟩
 | _ => cases h
theorem idxK_sel {i : Int} {n : Nat} {x : Option R} {r : R} (h : idxK i n x = some r) : x = some r ∧ ∀ {R' : Type} (y : Option R'), idxK i n y = y := by
 obtain ⟨h0, _, h1, h2⟩ := idxK_ok h
 exact ⟨h2, fun y => by unfold idxK; rw [if_pos h0, if_pos h1]⟩
theorem cutK_sel {i j : Int} {n : Nat} {x : Option R} {r : R} (h : cutK i j n x = some r) : x = some r ∧ ∀ {R' : Type} (y : Option R'), cutK i j n y = y := by
 obtain ⟨h0, h1, h2, h3⟩ := cutK_ok h
 exact ⟨h3, fun y => by unfold cutK; rw [if_pos h0, if_pos h1, if_pos h2]⟩
theorem makeK_sel {i j : Int} {x : Option R} {r : R} (h : makeK i j x = some r) : x = some r ∧ ∀ {R' : Type} (y : Option R'), makeK i j y = y := by
 obtain ⟨h0, h1, h2, h3⟩ := makeK_ok h
 exact ⟨h3, fun y => by unfold makeK; rw [if_pos h0, if_pos h1, if_pos h2]⟩
theorem roomK_sel {n : Nat} {x : Option R} {r : R} (h : roomK n x = some r) : x = some r ∧ ∀ {R' : Type} (y : Option R'), roomK n y = y := by
 obtain ⟨h0, h1⟩ := roomK_ok h
 exact ⟨h1, fun y => by unfold roomK; rw [if_pos h0]⟩
structure CalmStep (E : En) (o : Oper) (st s : St) (v : AV) (ns : List (Nat × Blk)) : Prop where
 put : (st.layL ns).put o.dst v some = some s
 fresh : ∀ b blk, look ns b = some blk → st.find b = none
 mono : ∀ st' : St, st'.n = st.n → (∀ x ∈ o.op.operands, st'.ev x = st.ev x) → (∀ x ∈ o.op.operands, ∀ b ∈ namesA (st.ev x), ∀ blk, st.find b = some blk → st'.find b = some blk) → (∀ b blk, look ns b = some blk → st'.find b = none) →
  opK E o st' some = (st'.layL ns).put o.dst v some
theorem CalmStep.plain {v : AV} (hp : st.put o.dst v some = some s) (hm : ∀ st' : St, st'.n = st.n → (∀ x ∈ o.op.operands, st'.ev x = st.ev x) → (∀ x ∈ o.op.operands, ∀ b ∈ namesA (st.ev x), ∀ blk, st.find b = some blk → st'.find b = some blk) → opK E o st' some = st'.put o.dst v some) : CalmStep E o st s v [] :=
 ⟨hp, (fun b blk h => by cases h), (fun st' h0 h1 h2 _ => hm st' h0 h1 h2)⟩
theorem CalmStep.one {v : AV} {b : Nat} {blk : Blk} (hp : (st.lay b blk).put o.dst v some = some s) (hf : st.find b = none)
  (hm : ∀ st' : St, st'.n = st.n → (∀ x ∈ o.op.operands, st'.ev x = st.ev x) → (∀ x ∈ o.op.operands, ∀ c ∈ namesA (st.ev x), ∀ blk, st.find c = some blk → st'.find c = some blk) → st'.find b = none → opK E o st' some = (st'.lay b blk).put o.dst v some) :
  CalmStep E o st s v [(b, blk)] := by
 refine ⟨by rw [← St.lay_one]; exact hp, ?_, ?_⟩
 ·intro c blk' h
  rw [look_cons] at h
  split at h
  ·rename_i e; rw [e]; exact hf
  ·cases h
 ·intro st' h0 h1 h2 h3
  rw [← St.lay_one]
  exact hm st' h0 h1 h2 (h3 b blk (by rw [look_cons, if_pos rfl]))
theorem alloc_of {b : Nat} {blk : Blk} (h : st.find b = none) : st.alloc b blk = some (st.lay b blk) := by unfold St.alloc; rw [h]
theorem mem_ops {x : Operand} {ops : Array Operand} {o : Oper} (h : o.op.operands = ops) (hx : x ∈ ops.toList) : x ∈ o.op.operands := by rw [h]; simpa using hx
theorem loadC_mono {n : Nat} {p : AV} {cs : List AV} (h : loadC st n p = some cs) (hf : ∀ b ∈ namesA p, ∀ blk, st.find b = some blk → st'.find b = some blk) : loadC st' n p = some cs := by
 cases p with
 | box b i =>
  simp only [loadC] at h ⊢
  cases hb : st.find b with
  | none => rw [hb] at h; cases h
  | some blk => rw [hf b (by simp [namesA]) blk hb]; rw [hb] at h; exact h
 | ep b i =>
  simp only [loadC] at h ⊢
  cases hb : st.find b with
  | none => rw [hb] at h; cases h
  | some blk => rw [hf b (by simp [namesA]) blk hb]; rw [hb] at h; exact h
 | dp t x => exact h
 | _ => cases h
theorem cellsData_free : ∀ {t : Ty} {cs : List AV} {x : t.den}, namesA.namesL cs = [] → cellsData st t cs = some x → cellsData st' t cs = some x := by
 have one : ∀ {a : AV}, namesA.namesL [a] = [] → namesA a = [] := fun h => by rw [namesL_one] at h; exact h
 intro t
 induction t with
 | pair a b iha ihb =>
  intro cs x hn h
  rw [cellsData] at h ⊢
  have h1 : namesA.namesL (cs.take a.size) = [] := List.eq_nil_iff_forall_not_mem.2 fun c hc => by
   obtain ⟨v, hv, hm⟩ := mem_namesL.1 hc
   have := mem_namesL.2 ⟨v, List.mem_of_mem_take hv, hm⟩
   rw [hn] at this; cases this
  have h2 : namesA.namesL (cs.drop a.size) = [] := List.eq_nil_iff_forall_not_mem.2 fun c hc => by
   obtain ⟨v, hv, hm⟩ := mem_namesL.1 hc
   have := mem_namesL.2 ⟨v, List.mem_of_mem_drop hv, hm⟩
   rw [hn] at this; cases this
  split at h
  ·rename_i y hy
   split at h
   ·rename_i z hz
    rw [iha h1 hy, ihb h2 hz]
    exact h
   ·cases h
  ·cases h
 | struct t ih => intro cs x hn h; rw [cellsData] at h ⊢; exact ih hn h
 | unit => intro cs x hn h; rw [cellsData] at h ⊢; exact h
 | ptr t ih =>
  intro cs x hn h
  rw [cellsData] at h ⊢
  split at h
  ·rename_i a ha
   have hn' := one (by rw [← one?_some ha]; exact hn)
   cases a with
   | dp s y => exact h
   | box b i => simp [namesA] at hn'
   | _ => cases h
  ·cases h
 | clo g c ih =>
  intro cs x hn h
  rw [cellsData] at h ⊢
  split at h
  ·rename_i a ha
   have hn' := one (by rw [← one?_some ha]; exact hn)
   cases a with
   | clo f caps =>
    have h : (match Nat.beq f g with | true => cellsData st c caps | false => none) = some x := h
    show (match Nat.beq f g with | true => cellsData st' c caps | false => none) = some x
    split at h
    ·rename_i e
     exact ih (by simpa [namesA] using hn') h
    ·cases h
   | dat s y => exact h
   | _ => cases h
  ·cases h
 | list t ih =>
  intro cs x hn h
  rw [cellsData] at h ⊢
  split at h
  ·rename_i a ha
   have hn' := one (by rw [← one?_some ha]; exact hn)
   cases a with
   | dat s y => exact h
   | nil => exact h
   | dne s => exact h
   | own b => simp [namesA] at hn'
   | _ => cases h
  ·cases h
 | optr t ih =>
  intro cs x hn h
  rw [cellsData] at h ⊢
  split at h
  ·rename_i a ha
   have hn' := one (by rw [← one?_some ha]; exact hn)
   cases a with
   | dat s y => exact h
   | pnil => exact h
   | dp s y => exact h
   | box b i => simp [namesA] at hn'
   | _ => cases h
  ·cases h
 | map k v ihk ihv =>
  intro cs x hn h
  rw [cellsData] at h ⊢
  split at h
  ·rename_i a ha
   have hn' := one (by rw [← one?_some ha]; exact hn)
   cases a with
   | dat s y => exact h
   | om b => simp [namesA] at hn'
   | _ => cases h
  ·cases h
 | int k => intro cs x hn h; rw [cellsData] at h ⊢; exact h
 | bool => intro cs x hn h; rw [cellsData] at h ⊢; exact h
 | str => intro cs x hn h; rw [cellsData] at h ⊢; exact h
theorem cellsOf_names {v : AV} {cs : List AV} (h : cellsOf v = some cs) (hn : namesA v = []) : namesA.namesL cs = [] := by
 cases v with
 | agg l => cases h; exact hn
 | tup l => cases h
 | undef => cases h
 | gone => cases h
 | _ => cases h; rw [namesL_one]; exact hn
theorem elemsD_free {t : Ty} : ∀ {parts : List (Nat × AV)} {n : Nat} {l : List t.den}, (∀ p ∈ parts, namesA p.2 = []) → elemsD st t n parts = some l → elemsD st' t n parts = some l
 | [], n, l, _, h => h
 | (j, v) :: parts, n, l, hn, h => by
  unfold elemsD at h ⊢
  split at h
  ·split at h
   ·rename_i cs hcs
    split at h
    ·rename_i x hx
     rw [cellsData_free (cellsOf_names hcs (hn (j, v) (by simp))) hx]
     split at h
     ·rename_i xs hxs
      rw [elemsD_free (fun p hp => hn p (by simp [hp])) hxs]
      exact h
     ·cases h
    ·cases h
   ·cases h
  ·cases h
theorem eq_of_both {α : Type} {f g : Option α} (h1 : ∀ x, f = some x → g = some x) (h2 : ∀ x, g = some x → f = some x) : g = f := by
 cases f with
 | some x => exact h1 x rfl
 | none => cases g with
  | none => rfl
  | some y => exact (h2 y rfl).symm
theorem read1_free {d : D1} {v : AV} (hn : namesA v = []) : read1 st' d v = read1 st d v := by
 cases d with
 | dat t => exact eq_of_both (fun x h => cellsData_free (by rw [namesL_one]; exact hn) h) (fun x h => cellsData_free (by rw [namesL_one]; exact hn) h)
 | own e t => cases v with
  | own b => simp [namesA] at hn
  | _ => rfl
 | cel t => rcases v with _ | _ | _ | _ | _ | _ | _ | _ | _ | ⟨b, _ | _⟩ | _ | _ | _ | _ | _ <;> first | rfl | (simp [namesA] at hn; done)
theorem namesL_cons {v : AV} {l : List AV} (h : namesA.namesL (v :: l) = []) : namesA v = [] ∧ namesA.namesL l = [] := by
 simpa [namesA.namesL] using h
theorem readL_free : ∀ {ds : List D1} {cells : List AV}, namesA.namesL cells = [] → readL st' ds cells = readL st ds cells
 | [], cells, _ => rfl
 | [d], cells, hn => by
  show (match one? cells with | some v => read1 st' d v | none => none) = (match one? cells with | some v => read1 st d v | none => none)
  cases ho : one? cells with
  | none => rfl
  | some v =>
   obtain rfl := one?_some ho
   exact read1_free (by rw [namesL_one] at hn; exact hn)
 | d :: d' :: ds, cells, hn => by
  cases cells with
  | nil => rfl
  | cons v cells =>
   obtain ⟨h1, h2⟩ := namesL_cons hn
   show (match read1 st' d v with
     | some x => match readL st' (d' :: ds) cells with
      | some y => some (x, y)
      | none => none
     | none => none) = (match read1 st d v with
     | some x => match readL st (d' :: ds) cells with
      | some y => some (x, y)
      | none => none
     | none => none)
   rw [read1_free (st := st) h1, readL_free h2]
theorem flatA_names : ∀ {ps : List (Bool × List D1)} {vs cells : List AV}, flatA ps vs = some cells → namesA.namesL vs = [] → namesA.namesL cells = []
 | [], [], cells, h, _ => by cases h; rfl
 | [], _ :: _, _, h, _ => by cases h
 | _ :: _, [], _, h, _ => by cases h
 | (b, ds) :: ps, v :: vs, cells, h, hn => by
  obtain ⟨h1, h2⟩ := namesL_cons hn
  rw [flatA] at h
  split at h
  ·cases h
  ·rename_i l hl
   have hl' := flatA_names hl h2
   split at h
   ·split at h
    ·rename_i cs hcs
     split at h
     ·cases h
      have hv : v = .agg cs := by cases v <;> first | (cases hcs; rfl) | (cases hcs)
      subst hv
      refine List.eq_nil_iff_forall_not_mem.2 fun c hc => ?_
      obtain ⟨u, hu, hm⟩ := mem_namesL.1 hc
      rcases List.mem_append.1 hu with hu | hu
      ·have := mem_namesL.2 ⟨u, hu, hm⟩
       rw [show namesA.namesL cs = [] from h1] at this; cases this
      ·have := mem_namesL.2 ⟨u, hu, hm⟩
       rw [hl'] at this; cases this
     ·cases h
    ·cases h
   ·split at h
    ·cases h
     simp [namesA.namesL, h1, hl']
    ·cases h
theorem datNames_free : ∀ {ds : List D1} {cells : List AV}, namesA.namesL cells = [] → datNames ds cells = [] ∧ ownIn ds cells = []
 | [], _, _ => by simp [datNames, ownIn]
 | d :: ds, [], _ => by cases d <;> simp [datNames, ownIn]
 | .dat t :: ds, v :: cells, h => by
  obtain ⟨h1, h2⟩ := namesL_cons h
  obtain ⟨h3, h4⟩ := datNames_free (ds := ds) h2
  exact ⟨by simp [datNames, h1, h3], by cases v <;> exact h4⟩
 | .own e t :: ds, v :: cells, h => by
  obtain ⟨h1, h2⟩ := namesL_cons h
  obtain ⟨h3, h4⟩ := datNames_free (ds := ds) h2
  refine ⟨h3, ?_⟩
  cases v with
  | own b => simp [namesA] at h1
  | _ => exact h4
 | .cel t :: ds, v :: cells, h => by
  obtain ⟨h1, h2⟩ := namesL_cons h
  obtain ⟨h3, h4⟩ := datNames_free (ds := ds) h2
  refine ⟨h3, ?_⟩
  rcases v with _ | _ | _ | _ | _ | _ | _ | _ | _ | ⟨b, _ | _⟩ | _ | _ | _ | _ | _ <;> first | exact h4 | (simp [namesA] at h1; done)
theorem sepK_free {ds : List D1} {cells : List AV} (h : namesA.namesL cells = []) : sepK st ds cells = some [] := by
 obtain ⟨h1, h2⟩ := datNames_free (ds := ds) h
 unfold sepK
 simp [h1, h2, addN, discover, nodupN]
theorem setOut1_free {d : D1} {x : d.den} {v : AV} {s : St} (hn : namesA v = []) (h : setOut1 st d x v = some s) : s = st ∧ ∀ st' : St, setOut1 st' d x v = some st' := by
 cases d with
 | dat t => cases h
 | own e t => cases v with
  | own b => simp [namesA] at hn
  | nil =>
   have h : some st = some s := h
   cases h
   exact ⟨rfl, fun _ => rfl⟩
  | _ => cases h
 | cel t => rcases v with _ | _ | _ | _ | _ | _ | _ | _ | _ | ⟨b, _ | _⟩ | _ | _ | _ | _ | _ <;> first | (cases h; done) | (simp [namesA] at hn; done)
theorem setOuts_free : ∀ {ds : List D1} {x : dens ds} {cells : List AV} {st s : St}, namesA.namesL cells = [] → setOuts st ds x cells = some s → s = st ∧ ∀ st' : St, setOuts st' ds x cells = some st'
 | [], x, cells, st, s, hn, h => by
  cases cells with
  | nil =>
   have h : some st = some s := h
   cases h
   exact ⟨rfl, fun _ => rfl⟩
  | cons _ _ => cases h
 | [d], x, cells, st, s, hn, h => by
  have h : (match one? cells with | some v => setOut1 st d x v | none => none) = some s := h
  split at h
  ·rename_i v hv
   obtain rfl := one?_some hv
   exact setOut1_free (by rw [namesL_one] at hn; exact hn) h
  ·cases h
 | d :: d' :: ds, x, cells, st, s, hn, h => by
  cases cells with
  | nil => cases h
  | cons v cells =>
   obtain ⟨h1, h2⟩ := namesL_cons hn
   have hB : (match setOut1 st d x.1 v with | some st => setOuts st (d' :: ds) x.2 cells | none => none) = some s := h
   split at hB
   ·rename_i st1 hst1
    obtain ⟨e0, e1⟩ := setOut1_free h1 hst1
    subst e0
    obtain ⟨e0, e2⟩ := setOuts_free h2 hB
    subst e0
    refine ⟨rfl, fun st' => ?_⟩
    show (match setOut1 st' d x.1 v with | some st => setOuts st (d' :: ds) x.2 cells | none => none) = some st'
    rw [e1 st']
    exact e2 st'
   ·cases hB
theorem layL_layL (st : St) (ns ms : List (Nat × Blk)) : (st.layL ns).layL ms = st.layL (ms ++ ns) := by
 unfold St.layL
 congr 1
 funext c
 simp only [look_append]
 cases look ms c <;> rfl
theorem namesL_append {l m : List AV} : namesA.namesL (l ++ m) = namesA.namesL l ++ namesA.namesL m := by
 induction l with
 | nil => rfl
 | cons v l ih => simp [namesA.namesL, ih]
theorem namesL_argsF {f : Nat} {l caps : List AV} (h1 : namesA.namesL l = []) (h2 : namesA.namesL caps = []) : namesA.namesL (argsF f l caps) = [] := by
 cases hb : Nat.ble bfst f with
 | false => rw [argsF_low hb, namesL_append, h1, h2]; rfl
 | true =>
  rw [argsF_high hb]
  show namesA (.agg caps) ++ namesA.namesL l = []
  rw [h1, List.append_nil]
  simpa [namesA] using h2
theorem cellsAV_names : ∀ (t : Ty) (x : t.den), namesA.namesL (cellsAV t x) = []
 | .int _, _ => rfl
 | .bool, _ => rfl
 | .str, _ => rfl
 | .unit, _ => rfl
 | .pair a b, x => by simp [cellsAV, namesL_append, cellsAV_names a, cellsAV_names b]
 | .struct t, x => cellsAV_names t x
 | .list _, _ => rfl
 | .ptr _, _ => rfl
 | .clo _ _, _ => rfl
 | .map _ _, _ => rfl
 | .optr _, _ => rfl
theorem placeL_free : ∀ {ds : List D1} {x : dens ds} {nm : Nat} {st s : St} {cs : List AV}, placeL st nm ds x = some (cs, s) →
  ∃ ns, s = st.layL ns ∧ (∀ b blk, look ns b = some blk → st.find b = none) ∧ (∀ b ∈ namesA.namesL cs, look ns b ≠ none) ∧ ∀ st' : St, (∀ b blk, look ns b = some blk → st'.find b = none) → placeL st' nm ds x = some (cs, st'.layL ns) := by
 have one : ∀ {d : D1} {x : d.den} {nm : Nat} {st s : St} {c : AV}, place1 st nm d x = some (c, s) →
   ∃ ns, s = st.layL ns ∧ (∀ b blk, look ns b = some blk → st.find b = none) ∧ (∀ b ∈ namesA c, look ns b ≠ none) ∧ ∀ st' : St, (∀ b blk, look ns b = some blk → st'.find b = none) → place1 st' nm d x = some (c, st'.layL ns) := by
  intro d x nm st s c h
  cases d with
  | dat t =>
   have h : (match cellsAV t x with | [v] => some (v, st) | _ => none) = some (c, s) := h
   split at h
   ·rename_i v hv
    cases h
    refine ⟨[], rfl, (fun b blk h => by cases h), (fun b hb => by
     have := cellsAV_names t x
     rw [hv, namesL_one] at this
     rw [this] at hb; cases hb), fun st' _ => ?_⟩
    show (match cellsAV t x with | [v] => some (v, st') | _ => none) = _
    rw [hv]; rfl
   ·cases h
  | own e t =>
   have h : (match st.alloc nm (.flat e t x) with | some st' => some (AV.own nm, st') | none => none) = some (c, s) := h
   split at h
   ·rename_i st1 hal
    cases h
    obtain ⟨hf, rfl⟩ := alloc_find hal
    refine ⟨[(nm, .flat e t x)], by rw [St.lay_one], ?_, (fun b hb => by simp only [namesA, List.mem_singleton] at hb; rw [look_cons, if_pos hb]; simp), fun st' hf' => ?_⟩
    ·intro b blk hb
     rw [look_cons] at hb
     split at hb
     ·rename_i e; rw [e]; exact hf
     ·cases hb
    ·show (match st'.alloc nm (.flat e t x) with | some st' => some (AV.own nm, st') | none => none) = _
     rw [alloc_of (hf' nm _ (by rw [look_cons, if_pos rfl])), St.lay_one]
   ·cases h
  | cel t =>
   have h : (match st.alloc nm (.cells (cellsAV t x)) with | some st' => some (AV.box nm 0, st') | none => none) = some (c, s) := h
   split at h
   ·rename_i st1 hal
    cases h
    obtain ⟨hf, rfl⟩ := alloc_find hal
    refine ⟨[(nm, .cells (cellsAV t x))], by rw [St.lay_one], ?_, (fun b hb => by simp only [namesA, List.mem_singleton] at hb; rw [look_cons, if_pos hb]; simp), fun st' hf' => ?_⟩
    ·intro b blk hb
     rw [look_cons] at hb
     split at hb
     ·rename_i e; rw [e]; exact hf
     ·cases hb
    ·show (match st'.alloc nm (.cells (cellsAV t x)) with | some st' => some (AV.box nm 0, st') | none => none) = _
     rw [alloc_of (hf' nm _ (by rw [look_cons, if_pos rfl])), St.lay_one]
   ·cases h
 intro ds
 induction ds with
 | nil =>
  intro x nm st s cs h
  cases h
  exact ⟨[], rfl, (fun b blk h => by cases h), (fun b hb => by simp [namesA.namesL] at hb), fun st' _ => rfl⟩
 | cons d ds ih =>
  intro x nm st s cs h
  cases ds with
  | nil =>
   have h : (match place1 st nm d x with | some (v, st) => some ([v], st) | none => none) = some (cs, s) := h
   split at h
   ·rename_i c st1 h1
    cases h
    obtain ⟨ns, q1, q2, q4, q3⟩ := one h1
    refine ⟨ns, q1, q2, (by rw [namesL_one]; exact q4), fun st' hf => ?_⟩
    show (match place1 st' nm d x with | some (v, st) => some ([v], st) | none => none) = _
    rw [q3 st' hf]
   ·cases h
  | cons d' ds =>
   have h : (match place1 st nm d x.1 with
    | some (v, st) => match placeL st (nm + 1) (d' :: ds) x.2 with
     | some (vs, st) => some (v :: vs, st)
     | none => none
    | none => none) = some (cs, s) := h
   split at h
   ·rename_i c st1 h1
    split at h
    ·rename_i cs' st2 h2
     cases h
     obtain ⟨ns, rfl, q2, q4, q3⟩ := one h1
     obtain ⟨ms, rfl, p2, p4, p3⟩ := ih h2
     have hdis : ∀ b blk, look ms b = some blk → look ns b = none ∧ st.find b = none := by
      intro b blk hb
      have := p2 b blk hb
      cases hn : look ns b with
      | none => exact ⟨rfl, by simpa [St.layL, hn] using this⟩
      | some b' => simp [St.layL, hn] at this
     refine ⟨ms ++ ns, layL_layL _ _ _, ?_, (fun b hb => by
      simp only [namesA.namesL, List.mem_append] at hb
      rw [look_append]
      rcases hb with hb | hb
      ·cases hm : look ms b with
       | some _ => simp
       | none => exact q4 b hb
      ·cases hm : look ms b with
       | some _ => simp
       | none => exact absurd hm (p4 b hb)), ?_⟩
     ·intro b blk hb
      rw [look_append] at hb
      split at hb
      ·rename_i v hv; exact (hdis b v hv).2
      ·exact q2 b blk hb
     ·intro st' hf
      have h1' := q3 st' (fun b blk hb => by
       cases hm : look ms b with
       | none => exact hf b blk (by rw [look_append, hm]; exact hb)
       | some b' => exact hf b b' (by rw [look_append, hm]))
      have h2' := p3 (st'.layL ns) (fun b blk hb => by
       obtain ⟨e1, _⟩ := hdis b blk hb
       simp only [St.layL, e1]
       exact hf b blk (by rw [look_append, hb]))
      show (match place1 st' nm d x.1 with
       | some (v, st) => match placeL st (nm + 1) (d' :: ds) x.2 with
        | some (vs, st) => some (v :: vs, st)
        | none => none
       | none => none) = _
      rw [h1']
      simp only [h2', layL_layL]
    ·cases h
   ·cases h
theorem ownCells_free : ∀ {ds : List D1} {cells : List AV}, namesA.namesL cells = [] → namesA.namesL (ownCells ds cells) = []
 | [], _, _ => by simp [ownCells, namesA.namesL]
 | .own e t :: ds, [], _ => by simp [ownCells, namesA.namesL]
 | .dat t :: ds, [], _ => by simp [ownCells, namesA.namesL]
 | .cel t :: ds, [], _ => by simp [ownCells, namesA.namesL]
 | .cel t :: ds, v :: cells, h => by
  simp [ownCells, namesA.namesL, (namesL_cons h).1, ownCells_free (ds := ds) (namesL_cons h).2]
 | .dat t :: ds, v :: cells, h => ownCells_free (ds := ds) (namesL_cons h).2
 | .own e t :: ds, v :: cells, h => by
  simp [ownCells, namesA.namesL, (namesL_cons h).1, ownCells_free (ds := ds) (namesL_cons h).2]
theorem compsA_names : ∀ {rs : List (Bool × List D1)} {cs vs : List AV}, compsA rs cs = some vs → ∀ b ∈ namesA.namesL vs, b ∈ namesA.namesL cs
 | [], [], vs, h, b, hb => by cases h; exact hb
 | [], _ :: _, vs, h, b, hb => by simp [compsA] at h
 | (true, ds) :: rs, cs, vs, h, b, hb => by
  simp only [compsA] at h
  split at h
  ·rename_i l hl
   cases h
   simp only [namesA.namesL, namesA, List.mem_append] at hb
   rcases hb with hb | hb
   ·obtain ⟨v, hv, hm⟩ := mem_namesL.1 hb
    exact mem_namesL.2 ⟨v, List.mem_of_mem_take hv, hm⟩
   ·obtain ⟨v, hv, hm⟩ := mem_namesL.1 (compsA_names hl b hb)
    exact mem_namesL.2 ⟨v, List.mem_of_mem_drop hv, hm⟩
  ·cases h
 | (false, ds) :: rs, cs, vs, h, b, hb => by
  match ds, cs, h with
  | [_], c :: cs, h =>
   simp only [compsA] at h
   split at h
   ·rename_i l hl
    cases h
    simp only [namesA.namesL, List.mem_append] at hb ⊢
    rcases hb with hb | hb
    ·exact .inl hb
    ·exact .inr (compsA_names hl b hb)
   ·cases h
  | [], _, h => simp [compsA] at h
  | _ :: _ :: _, _, h => simp [compsA] at h
  | [_], [], h => simp [compsA] at h
theorem put_ex {k : St → Option R} {dst : Option Tmp} {v : AV} {r : R} (h : st.put dst v k = some r) : ∃ s, st.put dst v some = some s ∧ k s = some r := by
 rw [put_bind] at h
 exact Option.bind_eq_some_iff.1 h
theorem put_sel {dst : Option Tmp} {v : AV} (h : st.put dst v some = some s) (k : St → Option R) : st.put dst v k = k s := by
 rw [put_bind, h]; rfl
theorem callAny_ex {nm : Nat} {dst : Option Tmp} {args : List AV} {k : St → Option R} {r : R} : ∀ {l : List Does}, callAny nm st dst args k l = some r → ∃ s, callAny nm st dst args some l = some s ∧ k s = some r
 | [], h => by cases h
 | S :: l, h => by
  unfold callAny at h ⊢
  split at h
  ·split at h
   ·rename_i x hx
    unfold callK at h ⊢
    split at h
    ·cases h
    ·rename_i rch hsep
     obtain ⟨y, hy, hB⟩ := Option.bind_eq_some_iff.1 h
     simp only [hy, Option.bind_some]
     clear h
     split at hB
     ·cases hB
     ·split at hB
      ·cases hB
      ·split at hB
       ·cases hB
       ·split at hB
        ·exact put_ex hB
        ·exact put_ex hB
        ·cases hB
   ·exact callAny_ex h
  ·exact callAny_ex h
theorem callAny_sel {nm : Nat} {dst : Option Tmp} {args : List AV} (k : St → Option R) : ∀ {l : List Does}, callAny nm st dst args some l = some s → callAny nm st dst args k l = k s
 | [], h => by cases h
 | S :: l, h => by
  unfold callAny at h ⊢
  split at h
  ·split at h
   ·rename_i x hx
    unfold callK at h ⊢
    split at h
    ·cases h
    ·rename_i rch hsep
     obtain ⟨y, hy, hB⟩ := Option.bind_eq_some_iff.1 h
     simp only [hy, Option.bind_some]
     clear h
     split at hB
     ·cases hB
     ·split at hB
      ·cases hB
      ·split at hB
       ·cases hB
       ·split at hB
        ·exact put_sel hB k
        ·exact put_sel hB k
        ·cases hB
   ·exact callAny_sel k h
  ·exact callAny_sel k h
theorem frzN_layL : ∀ {l : List Nat} {ns : List (Nat × Blk)} {st s : St} {d : Tmp} {v : AV}, (∀ b ∈ l, look ns b ≠ none) → frzN ((st.layL ns).set d v) l = some s →
  ∃ ns', s = (st.layL ns').set d v ∧ (∀ b, (look ns' b = none ↔ look ns b = none)) ∧ ∀ st' : St, frzN ((st'.layL ns).set d v) l = some ((st'.layL ns').set d v)
 | [], ns, st, s, d, v, _, h => by
  cases h
  exact ⟨ns, rfl, fun b => Iff.rfl, fun st' => rfl⟩
 | b :: l, ns, st, s, d, v, hl, h => by
  have find : ∀ st : St, ((st.layL ns).set d v).find b = match look ns b with | some c => some c | none => st.find b := fun st => rfl
  have hlay : ∀ (st : St) (blk : Blk), ((st.layL ns).set d v).lay b blk = (st.layL ((b, blk) :: ns)).set d v := by
   intro st blk
   rw [← St.lay_layL]
   rfl
  have step : ∀ blk : Blk, look ns b = some blk → ∀ blk' : Blk, frzN ((st.layL ((b, blk') :: ns)).set d v) l = some s → (∀ st' : St, frzN ((st'.layL ns).set d v) (b :: l) = frzN ((st'.layL ((b, blk') :: ns)).set d v) l) →
    ∃ ns', s = (st.layL ns').set d v ∧ (∀ b, (look ns' b = none ↔ look ns b = none)) ∧ ∀ st' : St, frzN ((st'.layL ns).set d v) (b :: l) = some ((st'.layL ns').set d v) := by
   intro blk hb blk' h1 h2
   obtain ⟨ns', q1, q2, q3⟩ := frzN_layL (fun c hc => by
    rw [look_cons]
    split
    ·exact fun e => by cases e
    ·exact hl c (List.mem_cons_of_mem _ hc)) h1
   refine ⟨ns', q1, fun c => ?_, fun st' => (h2 st').trans (q3 st')⟩
   rw [q2 c, look_cons]
   split
   ·rename_i e
    rw [e, hb]
    exact ⟨fun e => (by cases e), fun e => (by cases e)⟩
   ·exact Iff.rfl
  cases hb : look ns b with
  | none => exact absurd hb (hl b (by simp))
  | some blk =>
   have hf : ∀ st : St, ((st.layL ns).set d v).find b = some blk := fun st => by rw [find, hb]
   cases blk with
   | flat e t x =>
    refine step _ hb (.frz e t x) ?_ ?_
    ·unfold frzN at h; rw [hf] at h; simp only [hlay] at h; exact h
    ·intro st'; conv => lhs; unfold frzN
     rw [hf]; simp only [hlay]
   | frz e t x =>
    have h' : frzN ((st.layL ns).set d v) l = some s := by unfold frzN at h; rw [hf] at h; exact h
    obtain ⟨ns', q1, q2, q3⟩ := frzN_layL (fun c hc => hl c (List.mem_cons_of_mem _ hc)) h'
    refine ⟨ns', q1, q2, fun st' => ?_⟩
    conv => lhs; unfold frzN
    rw [hf]; exact q3 st'
   | mp kt vt x =>
    refine step _ hb (.fmp kt vt x) ?_ ?_
    ·unfold frzN at h; rw [hf] at h; simp only [hlay] at h; exact h
    ·intro st'; conv => lhs; unfold frzN
     rw [hf]; simp only [hlay]
   | fmp kt vt x =>
    have h' : frzN ((st.layL ns).set d v) l = some s := by unfold frzN at h; rw [hf] at h; exact h
    obtain ⟨ns', q1, q2, q3⟩ := frzN_layL (fun c hc => hl c (List.mem_cons_of_mem _ hc)) h'
    refine ⟨ns', q1, q2, fun st' => ?_⟩
    conv => lhs; unfold frzN
    rw [hf]; exact q3 st'
   | cells cs => unfold frzN at h; rw [hf] at h; cases h
   | que e t x => unfold frzN at h; rw [hf] at h; cases h
theorem dom1 {ns ns' : List (Nat × Blk)} (h : ∀ b, (look ns' b = none ↔ look ns b = none)) (hf : ∀ b blk, look ns b = some blk → st.find b = none) : ∀ b blk, look ns' b = some blk → st.find b = none := by
 intro b blk hb
 cases hn : look ns b with
 | none => rw [(h b).2 hn] at hb; cases hb
 | some blk0 => exact hf b blk0 hn
theorem dom2 {ns ns' : List (Nat × Blk)} (h : ∀ b, (look ns' b = none ↔ look ns b = none)) (hf : ∀ b blk, look ns' b = some blk → st.find b = none) : ∀ b blk, look ns b = some blk → st.find b = none :=
 dom1 (fun b => (h b).symm) hf
theorem fz_step {dst : Option Tmp} {v : AV} {ns : List (Nat × Blk)} {s0 : St} (h0 : (st.layL ns).put dst v some = some s0) (hn : ∀ b ∈ namesA v, look ns b ≠ none) (h : fzK E dst some s0 = some s) :
  ∃ ns', (st.layL ns').put dst v some = some s ∧ (∀ b, (look ns' b = none ↔ look ns b = none)) ∧
   ∀ st' : St, st'.n = st.n → ∃ s1, (st'.layL ns).put dst v some = some s1 ∧ fzK E dst some s1 = (st'.layL ns').put dst v some := by
 cases dst with
 | none =>
  have h : some s0 = some s := h
  cases h
  exact ⟨ns, h0, fun b => Iff.rfl, fun st' _ => ⟨_, rfl, rfl⟩⟩
 | some d =>
  have hput : ∀ (st : St) (ns : List (Nat × Blk)), (st.layL ns).put (some d) v some = match Nat.blt d st.n with | true => some ((st.layL ns).set d v) | false => none := fun st ns => rfl
  rw [hput] at h0
  split at h0
  ·rename_i hlt
   cases h0
   unfold fzK at h
   simp only at h
   split at h
   ·rename_i hz
    cases h
    refine ⟨ns, by rw [hput, hlt], fun b => Iff.rfl, fun st' hn' => ⟨(st'.layL ns).set d v, by rw [hput, hn', hlt], ?_⟩⟩
    unfold fzK
    simp only [hz]
    rw [hput, hn', hlt]
   ·rename_i hz
    split at h
    ·rename_i s2 hfz
     cases h
     rw [St.get_set, if_pos rfl] at hfz
     obtain ⟨ns', q1, q2, q3⟩ := frzN_layL hn hfz
     refine ⟨ns', by rw [hput, hlt, q1], q2, fun st' hn' => ⟨(st'.layL ns).set d v, by rw [hput, hn', hlt], ?_⟩⟩
     unfold fzK
     simp only [hz]
     rw [St.get_set, if_pos rfl, q3 st', hput, hn', hlt]
    ·cases h
  ·cases h0
theorem callAny_free {nm : Nat} {dst : Option Tmp} {args : List AV} (hn : namesA.namesL args = []) : ∀ {l : List Does}, callAny nm st dst args some l = some s →
  ∃ v ns, (st.layL ns).put dst v some = some s ∧ (∀ b blk, look ns b = some blk → st.find b = none) ∧ (∀ b ∈ namesA v, look ns b ≠ none) ∧ ∀ st' : St, (∀ b blk, look ns b = some blk → st'.find b = none) → callAny nm st' dst args some l = (st'.layL ns).put dst v some
 | [], h => by cases h
 | S :: l, h => by
  unfold callAny at h
  split at h
  ·rename_i cells hfl
   have hcn := flatA_names hfl hn
   split at h
   ·rename_i x hx
    unfold callK at h
    rw [sepK_free hcn] at h
    simp only at h
    obtain ⟨y, hy, hB⟩ := Option.bind_eq_some_iff.1 h
    clear h
    have hfz : ∀ st : St, frzIf ((flatC S.rs ++ outsC S.ps).all (·.apart)) st [] = some st := by intro st; unfold frzIf; split <;> rfl
    rw [hfz] at hB
    simp only at hB
    split at hB
    ·cases hB
    ·rename_i st1 hso
     obtain ⟨e0, hso'⟩ := setOuts_free (ownCells_free hcn) hso
     subst e0
     split at hB
     ·cases hB
     ·rename_i cs st2 hpl
      obtain ⟨ns, e0, q2, q4, q3⟩ := placeL_free hpl
      subst e0
      have go : ∀ v, (∀ b ∈ namesA v, b ∈ namesA.namesL cs) → (match compsA S.rs cs with | some [v] => (st1.layL ns).put dst v some | some vs => (st1.layL ns).put dst (.tup vs) some | none => none) = (st1.layL ns).put dst v some →
        (∀ st : St, (match compsA S.rs cs with | some [v] => st.put dst v some | some vs => st.put dst (.tup vs) some | none => none) = st.put dst v some) → (st1.layL ns).put dst v some = some s →
        ∃ v ns, (st1.layL ns).put dst v some = some s ∧ (∀ b blk, look ns b = some blk → st1.find b = none) ∧ (∀ b ∈ namesA v, look ns b ≠ none) ∧ ∀ st' : St, (∀ b blk, look ns b = some blk → st'.find b = none) → callAny nm st' dst args some (S :: l) = (st'.layL ns).put dst v some := by
       intro v hnv _ hv hs
       refine ⟨v, ns, hs, q2, (fun b hb => q4 b (hnv b hb)), fun st' hf => ?_⟩
       unfold callAny
       simp only [hfl]
       rw [readL_free (st := st1) hcn, hx]
       simp only
       unfold callK
       rw [sepK_free hcn]
       simp only [hy, Option.bind_some]
       rw [hfz]
       simp only [hso' st', q3 st' hf]
       exact hv _
      split at hB
      ·rename_i v hv
       refine go v (fun b hb => compsA_names hv b (by rw [namesL_one]; exact hb)) (by rw [hv]) (fun st => by rw [hv]) hB
      ·rename_i vs hne hv
       have e : ∀ st : St, (match compsA S.rs cs with | some [v] => st.put dst v some | some vs => st.put dst (.tup vs) some | none => none) = st.put dst (.tup vs) some := by
        intro st
        rw [hv]
        match vs, hne with
        | [], _ => rfl
        | [v], hne => exact absurd rfl (hne v)
        | _ :: _ :: _, _ => rfl
       exact go (.tup vs) (fun b hb => compsA_names hv b (by simpa [namesA] using hb)) (e _) e hB
      ·cases hB
   ·rename_i hx
    obtain ⟨v, ns, q1, q2, q4, q3⟩ := callAny_free hn h
    refine ⟨v, ns, q1, q2, q4, fun st' hf => ?_⟩
    rw [← q3 st' hf]
    conv => lhs; unfold callAny
    simp only [hfl]
    rw [readL_free (st := st) hcn, hx]
  ·rename_i hfl
   obtain ⟨v, ns, q1, q2, q4, q3⟩ := callAny_free hn h
   refine ⟨v, ns, q1, q2, q4, fun st' hf => ?_⟩
   rw [← q3 st' hf]
   conv => lhs; unfold callAny
   simp only [hfl]
theorem lenOfA_mono {v : AV} {n : Nat} (hn : lenOfA st v = some n) (hf : ∀ b ∈ namesA v, ∀ blk, st.find b = some blk → st'.find b = some blk) : lenOfA st' v = some n := by
 cases v with
 | own b =>
  simp only [lenOfA] at hn ⊢
  cases hb : st.find b with
  | none => rw [hb] at hn; cases hn
  | some blk => rw [hf b (by simp [namesA]) blk hb]; rw [hb] at hn; exact hn
 | dat s y => cases s <;> exact hn
 | nil => exact hn
 | dne s => exact hn
 | _ => cases hn
theorem lenOfM_mono {v : AV} {n : Nat} (hn : lenOfM st v = some n) (hf : ∀ b ∈ namesA v, ∀ blk, st.find b = some blk → st'.find b = some blk) : lenOfM st' v = some n := by
 cases v with
 | om b =>
  simp only [lenOfM] at hn ⊢
  cases hb : st.find b with
  | none => rw [hb] at hn; cases hn
  | some blk => rw [hf b (by simp [namesA]) blk hb]; rw [hb] at hn; exact hn
 | dat s y => cases s <;> exact hn
 | _ => cases hn
theorem mapOf_mono {kt vt : Ty} {v : AV} {l : List (kt.den × vt.den)} (hn : mapOf st kt vt v = some l) (hf : ∀ b ∈ namesA v, ∀ blk, st.find b = some blk → st'.find b = some blk) : mapOf st' kt vt v = some l := by
 cases v with
 | om b =>
  have hn : mapB kt vt (st.find b) = some l := hn
  show mapB kt vt (st'.find b) = some l
  cases hb : st.find b with
  | none => rw [hb] at hn; cases hn
  | some blk =>
   have h2 := hf b (by simp [namesA]) blk hb
   rw [h2]; rw [hb] at hn; exact hn
 | dat s y => exact hn
 | _ => cases hn
theorem calm_call {c : Call} (h : opK E o st some = some s) (hc : calm o st = true) (ho : o.op = .call c) : ∃ v ns, CalmStep E o st s v ns := by
 cases hcal : c.callee with
 | invoke _ _ => simp only [opK, ho, hcal] at h; cases h
 | builtin b =>
  cases b with
  | len =>
   simp only [opK, ho, hcal] at h
   split at h
   ·rename_i x t hargs hts
    have hxm : x ∈ o.op.operands := by
     simp only [ho, Op.operands, Call.operands, hcal]
     simp only [Array.empty_append]
     rw [← Array.mem_toList_iff, hargs]; simp
    split at h
    ·rename_i e _ _ _ hi
     split at h
     ·rename_i n hn
      refine ⟨_, _, .plain h fun st' _ he hf => ?_⟩
      simp only [opK, ho, hcal, hargs, hts, hi]
      rw [he x hxm, lenOfA_mono hn (hf x hxm)]
     ·cases h
    ·rename_i kk ee _ _ _ hi
     split at h
     ·rename_i n hn
      refine ⟨_, _, .plain h fun st' _ he hf => ?_⟩
      simp only [opK, ho, hcal, hargs, hts, hi]
      rw [he x hxm, lenOfM_mono hn (hf x hxm)]
     ·cases h
    ·cases h
   ·cases h
  | max =>
   simp only [opK, ho, hcal] at h
   split at h
   ·rename_i x y hargs
    have hxm : x ∈ o.op.operands := by
     simp only [ho, Op.operands, Call.operands, hcal]
     simp only [Array.empty_append]
     rw [← Array.mem_toList_iff, hargs]; simp
    have hym : y ∈ o.op.operands := by
     simp only [ho, Op.operands, Call.operands, hcal]
     simp only [Array.empty_append]
     rw [← Array.mem_toList_iff, hargs]; simp
    split at h
    ·rename_i v hv
     refine ⟨_, _, .plain h fun st' _ he hf => ?_⟩
     simp only [opK, ho, hcal, hargs]
     rw [he x hxm, he y hym, hv]
    ·cases h
   ·cases h
  | min =>
   simp only [opK, ho, hcal] at h
   split at h
   ·rename_i x y hargs
    have hxm : x ∈ o.op.operands := by
     simp only [ho, Op.operands, Call.operands, hcal]
     simp only [Array.empty_append]
     rw [← Array.mem_toList_iff, hargs]; simp
    have hym : y ∈ o.op.operands := by
     simp only [ho, Op.operands, Call.operands, hcal]
     simp only [Array.empty_append]
     rw [← Array.mem_toList_iff, hargs]; simp
    split at h
    ·rename_i v hv
     refine ⟨_, _, .plain h fun st' _ he hf => ?_⟩
     simp only [opK, ho, hcal, hargs]
     rw [he x hxm, he y hym, hv]
    ·cases h
   ·cases h
  | _ => simp [calm, ho, hcal] at hc
 | value f =>
  simp only [calm, ho, hcal, Bool.and_eq_true] at hc
  have hnf : namesA (st.ev f) = [] := by simpa using hc.1.2
  have hna : namesA.namesL (c.args.toList.map st.ev) = [] := by simpa using hc.2
  have hfm : f ∈ o.op.operands := by simp [ho, Op.operands, Call.operands, hcal]
  have ham : ∀ x ∈ c.args.toList, x ∈ o.op.operands := fun x hx => by
   simp only [ho, Op.operands, Call.operands, hcal, Array.mem_append]
   exact .inr (by simpa using hx)
  simp only [opK, ho, hcal] at h
  split at h
  ·rename_i f' caps hv
   obtain ⟨l', h1, h2, h3⟩ := sureK_sel h
   obtain ⟨s0, h4, h5⟩ := callAny_ex h1
   obtain ⟨v, ns, q1, q2, q4, q3⟩ := callAny_free (namesL_argsF (h2.trans hna) (by rw [hv] at hnf; simpa [namesA] using hnf)) h4
   obtain ⟨ns', r1, r2, r3⟩ := fz_step q1 q4 h5
   refine ⟨v, ns', r1, dom1 r2 q2, fun st' hn' he _ hf => ?_⟩
   have e : c.args.toList.map st'.ev = c.args.toList.map st.ev := List.map_congr_left fun x hx => he x (ham x hx)
   obtain ⟨s1, p1, p2⟩ := r3 st' hn'
   simp only [opK, ho, hcal]
   rw [he f hfm, hv]
   simp only [e]
   rw [h3, callAny_sel _ ((q3 st' (dom2 r2 hf)).trans p1), p2]
  ·rename_i f' c' x hv
   obtain ⟨l', h1, h2, h3⟩ := sureK_sel h
   obtain ⟨s0, h4, h5⟩ := callAny_ex h1
   obtain ⟨v, ns, q1, q2, q4, q3⟩ := callAny_free (namesL_argsF (h2.trans hna) (cellsAV_names c' x)) h4
   obtain ⟨ns', r1, r2, r3⟩ := fz_step q1 q4 h5
   refine ⟨v, ns', r1, dom1 r2 q2, fun st' hn' he _ hf => ?_⟩
   have e : c.args.toList.map st'.ev = c.args.toList.map st.ev := List.map_congr_left fun x hx => he x (ham x hx)
   obtain ⟨s1, p1, p2⟩ := r3 st' hn'
   simp only [opK, ho, hcal]
   rw [he f hfm, hv]
   simp only [e]
   rw [h3, callAny_sel _ ((q3 st' (dom2 r2 hf)).trans p1), p2]
  ·cases h
theorem calm_spec (h : opK E o st some = some s) (hc : calm o st = true) : ∃ v ns, CalmStep E o st s v ns := by
 cases ho : o.op with
 | move x =>
  simp only [opK, ho] at h
  exact ⟨_, _, .plain h fun st' _ he _ => by simp only [opK, ho]; rw [he x (by simp [ho, Op.operands])]⟩
 | assign x =>
  simp only [opK, ho] at h
  exact ⟨_, _, .plain h fun st' _ he _ => by simp only [opK, ho]; rw [he x (by simp [ho, Op.operands])]⟩
 | pick c x y =>
  simp only [opK, ho] at h
  obtain ⟨t, h1, h2⟩ := forkB_sel h
  refine ⟨_, _, .plain h1 fun st' _ he _ => ?_⟩
  simp only [opK, ho]
  rw [he c (by simp [ho, Op.operands]), h2]
  cases t
  ·show st'.put o.dst (st'.ev y) some = st'.put o.dst (st.ev y) some
   rw [he y (by simp [ho, Op.operands])]
  ·show st'.put o.dst (st'.ev x) some = st'.put o.dst (st.ev x) some
   rw [he x (by simp [ho, Op.operands])]
 | binOp op t x y u =>
  simp only [opK, ho] at h
  obtain ⟨v, h1, h2⟩ := bin2K_sel h
  refine ⟨v, _, .plain h1 fun st' _ he _ => ?_⟩
  simp only [opK, ho]
  rw [he x (by simp [ho, Op.operands]), he y (by simp [ho, Op.operands]), h2]
 | unOp op t x =>
  simp only [opK, ho] at h
  split at h
  ·rename_i v hv
   refine ⟨v, _, .plain h fun st' _ he _ => ?_⟩
   simp only [opK, ho]
   rw [he x (by simp [ho, Op.operands]), hv]
  ·cases h
 | lookup t x ix ok =>
  simp only [opK, ho] at h
  split at h
  ·rename_i kt vt hmt
   split at h
   ·rename_i l key hl hkey
    refine ⟨_, _, .plain h fun st' _ he hf => ?_⟩
    simp only [opK, ho, hmt]
    rw [he x (by simp [ho, Op.operands]), he ix (by simp [ho, Op.operands]), mapOf_mono hl (hf x (by simp [ho, Op.operands])), hkey]
   ·cases h
  ·cases h
 | convert src dst x =>
  simp only [opK, ho] at h
  split at h
  ·rename_i j n hv
   split at h
   ·rename_i h1
    split at h
    ·rename_i h2
     refine ⟨_, _, .plain h fun st' _ he _ => ?_⟩
     simp only [opK, ho]
     rw [he x (by simp [ho, Op.operands]), hv]
     simp only [h1, h2]
    ·cases h
   ·cases h
  ·cases h
 | extract x i =>
  simp only [opK, ho] at h
  split at h
  ·rename_i vs hv
   split at h
   ·rename_i v h1
    refine ⟨v, _, .plain h fun st' _ he _ => ?_⟩
    simp only [opK, ho]
    rw [he x (by simp [ho, Op.operands]), hv]
    simp only [h1]
   ·cases h
  ·cases h
 | nilCheck x =>
  simp only [opK, ho] at h
  split at h
  ·rename_i b i hv
   exact ⟨_, _, .plain h fun st' _ he _ => by simp only [opK, ho]; rw [he x (by simp [ho, Op.operands]), hv]⟩
  ·rename_i b i hv
   exact ⟨_, _, .plain h fun st' _ he _ => by simp only [opK, ho]; rw [he x (by simp [ho, Op.operands]), hv]⟩
  ·rename_i b i hv
   exact ⟨_, _, .plain h fun st' _ he _ => by simp only [opK, ho]; rw [he x (by simp [ho, Op.operands]), hv]⟩
  ·rename_i t y hv
   cases y with
   | none => cases h
   | some y => exact ⟨_, _, .plain (v := .dp t y) h fun st' _ he _ => by simp only [opK, ho]; rw [he x (by simp [ho, Op.operands]), hv]; rfl⟩
  ·cases h
 | load t p =>
  simp only [opK, ho] at h
  split at h
  ·rename_i i hi
   split at h
   ·rename_i cs hcs
    split at h
    ·rename_i v hv
     refine ⟨v, _, .plain h fun st' _ he hf => ?_⟩
     simp only [opK, ho, hi]
     rw [he p (by simp [ho, Op.operands]), loadC_mono hcs (hf p (by simp [ho, Op.operands]))]
     simp only [hv]
    ·cases h
   ·cases h
  ·cases h
 | field t x f =>
  simp only [opK, ho] at h
  split at h
  ·rename_i fs _ _ _ hi
   split at h
   ·rename_i off ft hft
    split at h
    ·rename_i i cs hti hv
     split at h
     ·rename_i hle
      split at h
      ·rename_i v hvv
       refine ⟨v, _, .plain h fun st' _ he _ => ?_⟩
       simp only [opK, ho, hi, hft]
       rw [he x (by simp [ho, Op.operands]), hv]
       simp only [hti, hle, hvv]
      ·cases h
     ·cases h
    ·cases h
   ·cases h
  ·cases h
 | makeFunc fn first captured =>
  cases fn with
  | func f =>
   simp only [opK, ho] at h
   split at h
   ·rename_i h0
    split at h
    ·cases h
    ·rename_i hlow
     split at h
     ·rename_i h1
      refine ⟨_, _, .plain h fun st' _ he _ => ?_⟩
      have e : captured.toList.map st'.ev = captured.toList.map st.ev := List.map_congr_left fun x hx => he x (by simp [ho, Op.operands]; exact .inr (by simpa using hx))
      simp only [opK, ho, h0, e, h1, hlow]
     ·cases h
   ·rename_i h0
    split at h
    ·rename_i cs h1 h2
     split at h
     ·rename_i h3
      refine ⟨_, _, .plain h fun st' _ he _ => ?_⟩
      have e : first.toList.map st'.ev = first.toList.map st.ev := List.map_congr_left fun x hx => he x (by simp [ho, Op.operands]; exact .inl (by simpa using hx))
      cases hz : first.size with
      | zero =>
       have := congrArg List.length h1
       simp [hz] at this
      | succ n => simp only [opK, ho, hz, e, h1, h2, h3]
     ·cases h
    ·cases h
  | _ => simp only [opK, ho] at h; cases h
 | build t parts =>
  simp only [opK, ho] at h
  split at h
  ·rename_i i hi
   split at h
   ·rename_i fs hfs
    split at h
    ·rename_i hall
     split at h
     ·rename_i cs hcs
      refine ⟨_, _, .plain h fun st' _ he _ => ?_⟩
      have e : (parts.toList.map fun p => (p.1, st'.ev p.2)) = (parts.toList.map fun p => (p.1, st.ev p.2)) := List.map_congr_left fun p hp => by rw [he p.2 (by simp [ho, Op.operands]; exact ⟨p.1, by simpa using hp⟩)]
      simp only [opK, ho, hi, hfs, hall, e, hcs]
     ·cases h
    ·cases h
   ·cases h
  ·cases h
 | box e x =>
  simp only [opK, ho] at h
  split at h
  ·rename_i cs hcs
   unfold boxK at h
   split at h
   ·rename_i st1 h1 h2
    obtain ⟨hf, rfl⟩ := alloc_find h2
    refine ⟨_, _, .one h hf fun st' _ he _ hf' => ?_⟩
    simp only [opK, ho]
    rw [he x (by simp [ho, Op.operands]), hcs]
    simp only [boxK, h1, alloc_of hf']
   ·cases h
  ·cases h
 | alloc e =>
  simp only [opK, ho] at h
  split at h
  ·rename_i i hi
   unfold boxK at h
   split at h
   ·rename_i st1 h1 h2
    obtain ⟨hf, rfl⟩ := alloc_find h2
    refine ⟨_, _, .one h hf fun st' _ he _ hf' => ?_⟩
    simp only [opK, ho, hi]
    simp only [boxK, h1, alloc_of hf']
   ·cases h
  ·cases h
 | fieldAddr t p f =>
  simp only [opK, ho] at h
  split at h
  ·rename_i fs _ _ _ hi
   split at h
   ·rename_i off ft hft
    split at h
    ·cases h
    ·rename_i i hti
     split at h
     ·cases h
     ·rename_i hpos
      split at h
      ·rename_i b j hv
       split at h
       ·rename_i cs hb
        split at h
        ·rename_i hlt
         refine ⟨_, _, .plain h fun st' _ he hf => ?_⟩
         have hb' := hf p (by simp [ho, Op.operands]) b (by rw [hv]; simp [namesA]) _ hb
         simp only [opK, ho, hi, hft, hti, hpos]
         rw [he p (by simp [ho, Op.operands]), hv]
         simp only [hb', hlt]
        ·cases h
       ·cases h
      ·rename_i s' x hv
       split at h
       ·rename_i want hw
        split at h
        ·rename_i y hy
         refine ⟨_, _, .plain h fun st' _ he hf => ?_⟩
         simp only [opK, ho, hi, hft, hti, hpos]
         rw [he p (by simp [ho, Op.operands]), hv]
         simp only [hw, hy]
        ·cases h
       ·cases h
      ·cases h
   ·cases h
  ·cases h
 | indexAddr t x ix =>
  simp only [opK, ho] at h
  split at h
  ·rename_i e _ _ _ hi
   split at h
   ·cases h
   ·rename_i te hte
    split at h
    ·rename_i j i hix
     split at h
     ·rename_i s' l hv
      split at h
      ·rename_i hsz
       obtain ⟨h1, h2⟩ := idxK_sel h
       refine ⟨_, _, .plain h1 fun st' _ he hf => ?_⟩
       simp only [opK, ho, hi, hte]
       rw [he ix (by simp [ho, Op.operands]), hix, he x (by simp [ho, Op.operands]), hv]
       simp only [hsz]
       rw [h2]
      ·cases h
     ·rename_i b hv
      split at h
      ·rename_i e' s' l hb
       split at h
       ·rename_i hsz
        obtain ⟨h1, h2⟩ := idxK_sel h
        refine ⟨_, _, .plain h1 fun st' _ he hf => ?_⟩
        have hb' := hf x (by simp [ho, Op.operands]) b (by rw [hv]; simp [namesA]) _ hb
        simp only [opK, ho, hi, hte]
        rw [he ix (by simp [ho, Op.operands]), hix, he x (by simp [ho, Op.operands]), hv]
        simp only [hb', hsz]
        rw [h2]
       ·cases h
      ·rename_i e' s' l hb
       split at h
       ·rename_i hsz
        obtain ⟨h1, h2⟩ := idxK_sel h
        refine ⟨_, _, .plain h1 fun st' _ he hf => ?_⟩
        have hb' := hf x (by simp [ho, Op.operands]) b (by rw [hv]; simp [namesA]) _ hb
        simp only [opK, ho, hi, hte]
        rw [he ix (by simp [ho, Op.operands]), hix, he x (by simp [ho, Op.operands]), hv]
        simp only [hb', hsz]
        rw [h2]
       ·cases h
      ·rename_i e' s' l hb
       split at h
       ·rename_i hsz
        obtain ⟨h1, h2⟩ := idxK_sel h
        refine ⟨_, _, .plain h1 fun st' _ he hf => ?_⟩
        have hb' := hf x (by simp [ho, Op.operands]) b (by rw [hv]; simp [namesA]) _ hb
        simp only [opK, ho, hi, hte]
        rw [he ix (by simp [ho, Op.operands]), hix, he x (by simp [ho, Op.operands]), hv]
        simp only [hb', hsz]
        rw [h2]
       ·cases h
      ·cases h
     ·cases h
    ·cases h
  ·cases h
 | makeSlice t l c =>
  simp only [opK, ho] at h
  split at h
  ·rename_i e _ _ _ hi
   split at h
   ·rename_i i hie
    split at h
    ·rename_i s' hs
     split at h
     ·rename_i z hz
      split at h
      ·rename_i q1 q2 q3 q4
       split at h
       ·rename_i n m hn hm
        obtain ⟨h1, h2⟩ := makeK_sel h
        unfold rowK at h1
        split at h1
        ·rename_i st1 hal
         obtain ⟨hf, rfl⟩ := alloc_find hal
         refine ⟨_, _, .one h1 hf fun st' _ he _ hf' => ?_⟩
         simp only [opK, ho, hi, hie, hs, hz, q1, q2, q3, q4]
         rw [he l (by simp [ho, Op.operands]), he c (by simp [ho, Op.operands]), hn, hm]
         simp only
         rw [h2]
         simp only [rowK, alloc_of hf']
        ·cases h1
       ·cases h
      ·cases h
     ·cases h
    ·cases h
   ·cases h
  ·cases h
 | slice t x lo hi mx =>
  cases mx with
  | some _ => simp only [opK, ho] at h; cases h
  | none =>
   have hnm : namesA (st.ev x) = [] := by simpa [calm, ho] using hc
   have hqB : ∀ st' : St, queB st' (st.ev x) = none := by
    intro st'
    generalize st.ev x = u at hnm
    cases u <;> first | rfl | (simp [namesA] at hnm; done)
   simp only [opK, ho] at h
   have hbk : bareK E o (st.ev x) = true := by
    cases hb : bareK E o (st.ev x) with
    | true => rfl
    | false => simp only [hb] at h; cases h
   simp only [hbk] at h
   simp only [hnm, hqB, frzN] at h
   split at h
   ·rename_i e _ _ _ hi'
    split at h
    ·rename_i s' hs
     split at h
     ·cases h
     ·rename_i i hie
      split at h
      ·cases h
      ·rename_i hsz
       split at h
       ·cases h
       ·rename_i l hl
        split at h
        ·cases h
        ·rename_i p hp
         split at h
         ·cases h
         ·rename_i q hq
          obtain ⟨h1, h2⟩ := cutK_sel h
          refine ⟨_, _, .plain h1 fun st' _ he hf => ?_⟩
          have hx := he x (by simp [ho, Op.operands])
          have hl' : listOf st' s' (st.ev x) = some l := by
           generalize st.ev x = u at hl hnm
           cases u <;> first | exact hl | (simp [namesA] at hnm; done) | cases hl
          have hb : ∀ (d : Int) (y : Option Operand), (∀ z, y = some z → z ∈ o.op.operands) → boundA st' d y = boundA st d y := by
           intro d y hy
           cases y with
           | none => rfl
           | some z => simp only [boundA]; rw [he z (hy z rfl)]
          have hp' := (hb (0 : Int) lo (fun z hz => by subst hz; simp [ho, Op.operands])).trans hp
          have hq' := (hb ((List.length l : Nat) : Int) hi (fun z hz => by subst hz; simp [ho, Op.operands])).trans hq
          simp only [opK, ho]
          rw [hx]
          simp only [hbk, hi', hs, hie, hsz]
          rw [hnm]
          simp only [hqB, frzN]
          rw [hx, hl']
          simp only [hp', hq']
          rw [h2]
    ·cases h
   ·cases h
 | buildSlice t n parts =>
  have hnm : namesA.namesL (parts.toList.map fun p => st.ev p.2) = [] := by
   simp only [calm, ho, Bool.and_eq_true] at hc
   simpa using hc.2
  simp only [opK, ho, hnm, frzN] at h
  split at h
  ·rename_i e _ _ _ hi
   split at h
   ·rename_i i hie
    split at h
    ·rename_i s' hs
     split at h
     ·rename_i q1 q2 q3 q4
      split at h
      ·rename_i l hl
       unfold rowK at h
       split at h
       ·rename_i st1 hal
        obtain ⟨hf, rfl⟩ := alloc_find hal
        refine ⟨_, _, .one h hf fun st' _ he _ hf' => ?_⟩
        have e1 : (parts.toList.map fun p => st'.ev p.2) = (parts.toList.map fun p => st.ev p.2) := List.map_congr_left fun p hp => by rw [he p.2 (by simp [ho, Op.operands]; exact ⟨p.1, by simpa using hp⟩)]
        have e2 : (parts.toList.map fun p => (p.1, st'.ev p.2)) = (parts.toList.map fun p => (p.1, st.ev p.2)) := List.map_congr_left fun p hp => by rw [he p.2 (by simp [ho, Op.operands]; exact ⟨p.1, by simpa using hp⟩)]
        have e3 : elemsD st' s' 0 (parts.toList.map fun p => (p.1, st.ev p.2)) = some l := elemsD_free (by
         intro p hp
         obtain ⟨q, hq, rfl⟩ := List.mem_map.1 hp
         have : ∀ b ∈ namesA (st.ev q.2), b ∈ namesA.namesL (parts.toList.map fun p => st.ev p.2) := fun b hb => mem_namesL.2 ⟨_, List.mem_map.2 ⟨q, hq, rfl⟩, hb⟩
         rw [hnm] at this
         exact List.eq_nil_iff_forall_not_mem.2 fun b hb => by cases this b hb) hl
        simp only [opK, ho, hi, hie, hs, q1, q2, q3, q4, e1, hnm, frzN, e2, e3]
        simp only [rowK, alloc_of hf']
       ·cases h
      ·cases h
     ·cases h
    ·cases h
   ·cases h
  ·cases h
 | call c => exact calm_call h hc ho
 | _ => first | (simp [calm, ho] at hc; done) | (simp only [opK, ho] at h; cases h)
end
end Go.V
end
