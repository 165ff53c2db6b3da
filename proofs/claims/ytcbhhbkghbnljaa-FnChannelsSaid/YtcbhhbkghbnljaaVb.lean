/- An evaluator of Go code over typed data, and that the model runs as it says (part 2). Conditions: as each theorem states. My own. -/
import Derived.Test.YtcbhhbkghbnljaaVa
import Derived.Laws.OwnMore
section
namespace Go.V
open Go Go.RowKit
set_option linter.unusedVariables false
set_option linter.unusedSimpArgs false
section
variable {P : Program} {E : En} {R : Type} {w0 : World} {M : Mo} {X : Nat → Prop} {hd : Nat → Value} {st : St} {a : Act} {w w' : World}
variable {k : St → Option R} {r : R} {K : Act → World → Prop} {Q : Exit → Act → World → Prop} {o : Oper}
theorem mb {base : Nat} {e : TypeId} {size : Nat} {v : Value} {n : Nat} {xs : List Value} (h : w.ownsRow base e size v n xs) : v.oneCell' = true := by
 rcases h.2 with ⟨rfl, _⟩ | ⟨_, _, _, rfl, _⟩ <;> rfl
theorem yz {dst : Option Tmp} {e : TypeId} {t : Ty} {l : List t.den} {v : Value} {xs : List Value} (h : Rel w0 M X hd st a w) (ho : w'.os = w.os) (ht : w'.tape = w.tape) (hu : w'.output = w.output)
  (hs : w.heap.size ≤ w'.heap.size) (hk' : ∀ k, k < w.heap.size → w'.heap[k]? = w.heap[k]?) (hnew : ∀ r, az v = some r → w.heap.size ≤ r)
  (hown : w'.ownsRow 0 e t.size v (List.length l) xs) (hE : cw w (st.cx X hd w).N t l xs) (hk : Next w0 M X k r K) (hr : mm st dst e t l k = some r) : K (a.put dst v) w' := by
 unfold mm at hr
 split at hr
 ·rename_i st' hal
  obtain ⟨hf, rfl⟩ := cA hal
  have hrel := h.fresh (v := v) (blk := .flat e t l) hf ho ht hu hs hk' hnew (fun g => ⟨xs, by
   show w'.ownsRow 0 e t.size (if nameOf dst = nameOf dst then v else _) _ _
   rw [if_pos rfl]; exact hown, hE.move g.move⟩)
  refine ct hrel (v := .own (nameOf dst)) ?_ hk hr
  exact ⟨by show v = (if nameOf dst = nameOf dst then v else _); rw [if_pos rfl], mb hown, .flat e t l, e, t, List.length l, by show St.find (St.lay _ _ _) _ = _; rw [St.aW, if_pos rfl], rfl⟩
 ·cases hr
theorem Bz {s d : TypeId} {x : Operand} (ht : ek P E.tb) (ho : o.op = .convert s d x) (h : Rel w0 M X hd st a w) (hk : Next w0 M X k r K) (hr : opK E o st k = some r) : o.wp P a w K Q := by
 have hx := de h x
 simp only [opK, ho] at hr
 split at hr
 ·rename_i j n hv
  rw [hv] at hx
  have hx : a.eval x = .int j n := by simpa using (show [a.eval x] = [Value.int j n] from hx)
  split at hr
  ·rename_i j1 _ _ _ hs
   obtain ⟨en1⟩ := ht.entry hs
   split at hr
   ·rename_i j2 _ _ _ hd'
    obtain ⟨en2⟩ := ht.entry hd'
    have hr : st.put o.dst (AV.dat (Ty.int j2) (IntKind.wrap j2 n)) k = some r := (congrArg (fun z : Int => st.put o.dst (AV.dat (Ty.int j2) z) k) (mw j2 n)).symm.trans hr
    refine bW (v := .int j2 (IntKind.wrap j2 n)) (w' := w) ?_ (ct h (v := .dat (.int j2) (IntKind.wrap j2 n)) (Rt.of1 (rfl : [Value.int j2 _] = [Value.int j2 _])) hk hr)
    rw [show execOp a.eval o = _ from by simp only [execOp, ho]; rfl, hx]
    simp [convert, run_underlying (tf en1 rfl), run_underlying (tf en2 rfl), Conv.intToInt]
   ·cases hr
  ·cases hr
 ·cases hr
theorem zO {n m : Int} {x : Option R} (h : vN n m x = some r) : 0 ≤ n ∧ n ≤ m ∧ m.toNat ≤ 1099511627776 ∧ x = some r := by
 unfold vN at h
 split at h
 ·split at h
  ·split at h
   ·exact ⟨by assumption, by assumption, by assumption, h⟩
   ·cases h
  ·cases h
 ·cases h
theorem DC : ∀ {l m : List Value}, JB l m = true → l = m
 | [], [], _ => rfl
 | a :: l, b :: m, h => by
  simp only [JB, Bool.and_eq_true] at h
  rw [DC h.2]
  congr 1
  have h1 := h.1
  unfold eqZ at h1
  split at h1
  ·simp at h1; rw [h1.1, h1.2]
  ·simp at h1; rw [h1]
  ·simp at h1
   rename_i x y
   congr 1
   have hx : x.data = #[] := by simpa using h1.1
   have hy : y.data = #[] := by simpa using h1.2
   cases x; cases y; simp_all
  ·rfl
  ·cases h1
 | [], _ :: _, h => by cases h
 | _ :: _, [], h => by cases h
theorem ky {N : Nat → Prop} : ∀ {t : Ty} {z : List Value}, qe t = some z → Rc w N t (m5 t) z
 | .int _, z, h => by cases h; exact (rfl : [_] = [_])
 | .bool, z, h => by cases h; exact (rfl : [_] = [_])
 | .str, z, h => by cases h; exact (rfl : [_] = [_])
 | .unit, z, h => by cases h; exact (rfl : ([] : List Value) = [])
 | .pair a b, z, h => by
  simp only [qe] at h
  split at h
  ·rename_i c d h1 h2
   cases h
   exact ⟨c, d, rfl, ky h1, ky h2⟩
  ·cases h
 | .list t, z, h => by
  cases h
  exact ⟨none, 0, rfl, Nat.le_refl _, fun _ => rfl, fun i hi => absurd hi (Nat.not_lt_zero _)⟩
 | .struct t, z, h => ky (t := t) h
 | .ptr _, z, h => by cases h
 | .clo .., z, h => by cases h
 | .map .., z, h => by cases h
 | .optr _, z, h => by cases h
theorem cw.replicate {N : Nat → Prop} {t : Ty} {x : t.den} {z : List Value} (h : Rc w N t x z) : ∀ n, cw w N t (List.replicate n x) (List.replicate n z).flatten
 | 0 => rfl
 | n + 1 => ⟨z, (List.replicate n z).flatten, by simp [List.replicate_succ], h, cw.replicate h n⟩
theorem lS (z : List Value) (hz : 0 < z.length) : ∀ m, (madeCells z.toArray (m * z.length)).toList = (List.replicate m z).flatten
 | 0 => by simp [madeCells]
 | m + 1 => by
  have ih := lS z hz m
  simp only [madeCells, Array.toList_map, Array.toList_range, List.size_toArray] at ih ⊢
  rw [Nat.add_mul, Nat.one_mul, List.range_add, List.map_append, ih, List.replicate_succ', List.flatten_append]
  congr 1
  simp only [List.map_map, List.flatten_cons, List.flatten_nil, List.append_nil]
  apply List.ext_getElem
  ·simp
  ·intro i h1 h2
   simp at h1
   simp [Nat.mod_eq_of_lt h1, List.getElem?_eq_getElem h1]
theorem xr {t : TypeId} {l c : Operand} (ht : ek P E.tb) (ho : o.op = .makeSlice t l c) (h : Rel w0 M X hd st a w) (hk : Next w0 M X k r K) (hr : opK E o st k = some r) : o.wp P a w K Q := by
 have hl := de h l
 have hc := de h c
 simp only [opK, ho] at hr
 split at hr
 ·rename_i e n1 n2 n3 hi
  obtain ⟨en⟩ := ht.entry hi
  have hsl := iA en rfl
  split at hr
  ·rename_i i hie
   obtain ⟨en'⟩ := ht.entry hie
   split at hr
   ·rename_i s hs
    split at hr
    ·rename_i z hz
     split at hr
     ·rename_i q1 q2 q3 q4
      have q1 := DC q1
      have q2 := Nat.eq_of_beq_eq_true q2
      have q3 := Nat.le_of_ble_eq_true q3
      have q4 : 0 < i.size := by simpa [Nat.blt_eq] using q4
      split at hr
      ·rename_i n m hn hm
       rw [hn] at hl
       rw [hm] at hc
       have hl : a.eval l = .int .i64 n := by simpa using (show [a.eval l] = [Value.int .i64 n] from hl)
       have hc : a.eval c = .int .i64 m := by simpa using (show [a.eval c] = [Value.int .i64 m] from hc)
       obtain ⟨h0, h1, h2, hr⟩ := zO hr
       have main : ∀ (n m : Int), a.eval l = .int .i64 n → a.eval c = .int .i64 m → 0 ≤ n → n ≤ m → m.toNat ≤ 1099511627776 → mm st o.dst e s (List.replicate (Int.toNat n) (m5 s)) k = some r → o.wp P a w K Q := by
        intro n m hl hc h0 h1 h2 hr
        have hzl : z.length = s.size := (ky (w := w) (N := (st.cx X hd w).N) hz).length
        have hzc : en'.z.cells.toList = z := en'.hzero.symm.trans q1.symm
        have hmul : (en'.inf.bytes : Int) * m ≤ 281474976710656 := by
         have hb : en'.inf.bytes ≤ 64 := by rw [← en'.kL]; exact q3
         have hm' : m ≤ 1099511627776 := by omega
         have : (en'.inf.bytes : Int) * m ≤ 64 * m := Int.mul_le_mul_of_nonneg_right (by omega) (by omega)
         omega
        have hrun := run_make (P := P) w t e en'.inf en'.z hsl en'.hi en'.hz .i64 .i64 n m h0 h1 hmul (by omega)
        have hsz' : en'.inf.size = z.length := by rw [← en'.iL, hzl]; exact q2
        have hza : en'.z.cells = z.toArray := by rw [← hzc]
        rw [hza, hsz'] at hrun
        refine bW (v := .slice (some ⟨w.heap.size, 0, none⟩) n.toNat m.toNat) (w' := w.alloc (.cells (madeCells z.toArray (m.toNat * z.length)) e)) ?_
         (yz h rfl rfl rfl (by simp) (fun k hk => heap_alloc_old w _ k hk) (fun r hr => by simp [az] at hr; omega) (xs := (List.replicate n.toNat z).flatten) ?_ (cw.replicate (ky hz) n.toNat) hk hr)
        ·simp [execOp, ho, hl, hc, hrun]
        ·have hf := lS z (by omega) m.toNat
         refine ⟨?_, .inr ⟨w.heap.size, m.toNat, madeCells z.toArray (m.toNat * z.length), ?_, Nat.zero_le _, heap_alloc_new w _, ?_, ?_, ?_, ?_⟩⟩
         ·simp [hzl]
         ·simp
         ·simp; omega
         ·unfold maxLen; omega
         ·simp [size_madeCells, hzl]
         ·rw [hf]
          have e1 : m.toNat = n.toNat + (m.toNat - n.toNat) := by omega
          rw [e1, ← List.replicate_append_replicate, List.flatten_append, List.take_left']
          simp [hzl]
       exact main n m hl hc h0 h1 h2 hr
      ·cases hr
     ·cases hr
    ·cases hr
   ·cases hr
  ·cases hr
 ·cases hr
end
end Go.V
end
section
namespace Go.V
open Go Go.RowKit
set_option linter.unusedVariables false
set_option linter.unusedSimpArgs false
section
variable {P : Program} {E : En} {R : Type} {w0 : World} {M : Mo} {X : Nat → Prop} {hd : Nat → Value} {st : St} {a : Act} {w w' : World}
variable {k : St → Option R} {r : R} {K : Act → World → Prop} {Q : Exit → Act → World → Prop} {o : Oper}
theorem wZ {i j : Int} {n : Nat} {x : Option R} (h : BA i j n x = some r) : 0 ≤ i ∧ i ≤ j ∧ j ≤ n ∧ x = some r := by
 unfold BA at h
 split at h
 ·split at h
  ·split at h
   ·exact ⟨by assumption, by assumption, by assumption, h⟩
   ·cases h
  ·cases h
 ·cases h
theorem cL (v : AV) : ah.namesL [v] = ah v := by simp [ah.namesL]
theorem Rt.one {c : Cx} {v : AV} {x : Value} (h : Rt c v x) (hv : v ≠ .undef) (h2 : ∀ cs, v ≠ .agg cs) (h3 : ∀ cs, v ≠ .tup cs) : R1 c v x := by
 cases v with
 | agg cs => exact absurd rfl (h2 cs)
 | tup cs => exact absurd rfl (h3 cs)
 | _ => exact h
theorem pG (h : Rel w0 M X hd st a w) {d n : Int} {x : Option Operand} (hb : eS st d x = some n) : (x = none ∧ n = d) ∨ ∃ y, x = some y ∧ a.eval y = .int .i64 n := by
 cases x with
 | none => left; unfold eS at hb; exact ⟨rfl, by simpa using hb.symm⟩
 | some y =>
  right
  have hy := de h y
  unfold eS at hb
  simp only at hb
  split at hb
  ·rename_i m hm
   rw [hm] at hy
   cases hb
   exact ⟨y, rfl, by simpa using (show [a.eval y] = [Value.int .i64 n] from hy)⟩
  ·cases hb
theorem Et {t e : TypeId} {te : TI} (hs : P.underlying t = some (.slice e)) (en : Entry P e te) {A : Option Addr} {len cap : Nat} {lo hi : Option Operand} {i j : Int}
  (hlo : (lo = none ∧ i = 0) ∨ ∃ y, lo = some y ∧ a.eval y = .int .i64 i) (hhi : (hi = none ∧ j = len) ∨ ∃ y, hi = some y ∧ a.eval y = .int .i64 j) (h0 : 0 ≤ i) (h1 : i ≤ j) (h2 : j ≤ len) (h3 : len ≤ cap) :
  (Instr.sliceAt t (.slice A len cap) (lo.map a.eval) (hi.map a.eval) none).run P w =
   .ok (.slice (if cap = i.toNat then A else A.map (·.add (i.toNat * te.size))) (j.toNat - i.toNat) (cap - i.toNat)) w := by
 have hb1 : ∀ (y : Nat) (c : BoundsCode), j ≤ y → (Instr.sliceBound (.int .i64 j) y c).run P w = .ok j.toNat w := by
  intro y c hy
  simp [Instr.sliceBound, asIntOf, show 0 ≤ j by omega, hy]
 have hb2 : ∀ (c : BoundsCode), (Instr.sliceBound (.int .i64 i) j.toNat c).run P w = .ok i.toNat w := by
  intro c
  simp [Instr.sliceBound, asIntOf, h0]
  intro hh
  omega
 have hb3 : ∀ (c : BoundsCode), (Instr.sliceBound (.int .i64 i) len c).run P w = .ok i.toNat w := by
  intro c
  simp [Instr.sliceBound, asIntOf, h0, show i ≤ (len : Int) by omega]
 rcases hlo with ⟨rfl, rfl⟩ | ⟨y, rfl, hy⟩ <;> rcases hhi with ⟨rfl, rfl⟩ | ⟨z, rfl, hz⟩
 ·simp [Instr.sliceAt, Instr.slice, run_underlying hs, Instr.sliceBounds, dH en]
 ·simp [Instr.sliceAt, Instr.slice, run_underlying hs, Instr.sliceBounds, dH en, hz, hb1 cap _ (by omega)]
 ·simp [Instr.sliceAt, Instr.slice, run_underlying hs, Instr.sliceBounds, dH en, hy, hb3]
 ·simp [Instr.sliceAt, Instr.slice, run_underlying hs, Instr.sliceBounds, dH en, hy, hz, hb1 cap _ (by omega), hb2]
theorem Rc.cut {N : Nat → Prop} {t : Ty} {l : List t.den} {A : Option Addr} {len cap : Nat} (h : Rc w N (.list t) l [.slice A len cap]) {i j : Nat} (h1 : i ≤ j) (h2 : j ≤ List.length l) :
  len = List.length l ∧ len ≤ cap ∧ Rc w N (.list t) (List.drop i (List.take j l)) [.slice (if cap = i then A else A.map (·.add (i * t.size))) (j - i) (cap - i)] := by
 obtain ⟨A', cap', e, hc, hn, hel⟩ := h
 simp only [List.cons.injEq, Value.slice.injEq, and_true] at e
 obtain ⟨rfl, rfl, rfl⟩ := e
 have hl : (List.drop i (List.take j l)).length = j - i := by simp; omega
 refine ⟨rfl, hc, _, _, by rw [hl], by rw [hl]; omega, ?_, ?_⟩
 ·intro hA
  split at hA
  ·rename_i e; omega
  ·cases A with
   | none => have := hn rfl; omega
   | some _ => cases hA
 ·intro p hp
  have hp' : p < j - i := by rw [← hl]; exact hp
  obtain ⟨ad, rfl, c, hlen, hat, hr⟩ := hel (i + p) (by omega)
  have hne : cap ≠ i := by omega
  rw [if_neg hne]
  refine ⟨ad.add (i * t.size), rfl, c, hlen, ?_, ?_⟩
  ·rw [add_add, ← Nat.add_mul]; exact hat
  ·have : List.get (List.drop i (List.take j l)) ⟨p, hp⟩ = List.get l ⟨i + p, by omega⟩ := by simp
   rw [this]; exact hr
theorem Bp (ad : Addr) (n : Nat) : (ad.add n).block = ad.block := by
 unfold Addr.add
 (repeat' split) <;> rfl
theorem J2 (h : Rel w0 M X hd st a w) {x : Operand} {b : Nat} (hb : Ac st (st.ev x) = some b) : a.eval x = hd b := by
 have hx := de h x
 unfold Ac at hb
 split at hb
 ·rename_i b' hv
  rw [hv] at hx
  split at hb
  ·cases hb; exact hx.1
  ·cases hb
 ·cases hb
theorem tM {e : TypeId} {size : Nat} {v : Value} {n : Nat} {xs : List Value} (h : fp w e size v n xs) : v.oneCell' = true := by
 rcases h.2 with ⟨rfl, _⟩ | ⟨_, _, _, _, rfl, _⟩ <;> rfl
theorem B1 {e : TypeId} {size : Nat} {A : Option Addr} {n cap : Nat} {xs : List Value} (h : fp w e size (.slice A n cap) n xs) {p : Nat} (hp : p ≤ n) :
  fp w e size (.slice (if cap = p then A else A.map (·.add (p * size))) (n - p) (cap - p)) (n - p) (xs.drop (p * size)) := by
 refine ⟨by rw [List.length_drop, h.1, Nat.sub_mul], ?_⟩
 rcases h.2 with ⟨hn, rfl⟩ | ⟨g, off, cap', cur, hv, hg, h1, h2, h3, h4⟩
 ·cases hn
  obtain rfl : p = 0 := by omega
  exact .inl ⟨rfl, rfl⟩
 ·simp only [Value.slice.injEq, true_and] at hv
  obtain ⟨rfl, rfl⟩ := hv
  right
  by_cases e' : cap = p
  ·rw [if_pos e']
   refine ⟨g, off, cap - p, cur, rfl, hg, by omega, by omega, ?_, ?_⟩
   ·have : (cap - p) * size ≤ cap * size := Nat.mul_le_mul_right _ (by omega)
    omega
   ·have e2 : n - p = 0 := by omega
    rw [e2, Nat.zero_mul, List.take_zero, List.drop_eq_nil_of_le]
    rw [h.1]
    exact Nat.mul_le_mul_right _ (by omega)
  ·rw [if_neg e']
   have e3 : p * size + (cap - p) * size = cap * size := by rw [← Nat.add_mul]; congr 1; omega
   have e4 : p * size + (n - p) * size = n * size := by rw [← Nat.add_mul]; congr 1; omega
   refine ⟨g, off + p * size, cap - p, cur, by simp [add_lit], hg, by omega, by omega, by omega, ?_⟩
   rw [← h4, List.drop_take, List.drop_drop]
   congr 1
   omega
theorem J4 {t e : TypeId} {te : TI} {s : Ty} {x : Operand} {lo hi : Option Operand} {b : Nat} (hnp : M.np ≤ E.pin) (hsl : P.underlying t = some (.slice e)) (en' : Entry P e te) (hsz : te.size = s.size) (ho : o.op = .slice t x lo hi none) (h : Rel w0 M X hd st a w) (hk : Next w0 M X k r K)
  (hx : a.eval x = hd b) (hr : J3 E o.dst e s st b (eS st (0 : Int) lo) hi k = some r) : o.wp P a w K Q := by
 unfold J3 at hr
 split at hr
 ·rename_i e1 t1 l1 p hf hp
  split at hr
  ·rename_i l he hl
   rw [Bool.and_eq_true] at he
   have hpb := Nat.le_of_ble_eq_true he.1
   have he := Nat.eq_of_beq_eq_true he.2
   subst he
   obtain ⟨e2, e3⟩ := cast?_some hl
   cases e2
   cases e3
   obtain ⟨h0, h1, h2, hr⟩ := wZ hr
   have h1 : p ≤ ((List.length l1 : Nat) : Int) := h1
   obtain ⟨xs, hown, hE⟩ := h.blocks b _ hf
   have hown : fp w e1 s.size (hd b) (List.length l1) xs := hown
   obtain ⟨A, cap, hv, hcap⟩ : ∃ A cap, hd b = .slice A (List.length l1) cap ∧ List.length l1 ≤ cap := by
    rcases hown.2 with ⟨hv, hn⟩ | ⟨g, off, cap, cur, hv, _, hc, _⟩
    ·exact ⟨none, 0, by rw [hv, hn], by omega⟩
    ·exact ⟨_, _, hv, hc⟩
   rw [hv] at hown
   have hcut := B1 hown (p := p.toNat) (by omega)
   have hlen : List.length (List.drop p.toNat l1) = List.length l1 - p.toNat := List.length_drop
   have hrun := Et (w := w) (a := a) (A := A) (len := List.length l1) (cap := cap) (lo := lo) (hi := none) (i := p) (j := (List.length l1 : Nat)) hsl en' (pG h hp) (.inl ⟨rfl, rfl⟩) h0 (by omega) (by omega) hcap
   rw [hsz, show ((List.length l1 : Nat) : Int).toNat = List.length l1 from Int.toNat_natCast _] at hrun
   refine bW (w' := w) (v := .slice (if cap = p.toNat then A else A.map (·.add (p.toNat * s.size))) (List.length l1 - p.toNat) (cap - p.toNat)) ?_ ?_
   ·simp only [Option.map_none] at hrun
    simp [execOp, ho, hx, hv, hrun]
   ·have hrel := h.renew (blk' := .que e1 s (List.drop p.toNat l1)) (v := .slice (if cap = p.toNat then A else A.map (·.add (p.toNat * s.size))) (List.length l1 - p.toNat) (cap - p.toNat)) (w' := w) hf rfl (by omega) rfl rfl rfl (Nat.le_refl _) (fun _ _ _ => rfl)
     (fun g hg => .inl (by
      rw [hv]
      cases A with
      | none => split at hg <;> cases hg
      | some ad =>
       split at hg
       ·exact hg
       ·simp only [Option.map_some, az] at hg ⊢
        rw [Bp] at hg
        exact hg))
     (fun g => ⟨xs.drop (p.toNat * s.size), by
      show fp w e1 s.size (if b = b then _ else _) (List.length (List.drop p.toNat l1)) _
      rw [if_pos rfl, hlen]; exact hcut, (cw.drop hE _).move g.move⟩)
    refine ct hrel (v := .own b) ?_ hk hr
    exact ⟨by show _ = (if b = b then _ else _); rw [if_pos rfl], tM hcut, .que e1 s (List.drop p.toNat l1), e1, s, _, by show St.find (St.lay _ _ _) _ = _; rw [St.aW, if_pos rfl], rfl⟩
  ·cases hr
 ·cases hr
theorem Ib {t : TypeId} {x : Operand} {lo hi : Option Operand} (hnp : M.np ≤ E.pin) (ht : ek P E.tb) (ho : o.op = .slice t x lo hi none) (h : Rel w0 M X hd st a w) (hk : Next w0 M X k r K) (hr : opK E o st k = some r) : o.wp P a w K Q := by
 simp only [opK, ho] at hr
 have hbk : ke E o (st.ev x) = true := by
  cases hb : ke E o (st.ev x) with
  | true => rfl
  | false => simp only [hb] at hr; cases hr
 simp only [hbk] at hr
 split at hr
 ·rename_i e n1 n2 n3 hi'
  obtain ⟨en⟩ := ht.entry hi'
  have hsl := iA en rfl
  split at hr
  ·rename_i s hs
   split at hr
   ·cases hr
   ·rename_i i hie
    obtain ⟨en'⟩ := ht.entry hie
    split at hr
    ·cases hr
    ·rename_i hsz
     have hsz := Nat.eq_of_beq_eq_true hsz
     split at hr
     ·rename_i b hb
      exact J4 hnp hsl en' hsz ho h hk (J2 h hb) hr
     ·split at hr
      ·cases hr
      ·rename_i st1 hfz
       obtain ⟨h1, hfr, _, _, htm, _, _⟩ := gC h hfz
       split at hr
       ·cases hr
       ·rename_i l hl
        have hx := de h1 x
        have hx1 : R1 (st1.cx X hd w) (st1.ev x) (a.eval x) := by
         refine hx.one ?_ ?_ ?_ <;> (intros; intro e'; rw [e'] at hl; cases hl)
        have hRc := pQ h1.blocks h1.clear hx1 (by rw [St.DE htm]; exact hfr) hl
        split at hr
        ·cases hr
        ·rename_i p hp
         split at hr
         ·cases hr
         ·rename_i q hq
          obtain ⟨h0, h01, h02, hr⟩ := wZ hr
          have hRc' := hRc
          obtain ⟨A, cap, e1, _⟩ := hRc'
          have e1 : a.eval x = .slice A (List.length l) cap := by simpa using e1
          rw [e1] at hRc
          obtain ⟨_, hc, hcut⟩ := hRc.cut (i := p.toNat) (j := q.toNat) (by omega) (by omega)
          refine bW (w' := w) (v := .slice (if cap = p.toNat then A else A.map (·.add (p.toNat * i.size))) (q.toNat - p.toNat) (cap - p.toNat)) ?_ (ct h1 (v := .dat (.list s) _) ?_ hk hr)
          ·have := Et (w := w) (A := A) (a := a) hsl en' (pG h1 hp) (pG h1 hq) h0 h01 h02 hc
           simp [execOp, ho, e1, this]
          ·rw [hsz]; exact hcut
  ·cases hr
 ·cases hr
theorem Rt.zero {c : Cx} {v : AV} {x : Value} (h : Rt c v x) (hv : v.zx = true) : R0 c v x := by
 cases v with
 | clo f caps => cases hv
 | agg cs => cases hv
 | tup cs => cases hv
 | _ => exact h
theorem R1.zero {c : Cx} {v : AV} {x : Value} (h : R1 c v x) (hv : v.zx = true) : R0 c v x := by
 cases v with
 | clo f caps => cases hv
 | _ => exact h
theorem bH.K2 {c : Cx} : ∀ {l : List AV} {m : List Value}, bH (R1 c) l m → l.all AV.zx = true → bH (R0 c) l m
 | [], [], _, _ => trivial
 | a :: l, b :: m, h, ha => by
  rw [List.all_cons, Bool.and_eq_true] at ha
  exact ⟨h.1.zero ha.1, bH.K2 h.2 ha.2⟩
 | [], _ :: _, h, _ => h.elim
 | _ :: _, [], h, _ => h.elim
theorem zN {f : FuncId} {first captured : Array Operand} (ho : o.op = .makeFunc (.func f) first captured) (h : Rel w0 M X hd st a w) (hk : Next w0 M X k r K) (hr : opK E o st k = some r) : o.wp P a w K Q := by
 simp only [opK, ho] at hr
 split at hr
 ·rename_i h0
  split at hr
  ·cases hr
  ·rename_i hlow
   split at hr
   ·rename_i hall
    have hf : first = #[] := Array.eq_empty_of_size_eq_zero h0
    have ha : bH (R0 (st.cx X hd w)) (captured.toList.map st.ev) (captured.toList.map a.eval) :=
     bH.map _ _ _ fun x hx => (de h x).zero (List.all_eq_true.1 hall _ (List.mem_map_of_mem hx))
    refine bW (v := .func (.func f) #[] (captured.map a.eval)) (w' := w) ?_ (ct h (v := .clo f (captured.toList.map st.ev)) (Rt.of1 ⟨captured.toList.map a.eval, by rw [sW hlow]; congr 1; apply Array.toList_inj.1; simp, ha⟩) hk hr)
    simp [execOp, ho, hf, Instr.makeFunc]
   ·cases hr
 ·split at hr
  ·rename_i cs h1 h2
   split at hr
   ·rename_i hall
    have hc : captured = #[] := Array.eq_empty_of_size_eq_zero h2
    obtain ⟨x, hx, hxv⟩ : ∃ x, first = #[x] ∧ st.ev x = .agg cs := by
     rcases first with ⟨l⟩
     match l, h1 with
     | [], h1 => simp at h1
     | [x], h1 => exact ⟨x, rfl, by simpa using h1⟩
     | _ :: _ :: _, h1 => simp at h1
    have hev := de h x
    rw [hxv] at hev
    obtain ⟨vs, hvs, hal⟩ := hev
    have ha : bH (R0 (st.cx X hd w)) cs vs := hal.K2 hall
    have hb : Nat.ble gM (f + gM) = true := Nat.ble_eq_true_of_le (Nat.le_add_left _ _)
    refine bW (v := .func (.func f) #[a.eval x] #[]) (w' := w) ?_ (ct h (v := .clo (f + gM) cs) (Rt.of1 ⟨vs, by rw [vC hb, Nat.add_sub_cancel, hvs], ha⟩) hk hr)
    simp [execOp, ho, hx, hc, Instr.makeFunc]
   ·cases hr
  ·cases hr
theorem FD (h : Rel w0 M X hd st a w) {v : AV} {x : Value} {n : Nat} (hx : Rt (st.cx X hd w) v x) (hn : pO st v = some n) : ∃ A cap, x = .slice A n cap := by
 cases v with
 | dat t l =>
  cases t <;> try (cases hn; done)
  rename_i t
  have hn : some (List.length l) = some n := hn
  cases hn
  obtain ⟨A, cap, e, _⟩ := (show Rc w (st.cx X hd w).N (.list t) l [x] from hx)
  exact ⟨A, cap, by simpa using e⟩
 | nil =>
  have hn : some 0 = some n := hn
  cases hn
  exact ⟨none, 0, hx⟩
 | dne s =>
  have hn : some 0 = some n := hn
  cases hn
  obtain ⟨a, cap, rfl⟩ := (show ∃ a cap, x = .slice (some a) 0 cap from hx)
  exact ⟨some a, cap, rfl⟩
 | own b =>
  have hx' : x = hd b := hx.1
  have key : ∀ {e : TypeId} {size m : Nat} {xs : List Value}, w.ownsRow 0 e size (hd b) m xs → ∃ A cap, x = .slice A m cap := by
   intro e size m xs ho
   rcases ho.2 with ⟨h1, rfl⟩ | ⟨g, cap, cur, h1, _⟩
   ·exact ⟨none, 0, hx'.trans h1⟩
   ·exact ⟨_, cap, hx'.trans h1⟩
  simp only [pO] at hn
  cases hf : st.find b with
  | none => rw [hf] at hn; cases hn
  | some blk =>
   rw [hf] at hn
   have hb := h.blocks b blk hf
   cases blk with
   | flat e t l => cases hn; obtain ⟨xs, ho, _⟩ := hb; exact key ho
   | frz e t l => cases hn; obtain ⟨xs, ho, _⟩ := hb; exact key ho
   | que e t l =>
    cases hn
    obtain ⟨xs, ho, _⟩ := hb
    rcases ho.2 with ⟨h1, h2⟩ | ⟨g, off, cap, cur, h1, _⟩
    ·exact ⟨none, 0, by rw [h2]; exact hx'.trans h1⟩
    ·exact ⟨_, cap, hx'.trans h1⟩
   | _ => cases hn
 | _ => cases hn
theorem DT {mx : Bool} {x y : Operand} {v : AV} (h : Rel w0 M X hd st a w) (hv : JO mx (st.ev x) (st.ev y) = some v) : ∃ (j : IntKind) (m n : Int), a.eval x = .int j m ∧ a.eval y = .int j n ∧ v = .dat (.int j) (mmV mx m n) := by
 have hx := de h x
 have hy := de h y
 generalize st.ev x = u at hv hx
 generalize st.ev y = u' at hv hy
 unfold JO at hv
 split at hv
 ·rename_i j m j' n
  have hx : [a.eval x] = [Value.int j m] := hx
  have hy : [a.eval y] = [Value.int j' n] := hy
  split at hv
  ·rename_i hj
   have hj : j = j' := of_decide_eq_true hj
   subst hj
   cases hv
   exact ⟨j, m, n, by simpa using hx, by simpa using hy, rfl⟩
  ·cases hv
 ·cases hv
theorem LF {c : Call} (ho : o.op = .call c) (hc : c.callee = .builtin .max) (h : Rel w0 M X hd st a w) (hk : Next w0 M X k r K) (hr : opK E o st k = some r) : o.wp P a w K Q := by
 simp only [opK, ho, hc] at hr
 split at hr
 ·rename_i x y hargs
  split at hr
  ·rename_i v hv
   obtain ⟨j, m, n, hx, hy, rfl⟩ := DT h hv
   have ha : c.args = #[x, y] := by rw [← Array.toList_inj, hargs]
   refine bW (v := .int j (jI m n)) (w' := w) ?_ (ct h (v := .dat (.int j) (jI m n)) (Rt.of1 (rfl : [Value.int j _] = [Value.int j _])) hk hr)
   simp [execOp, ho, resolve, hc, ha, hx, hy, invoke, builtin, jI, Builtin.max_, Builtin.max2]
  ·cases hr
 ·cases hr
theorem LH {c : Call} (ho : o.op = .call c) (hc : c.callee = .builtin .min) (h : Rel w0 M X hd st a w) (hk : Next w0 M X k r K) (hr : opK E o st k = some r) : o.wp P a w K Q := by
 simp only [opK, ho, hc] at hr
 split at hr
 ·rename_i x y hargs
  split at hr
  ·rename_i v hv
   obtain ⟨j, m, n, hx, hy, rfl⟩ := DT h hv
   have ha : c.args = #[x, y] := by rw [← Array.toList_inj, hargs]
   refine bW (v := .int j (zP m n)) (w' := w) ?_ (ct h (v := .dat (.int j) (zP m n)) (Rt.of1 (rfl : [Value.int j _] = [Value.int j _])) hk hr)
   simp [execOp, ho, resolve, hc, ha, hx, hy, invoke, builtin, zP, Builtin.min_, Builtin.min2]
  ·cases hr
 ·cases hr
end
end Go.V
end
section
namespace Go.V
open Go Go.RowKit
set_option linter.unusedVariables false
set_option linter.unusedSimpArgs false
section
variable {P : Program} {E : En} {R : Type} {w0 : World} {M : Mo} {X : Nat → Prop} {hd : Nat → Value} {st : St} {a : Act} {w w' : World}
variable {k : St → Option R} {r : R} {K : Act → World → Prop} {Q : Exit → Act → World → Prop} {o : Oper}
theorem vM {N : Nat → Prop} {t : Ty} {ad : Addr} : ∀ (l : List t.den) (p : Nat), (∀ i (h : i < l.length), ∃ c, c.length = t.size ∧ At w N (ad.add ((p + i) * t.size)) c ∧ Rc w N t l[i] c) →
  ∃ news, news.length = l.length * t.size ∧ (∀ j u, news[j]? = some u → w.cell? (ad.add (p * t.size + j)) = some u) ∧ cw w N t l news
 | [], p, _ => ⟨[], by simp, by simp, rfl⟩
 | x :: l, p, h => by
  obtain ⟨c, hc, hat, hr⟩ := h 0 (by simp)
  obtain ⟨news, hn, hcell, hE⟩ := vM l (p + 1) (fun i hi => by
   obtain ⟨c, q1, q2, q3⟩ := h (i + 1) (by simpa using hi)
   exact ⟨c, q1, by rw [show p + 1 + i = p + (i + 1) by omega]; exact q2, by simpa using q3⟩)
  refine ⟨c ++ news, by simp [hc, hn, Nat.add_mul]; omega, ?_, c, news, rfl, by simpa using hr, hE⟩
  intro j u hu
  rw [List.getElem?_append] at hu
  split at hu
  ·rename_i hj
   obtain ⟨_, rfl⟩ := List.getElem?_eq_some_iff.1 hu
   have := (hat j hj).2
   rw [add_add] at this
   simpa using this
  ·rename_i hj
   have := hcell _ _ hu
   rw [show p * t.size + j = (p + 1) * t.size + (j - c.length) by rw [Nat.add_mul, hc]; omega]
   exact this
theorem oB (h : Rel w0 M X hd st a w) {t : Ty} {v : AV} {x : Value} {m : List t.den} (hx : Rt (st.cx X hd w) v x) (hm : eV st t v = some m) :
  (x = .slice none 0 0 ∧ m = []) ∨ ∃ ad cap news, x = .slice (some ad) (List.length m) cap ∧ news.length = List.length m * t.size ∧ (∀ j u, news[j]? = some u → w.cell? (ad.add j) = some u) ∧ cw w (st.cx X hd w).N t m news := by
 cases v with
 | dat s y =>
  obtain ⟨rfl, rfl⟩ := cast?_some (show cast? s (.list t) y = some m from hm)
  obtain ⟨A, cap, e, hc, hn, hel⟩ := (show Rc w (st.cx X hd w).N (.list t) y [x] from hx)
  have e : x = .slice A (List.length y) cap := by simpa using e
  cases A with
  | none =>
   left
   have := hn rfl
   have hl : List.length y = 0 := by omega
   exact ⟨by rw [e, hl, this], List.eq_nil_of_length_eq_zero hl⟩
  | some ad =>
   right
   obtain ⟨news, q1, q2, q3⟩ := vM (w := w) (N := (st.cx X hd w).N) (ad := ad) y 0 (fun i hi => by
    obtain ⟨ad', e', c, p1, p2, p3⟩ := hel i hi
    cases e'
    exact ⟨c, p1, by simpa using p2, p3⟩)
   exact ⟨ad, cap, news, e, q1, fun j u hu => by have := q2 j u hu; simpa using this, q3⟩
 | nil =>
  have hm : some [] = some m := hm
  cases hm
  exact .inl ⟨hx, rfl⟩
 | dne s =>
  have hm : some [] = some m := hm
  cases hm
  obtain ⟨ad, cap, rfl⟩ := (show ∃ ad cap, x = .slice (some ad) 0 cap from hx)
  exact .inr ⟨ad, cap, [], rfl, by simp, fun j u hu => by simp at hu, rfl⟩
 | own b =>
  have hv : x = hd b := hx.1
  obtain ⟨e, xs, ho, hE⟩ := Es h.blocks (show vk t (st.find b) = some m from hm)
  rcases ho.2 with ⟨h1, h2⟩ | ⟨g, cap, cur, h1, _⟩
  ·exact .inl ⟨hv.trans h1, List.eq_nil_of_length_eq_zero h2⟩
  ·exact .inr ⟨⟨g, 0, none⟩, cap, xs, hv.trans h1, ho.1, fun j u hu => ho.cells (g := g) (by rw [h1]; rfl) j u hu, hE⟩
 | _ => cases hm
theorem k0 (t ty e : TypeId) (i : TypeInfo) (z : Value) (size bytes : Nat) (ht : P.underlying t = some (.slice e)) (hi : P.info? e = some i) (hz : i.zero = some z)
  (iL : i.size = size) (hby : i.bytes = bytes) (hzs : z.cells.size = size) (hsz : 0 < size)
  (v : Value) (n : Nat) (xs : List Value) (hown : w.ownsRow 0 e size v n xs)
  (ad : Addr) (m c : Nat) (news : List Value) (hl : news.length = m * size) (hnews : ∀ j u, news[j]? = some u → w.cell? (ad.add j) = some u) (h1 : ∀ u ∈ news, u.oneCell' = true)
  (h63 : n + m ≤ maxLen) (kL : (n + m) * bytes ≤ 140737488355328) :
  ∃ v' w', (Builtin.append_ #[t, t] ty #[v, .slice (some ad) m c]).run P w = .ok v' w' ∧ w'.ownsRow 0 e size v' (n + m) (xs ++ news) ∧ w.grownBy w' (az v) ∧
   ∀ r, az v' = some r → az v = some r ∨ w.heap.size ≤ r := by
 have hbl : az v = v.ownBlock := by
  rcases hown.2 with ⟨rfl, _⟩ | ⟨_, _, _, rfl, _⟩ <;> rfl
 subst iL
 subst hby
 have hsmall : n + m ≤ 9223372036854775807 := by simp only [maxLen] at h63; omega
 have hlen : (xs ++ news).length = (n + m) * i.size := by rw [List.length_append, hown.1, hl, Nat.add_mul]
 have grown : ∀ (old : Nat), old < n + m → ∀ (row : Option Nat),
   (w.drew.alloc (.cells (xs.toArray ++ news.toArray ++ Builtin.zeroCells z.cells (grownCap w (n + m) old e - (n + m))) e)).ownsRow 0 e i.size
    (.slice (some ⟨w.heap.size, 0, none⟩) (n + m) (grownCap w (n + m) old e)) (n + m) (xs ++ news) ∧
   w.grownBy (w.drew.alloc (.cells (xs.toArray ++ news.toArray ++ Builtin.zeroCells z.cells (grownCap w (n + m) old e - (n + m))) e)) row := by
  intro old ho row
  have hge := grownCap_ge w (n + m) old e
  have hcm : grownCap w (n + m) old e ≤ maxLen := grownCap_le_maxLen w (n + m) old e h63
  refine ⟨⟨hlen, .inr ⟨w.heap.size, _, _, rfl, Nat.zero_le _, heap_alloc_new w.drew _, hge, hcm, ?_, ?_⟩⟩, ⟨rfl, rfl, rfl, by simp, fun k hk _ => heap_alloc_old w.drew _ k hk⟩⟩
  ·simp only [Array.size_append, List.size_toArray, size_zeroCells, hzs, hown.1, hl, ← Nat.add_mul]
   congr 1
   omega
  ·simp only [Array.toList_append, List.append_assoc]
   rw [← List.append_assoc, ← hlen]
   exact List.take_left
 rcases hown.2 with ⟨rfl, rfl⟩ | ⟨g, cap, cur, rfl, hbg, hg, hnc, hcm, hcs, htake⟩
 ·have hx : xs = [] := List.eq_nil_of_length_eq_zero (by simpa using hown.1)
  subst hx
  by_cases hm : m = 0
  ·subst hm
   have hn : news = [] := List.eq_nil_of_length_eq_zero (by simpa using hl)
   subst hn
   refine ⟨.slice none 0 0, w, ?_, World.ownsRow_nil w 0 e i.size, ⟨rfl, rfl, rfl, Nat.le_refl _, fun _ _ _ => rfl⟩, fun r hr => by cases hr⟩
   simp [Builtin.append_, run_underlying ht, sizeOf, typeInfo, hi, Builtin.lenOf, Builtin.firstCells, loadCells, loadCellsFrom]
  ·have hr := run_append_nil (P := P) w t ty e i z ht hi hz ad m c news hl hnews (by omega) (by omega) (by have hb := kL; simp only [Nat.zero_add] at hb; omega)
   have hgr := grown 0 (by omega) (az (.slice none 0 0))
   simp only [Nat.zero_add, List.nil_append, Array.empty_append] at hgr ⊢
   exact ⟨_, _, hr, hgr.1, hgr.2, fun r hr => by simp [az] at hr; exact .inr (by omega)⟩
 ·by_cases hroom : n + m ≤ cap
  ·have hfit : n * i.size + news.length ≤ cur.size := by rw [hl, hcs, ← Nat.add_mul]; exact Nat.mul_le_mul_right _ hroom
   have hr := run_append_room (P := P) w t ty e i ht hi g n cap cur hg ad m c news hl hnews h1 hroom hfit
   refine ⟨_, _, hr, ⟨hlen, .inr ⟨g, cap, _, rfl, hbg, setRow_heap w g cur _ e _ hg, hroom, hcm, ?_, ?_⟩⟩, ⟨rfl, rfl, rfl, by simp, fun k _ hk => setRow_other w g k _ (fun e => hk (by simp [az, e]))⟩, fun r hr => .inl hr⟩
   ·simp only [List.size_toArray, List.length_append, List.length_take, List.length_drop, Array.length_toList]
    omega
   ·rw [htake, ← hlen]
    exact List.take_left
  ·have holds : ∀ j u, xs[j]? = some u → w.cell? ((⟨g, 0, none⟩ : Addr).add j) = some u := hown.cells (g := g) rfl
   have hr := run_append_grow (P := P) w t ty e i z ht hi hz ⟨g, 0, none⟩ n cap xs hown.1 holds ad m c news hl hnews (by omega) (by omega) (growslice_fits (by omega) kL)
   have hgr := grown cap (by omega) (az (.slice (some ⟨g, 0, none⟩) n cap))
   exact ⟨_, _, hr, hgr.1, hgr.2, fun r hr => by simp [az] at hr; exact .inr (by omega)⟩
theorem oN {n : Nat} {x : Option R} (h : qD n x = some r) : n ≤ 1099511627776 ∧ x = some r := by
 unfold qD at h
 split at h
 ·exact ⟨by assumption, h⟩
 ·cases h
theorem mn {t ty e : TypeId} {te : TI} (hs : P.underlying t = some (.slice e)) (en : Entry P e te) {et : Ty} (hsz : te.size = et.size) (hpos : 0 < te.size) (hby : te.bytes ≤ 64)
  (h : Rel w0 M X hd st a w) {v x : Value} {av : AV} {n : Nat} {xs : List Value} {m : List et.den} (hown : w.ownsRow 0 e et.size v n xs) (hx : Rt (st.cx X hd w) av x) (hm : eV st et av = some m) (hb : n + List.length m ≤ 1099511627776) (hz : te.zero.length = te.size) :
  ∃ v' w' news, (Builtin.append_ #[t, t] ty #[v, x]).run P w = .ok v' w' ∧ w'.ownsRow 0 e et.size v' (n + List.length m) (xs ++ news) ∧ cw w (st.cx X hd w).N et m news ∧ w.grownBy w' (az v) ∧
   ∀ r, az v' = some r → az v = some r ∨ w.heap.size ≤ r := by
 rcases oB h hx hm with ⟨rfl, rfl⟩ | ⟨ad, cap, news, rfl, hl, hcell, hE⟩
 ·refine ⟨v, w, [], run_append_owned_none w 0 t ty e en.inf et.size hs en.hi v n xs hown, by simpa using hown, rfl, ⟨rfl, rfl, rfl, Nat.le_refl _, fun _ _ _ => rfl⟩, fun r hr => .inl hr⟩
 ·have hzs : en.z.cells.size = et.size := by rw [← Array.length_toList, ← en.hzero, hz, hsz]
  have hbb : (n + List.length m) * en.inf.bytes ≤ 140737488355328 := by
   have : en.inf.bytes ≤ 64 := by rw [← en.kL]; exact hby
   have : (n + List.length m) * en.inf.bytes ≤ 1099511627776 * 64 := Nat.mul_le_mul hb this
   omega
  obtain ⟨v', w', q1, q2, q3, q4⟩ := k0 (P := P) t ty e en.inf en.z et.size en.inf.bytes hs en.hi en.hz (en.iL.symm.trans hsz) rfl hzs (hsz ▸ hpos) v n xs hown ad (List.length m) cap news hl hcell (fun u hu => hE.fR u hu) (by unfold maxLen; omega) hbb
  exact ⟨v', w', news, q1, q2, hE, q3, q4⟩
theorem oQ (t ty e : TypeId) (i : TypeInfo) (ht : P.underlying t = some (.slice e)) (hi : P.info? e = some i)
  (g off sLen sCap : Nat) (cur : Array Value) (hg : w.heap[g]? = some (.cells cur e (0, 0)))
  (ad : Addr) (m c : Nat) (news : List Value) (hl : news.length = m * i.size) (hnews : ∀ j u, news[j]? = some u → w.cell? (ad.add j) = some u) (h1 : ∀ u ∈ news, u.oneCell' = true)
  (hroom : sLen + m ≤ sCap) (hfit : off + sLen * i.size + news.length ≤ cur.size) :
  (Builtin.append_ #[t, t] ty #[.slice (some ⟨g, off, none⟩) sLen sCap, .slice (some ad) m c]).run P w =
   .ok (.slice (some ⟨g, off, none⟩) (sLen + m) sCap) (w.setRow g (cur.toList.take (off + sLen * i.size) ++ news ++ cur.toList.drop (off + sLen * i.size + news.length)).toArray) := by
 have hf := run_firstCells_some (P := P) w i.size m ad m c news hl hnews
 have hst := run_storeCells_at P g (off + sLen * i.size) e news 0 cur w hg (by simpa using hfit) h1
 simp only [Nat.add_zero] at hst
 simp [Builtin.append_, run_underlying ht, sizeOf, typeInfo, hi, Builtin.lenOf, hroom, hf, Addr.add_lit, hst]
theorem oP (t ty e : TypeId) (i : TypeInfo) (size : Nat) (ht : P.underlying t = some (.slice e)) (hi : P.info? e = some i)
  (v : Value) (n : Nat) (xs : List Value) (hown : fp w e size v n xs) :
  (Builtin.append_ #[t, t] ty #[v, .slice none 0 0]).run P w = .ok v w := by
 rcases hown.2 with ⟨rfl, rfl⟩ | ⟨g, off, cap, cur, rfl, _, hnc, _⟩
 ·simp [Builtin.append_, run_underlying ht, sizeOf, typeInfo, hi, Builtin.lenOf, Builtin.firstCells]
 ·simp [Builtin.append_, run_underlying ht, sizeOf, typeInfo, hi, Builtin.lenOf, Builtin.firstCells, hnc, storeCells]
theorem oO (t ty e : TypeId) (i : TypeInfo) (z : Value) (size bytes : Nat) (ht : P.underlying t = some (.slice e)) (hi : P.info? e = some i) (hz : i.zero = some z)
  (iL : i.size = size) (hby : i.bytes = bytes) (hzs : z.cells.size = size) (hsz : 0 < size)
  (v : Value) (n : Nat) (xs : List Value) (hown : fp w e size v n xs)
  (ad : Addr) (m c : Nat) (news : List Value) (hl : news.length = m * size) (hnews : ∀ j u, news[j]? = some u → w.cell? (ad.add j) = some u) (h1 : ∀ u ∈ news, u.oneCell' = true)
  (h63 : n + m ≤ maxLen) (kL : (n + m) * bytes ≤ 140737488355328) :
  ∃ v' w', (Builtin.append_ #[t, t] ty #[v, .slice (some ad) m c]).run P w = .ok v' w' ∧ fp w' e size v' (n + m) (xs ++ news) ∧ w.grownBy w' (az v) ∧
   ∀ r, az v' = some r → az v = some r ∨ w.heap.size ≤ r := by
 rcases hown.2 with ⟨rfl, rfl⟩ | ⟨g, off, cap, cur, rfl, hg, hnc, hcm, hcs, htake⟩
 ·have hx : xs = [] := List.eq_nil_of_length_eq_zero (by simpa using hown.1)
  subst hx
  obtain ⟨v', w', q1, q2, q3, q4⟩ := k0 (P := P) t ty e i z size bytes ht hi hz iL hby hzs hsz (.slice none 0 0) 0 [] (World.ownsRow_nil w 0 e size) ad m c news hl hnews h1 h63 kL
  exact ⟨v', w', q1, vW q2, q3, q4⟩
 ·subst iL
  subst hby
  have hsmall : n + m ≤ 9223372036854775807 := by simp only [maxLen] at h63; omega
  have hlen : (xs ++ news).length = (n + m) * i.size := by rw [List.length_append, hown.1, hl, Nat.add_mul]
  by_cases hroom : n + m ≤ cap
  ·have h5 : (n + m) * i.size ≤ cap * i.size := Nat.mul_le_mul_right _ hroom
   have hfit : off + n * i.size + news.length ≤ cur.size := by
    rw [Nat.add_mul] at h5; omega
   have hr := oQ (P := P) (w := w) t ty e i ht hi g off n cap cur hg ad m c news hl hnews h1 hroom hfit
   have hcl : cur.toList.length = cur.size := Array.length_toList
   refine ⟨_, _, hr, ⟨hlen, .inr ⟨g, off, cap, _, rfl, setRow_heap w g cur _ e _ hg, hroom, hcm, ?_, ?_⟩⟩, ⟨rfl, rfl, rfl, by simp, fun k _ hk => setRow_other w g k _ (fun e => hk (by simp [az, e]))⟩, fun r hr => .inl hr⟩
   ·simp only [List.size_toArray, List.length_append, List.length_take, List.length_drop, Array.length_toList]
    omega
   ·have e1 : cur.toList.take (off + n * i.size) = cur.toList.take off ++ xs := by
     rw [← htake, List.take_add]
    have e2 : (cur.toList.take off).length = off := by rw [List.length_take, hcl]; omega
    rw [e1]
    simp only [List.append_assoc]
    rw [List.drop_append_of_le_length (by omega), List.drop_eq_nil_of_le (by omega), List.nil_append, ← List.append_assoc, ← hlen]
    exact List.take_left
  ·have holds : ∀ j u, xs[j]? = some u → w.cell? ((⟨g, off, none⟩ : Addr).add j) = some u := by
    intro j u hu
    rw [← htake, List.getElem?_take] at hu
    split at hu
    ·rw [List.getElem?_drop] at hu
     rw [Addr.add_lit, cell_of_row w g (off + j) cur e (0, 0) hg]
     simpa using hu
    ·cases hu
   have hr := run_append_grow (P := P) w t ty e i z ht hi hz ⟨g, off, none⟩ n cap xs hown.1 holds ad m c news hl hnews (by omega) (by omega) (growslice_fits (by omega) kL)
   have hge := grownCap_ge w (n + m) cap e
   have hcm' : grownCap w (n + m) cap e ≤ maxLen := grownCap_le_maxLen w (n + m) cap e h63
   refine ⟨_, _, hr, ⟨hlen, .inr ⟨w.heap.size, 0, _, _, rfl, heap_alloc_new w.drew _, hge, hcm', ?_, ?_⟩⟩, ⟨rfl, rfl, rfl, by simp, fun k hk _ => heap_alloc_old w.drew _ k hk⟩, fun r hr => by simp [az] at hr; exact .inr (by omega)⟩
   ·simp only [Array.size_append, List.size_toArray, size_zeroCells, hzs, hown.1, hl, ← Nat.add_mul]
    rw [Nat.zero_add]
    exact Nat.mul_le_mul_right _ (by omega)
   ·simp only [Array.toList_append, List.append_assoc, List.drop_zero]
    rw [← List.append_assoc, ← hlen]
    exact List.take_left
theorem p0 {t ty e : TypeId} {te : TI} (hs : P.underlying t = some (.slice e)) (en : Entry P e te) {et : Ty} (hsz : te.size = et.size) (hpos : 0 < te.size) (hby : te.bytes ≤ 64)
  (h : Rel w0 M X hd st a w) {v x : Value} {av : AV} {n : Nat} {xs : List Value} {m : List et.den} (hown : fp w e et.size v n xs) (hx : Rt (st.cx X hd w) av x) (hm : eV st et av = some m) (hb : n + List.length m ≤ 1099511627776) (hz : te.zero.length = te.size) :
  ∃ v' w' news, (Builtin.append_ #[t, t] ty #[v, x]).run P w = .ok v' w' ∧ fp w' e et.size v' (n + List.length m) (xs ++ news) ∧ cw w (st.cx X hd w).N et m news ∧ w.grownBy w' (az v) ∧
   ∀ r, az v' = some r → az v = some r ∨ w.heap.size ≤ r := by
 rcases oB h hx hm with ⟨rfl, rfl⟩ | ⟨ad, cap, news, rfl, hl, hcell, hE⟩
 ·refine ⟨v, w, [], oP t ty e en.inf et.size hs en.hi v n xs hown, by simpa using hown, rfl, ⟨rfl, rfl, rfl, Nat.le_refl _, fun _ _ _ => rfl⟩, fun r hr => .inl hr⟩
 ·have hzs : en.z.cells.size = et.size := by rw [← Array.length_toList, ← en.hzero, hz, hsz]
  have hbb : (n + List.length m) * en.inf.bytes ≤ 140737488355328 := by
   have : en.inf.bytes ≤ 64 := by rw [← en.kL]; exact hby
   have : (n + List.length m) * en.inf.bytes ≤ 1099511627776 * 64 := Nat.mul_le_mul hb this
   omega
  obtain ⟨v', w', q1, q2, q3, q4⟩ := oO (P := P) t ty e en.inf en.z et.size en.inf.bytes hs en.hi en.hz (en.iL.symm.trans hsz) rfl hzs (hsz ▸ hpos) v n xs hown ad (List.length m) cap news hl hcell (fun u hu => hE.fR u hu) (by unfold maxLen; omega) hbb
  exact ⟨v', w', news, q1, q2, hE, q3, q4⟩
theorem Ff {c : Call} {t e' : TypeId} {s x : Operand} (hnp : M.np ≤ E.pin) (ht : ek P E.tb) (ho : o.op = .call c) (hc : c.callee = .builtin .append) (hargs : c.args.toList = [s, x]) (hts : c.argTypes.toList = [t, t])
  (h : Rel w0 M X hd st a w) (hk : Next w0 M X k r K) (hr : iO E o.dst t st (st.ev s) (st.ev x) k = some r) : o.wp P a w K Q := by
 have ha : c.args = #[s, x] := by rw [← Array.toList_inj, hargs]
 have hts : c.argTypes = #[t, t] := by rw [← Array.toList_inj, hts]
 have hs := de h s
 have hx := de h x
 have fin : ∀ {v' : Value} {w' : World}, (Builtin.append_ #[t, t] o.type #[a.eval s, a.eval x]).run P w = .ok v' w' → K (a.put o.dst v') w' → o.wp P a w K Q := by
  intro v' w' hrun hK
  refine bW (v := v') (w' := w') ?_ hK
  simp [execOp, ho, resolve, hc, ha, hts, invoke, builtin, hrun]
 unfold iO at hr
 split at hr
 ·rename_i e _ _ _ hi
  obtain ⟨en⟩ := ht.entry hi
  have hsl := iA en rfl
  split at hr
  ·cases hr
  ·rename_i te hte
   obtain ⟨en'⟩ := ht.entry hte
   split at hr
   ·cases hr
   ·rename_i et het
    split at hr
    ·rename_i q1 q2 q3 q4
     have q1 := Nat.eq_of_beq_eq_true q1
     have q2 : 0 < te.size := by simpa [Nat.blt_eq] using q2
     have q3 := Nat.le_of_ble_eq_true q3
     have q4 := Nat.eq_of_beq_eq_true q4
     split at hr
     ·cases hr
     ·rename_i m hm
      split at hr
      ·rename_i b hv
       rw [hv] at hs
       have hsv : a.eval s = hd b := hs.1
       split at hr
       ·rename_i e1 t1 l1 hf
        split at hr
        ·rename_i l he hl
         rw [Bool.and_eq_true] at he
         have hpb := Nat.le_of_ble_eq_true he.1
         have he := Nat.eq_of_beq_eq_true he.2
         subst he
         obtain ⟨e2, e3⟩ := cast?_some hl
         cases e2
         cases e3
         obtain ⟨hroom, hr⟩ := oN hr
         obtain ⟨xs, hown, hE⟩ := h.blocks b _ hf
         have hown : w.ownsRow 0 e1 et.size (hd b) (List.length l1) xs := hown
         obtain ⟨v', w', news, p1, p2, p3, p4, p5⟩ := mn (P := P) hsl en' q1 q2 q3 h hown hx hm hroom q4
         refine fin (by rw [hsv]; exact p1) ?_
         have hrel := h.renew (blk' := .flat e1 et (List.append l1 m)) (v := v') hf rfl (by omega) p4.os p4.tape p4.output p4.size (fun k hk hne => p4.block k hk (fun e => hne e.symm)) p5 (fun g => ⟨xs ++ news, by
          show w'.ownsRow 0 e1 et.size (if b = b then v' else _) (List.length (List.append l1 m)) _
          rw [if_pos rfl, show List.length (List.append l1 m) = List.length l1 + List.length m from List.length_append]; exact p2, cw.append (hE.move g.move) (p3.move g.move)⟩)
         refine ct hrel (v := .own b) ?_ hk hr
         exact ⟨by show v' = (if b = b then v' else _); rw [if_pos rfl], mb p2, .flat e1 et (List.append l1 m), e1, et, _, by show St.find (St.lay _ _ _) _ = _; rw [St.aW, if_pos rfl], rfl⟩
        ·cases hr
       ·rename_i e1 t1 l1 hf
        split at hr
        ·rename_i l he hl
         rw [Bool.and_eq_true] at he
         have hpb := Nat.le_of_ble_eq_true he.1
         have he := Nat.eq_of_beq_eq_true he.2
         subst he
         obtain ⟨e2, e3⟩ := cast?_some hl
         cases e2
         cases e3
         obtain ⟨hroom, hr⟩ := oN hr
         obtain ⟨xs, hown, hE⟩ := h.blocks b _ hf
         have hown : fp w e1 et.size (hd b) (List.length l1) xs := hown
         obtain ⟨v', w', news, p1, p2, p3, p4, p5⟩ := p0 (P := P) hsl en' q1 q2 q3 h hown hx hm hroom q4
         refine fin (by rw [hsv]; exact p1) ?_
         have hrel := h.renew (blk' := .que e1 et (List.append l1 m)) (v := v') hf rfl (by omega) p4.os p4.tape p4.output p4.size (fun k hk hne => p4.block k hk (fun e => hne e.symm)) p5 (fun g => ⟨xs ++ news, by
          show fp w' e1 et.size (if b = b then v' else _) (List.length (List.append l1 m)) _
          rw [if_pos rfl, show List.length (List.append l1 m) = List.length l1 + List.length m from List.length_append]; exact p2, cw.append (hE.move g.move) (p3.move g.move)⟩)
         refine ct hrel (v := .own b) ?_ hk hr
         exact ⟨by show v' = (if b = b then v' else _); rw [if_pos rfl], tM p2, .que e1 et (List.append l1 m), e1, et, _, by show St.find (St.lay _ _ _) _ = _; rw [St.aW, if_pos rfl], rfl⟩
        ·cases hr
       ·cases hr
      ·rename_i hv
       rw [hv] at hs
       have hsv : a.eval s = .slice none 0 0 := hs
       obtain ⟨hroom, hr⟩ := oN hr
       have hown : w.ownsRow 0 e et.size (.slice none 0 0) 0 [] := World.ownsRow_nil w 0 e et.size
       obtain ⟨v', w', news, p1, p2, p3, p4, p5⟩ := mn (P := P) hsl en' q1 q2 q3 h hown hx hm (by omega) q4
       refine fin (by rw [hsv]; exact p1) ?_
       refine yz h p4.os p4.tape p4.output p4.size (fun k hk => p4.block k hk (by simp [az])) (fun r hr => (p5 r hr).resolve_left (by simp [az])) (by simpa using p2) p3 hk hr
      ·cases hr
    ·cases hr
 ·cases hr
theorem vF {N' Qn : Nat → Prop} (hb : ∀ b blk, st.find b = some blk → RB (st.cx X hd w) b blk) (hc : Clear st X hd w N' Qn) {t : Ty} {te : TI} (hsz : te.size = t.size) (hpos : 0 < te.size) :
  ∀ {parts : List (Nat × AV)} {vparts : List (Nat × Value)} {n : Nat} {l : List t.den} {done rest : List Value}, bH (fun p q => p.1 = q.1 ∧ Rt (st.cx X hd w) p.2 q.2) parts vparts → (∀ p ∈ parts, ∀ b ∈ ah p.2, Qn b) →
   done.length = n * te.size → rest.length = parts.length * te.size → gT st t n parts = some l →
   ∃ vs, Instr.fill (fun i => some (i * te.size, te.size)) (done ++ rest).toArray vparts = some (List.toArray (done ++ vs)) ∧ cw w N' t l vs
 | [], [], n, l, done, rest, _, _, hd', hr', h => by
  cases h
  have : rest = [] := List.eq_nil_of_length_eq_zero (by simpa using hr')
  subst this
  exact ⟨[], rfl, rfl⟩
 | (j, v) :: parts, (j', x) :: vparts, n, l, done, rest, hpt, hn, hd', hr', h => by
  obtain ⟨⟨rfl, hv⟩, hpt⟩ := hpt
  unfold gT at h
  split at h
  ·rename_i hj
   have hj : j = n := Nat.eq_of_beq_eq_true hj
   subst hj
   split at h
   ·rename_i cs hcs
    split at h
    ·rename_i y hy
     split at h
     ·rename_i ys hys
      cases h
      obtain ⟨us, hx, ha⟩ := kH hv hcs
      have hnames : ∀ b ∈ ah.namesL cs, Qn b := by
       intro b hb'
       refine hn (j, v) (by simp) b ?_
       show b ∈ ah v
       cases v with
       | agg l => cases hcs; exact hb'
       | tup l => cases hcs
       | undef => cases hcs
       | gone => cases hcs
       | _ => cases hcs; rw [cL] at hb'; exact hb'
      have hRc := iQ hb hc t cs us y ha hnames hy
      have hul := hRc.length
      simp only [List.length_cons, Nat.add_mul, Nat.one_mul] at hr'
      have hdone : (done ++ us).length = (j + 1) * te.size := by rw [List.length_append, hd', hul, hsz, Nat.add_mul]; omega
      obtain ⟨vs, hf, hE⟩ := vF hb hc hsz hpos hpt (fun p hp => hn p (by simp [hp])) hdone (rest := rest.drop us.length) (by simp; omega) hys
      refine ⟨us ++ vs, ?_, us, vs, rfl, hRc, hE⟩
      have hsz' : x.cells.size = te.size := by rw [hx]; simp; omega
      unfold Instr.fill
      simp only
      rw [if_neg (by simp [hsz']; omega), foldl_set x.cells (j * te.size) _ (by rw [hsz']; simp; omega)]
      rw [show x.cells = _ from hx]
      have e1 : List.take (j * te.size) (done ++ rest) = done := by rw [← hd', List.take_left]
      have e2 : List.drop (j * te.size + us.length) (done ++ rest) = rest.drop us.length := by rw [← hd', ← List.drop_drop, List.drop_left]
      simp only [List.size_toArray, e1, e2]
      rw [hf, List.append_assoc]
     ·cases h
    ·cases h
   ·cases h
  ·cases h
 | [], _ :: _, _, _, _, _, h, _, _, _, _ => h.elim
 | _ :: _, [], _, _, _, _, h, _, _, _, _ => h.elim
theorem nj {t : Ty} : ∀ {parts : List (Nat × AV)} {n : Nat} {l : List t.den}, gT st t n parts = some l → l.length = parts.length
 | [], _, _, h => by cases h; rfl
 | (j, v) :: parts, n, l, h => by
  unfold gT at h
  split at h
  ·split at h
   ·split at h
    ·split at h
     ·rename_i hys
      cases h
      simp [nj hys]
     ·cases h
    ·cases h
   ·cases h
  ·cases h
theorem uY {t : TypeId} {len : Nat} {parts : Array (Nat × Operand)} (ht : ek P E.tb) (ho : o.op = .buildSlice t len parts) (h : Rel w0 M X hd st a w) (hk : Next w0 M X k r K) (hr : opK E o st k = some r) : o.wp P a w K Q := by
 simp only [opK, ho] at hr
 split at hr
 ·rename_i e _ _ _ hi
  obtain ⟨en⟩ := ht.entry hi
  have hsl := iA en rfl
  split at hr
  ·rename_i te hte
   obtain ⟨en'⟩ := ht.entry hte
   split at hr
   ·rename_i s hs
    split at hr
    ·rename_i q1 q2 q3 q4
     have q1 := Nat.eq_of_beq_eq_true q1
     have q2 : parts.size = len := Nat.eq_of_beq_eq_true q2
     have q3 := Nat.le_of_ble_eq_true q3
     have q4 : 0 < te.size := by simpa [Nat.blt_eq] using q4
     split at hr
     ·rename_i st1 hfz
      obtain ⟨h1, hfr, _, _, htm, _, _⟩ := gC h hfz
      split at hr
      ·rename_i l hl
       have hev : ∀ x, st1.ev x = st.ev x := St.DE htm
       have hparts : bH (fun (p : Nat × AV) (q : Nat × Value) => p.1 = q.1 ∧ Rt (st1.cx X hd w) p.2 q.2) (parts.toList.map fun p => (p.1, st1.ev p.2)) (parts.toList.map fun p => (p.1, a.eval p.2)) :=
        bH.map _ _ _ fun p _ => ⟨rfl, de h1 p.2⟩
       have hnames : ∀ p ∈ (parts.toList.map fun p => (p.1, st1.ev p.2)), ∀ b ∈ ah p.2, fG st1 b := by
        intro p hp b hb
        obtain ⟨q, hq, rfl⟩ := List.mem_map.1 hp
        refine hfr b (bu.2 ⟨st.ev q.2, List.mem_map.2 ⟨q, hq, rfl⟩, ?_⟩)
        rw [← hev]; exact hb
       have hlen := nj hl
       simp only [List.length_map, Array.length_toList, q2] at hlen
       have hmade : (madeCells en'.z.cells (len * te.size)).toList.length = (parts.toList.map fun p => (p.1, st1.ev p.2)).length * te.size := by
        rw [Array.length_toList, size_madeCells]; simp [q2]
       obtain ⟨vs, hf, hE⟩ := vF h1.blocks h1.clear q1 q4 hparts hnames (done := []) (by simp) hmade hl
       have hvs := hE.length
       rw [hlen] at hvs
       have hrun : (Instr.buildSlice t len (parts.map fun (i, x) => (i, a.eval x))).run P w = .ok (.slice (some ⟨w.heap.size, 0, none⟩) len len) (w.alloc (.cells vs.toArray e)) := by
        have hfill : Instr.fill (fun i => some (i * te.size, te.size)) (madeCells en'.z.cells (len * te.size)) (parts.map fun (i, x) => (i, a.eval x)).toList = some vs.toArray := by
         have := hf
         simp only [List.nil_append, Array.toArray_toList] at this
         rw [← this, Array.toList_map]
        by_cases h0 : len = 0
        ·subst h0
         have hp0 : parts = #[] := Array.eq_empty_of_size_eq_zero q2
         have hv0 : vs = [] := List.eq_nil_of_length_eq_zero (by simpa using hvs)
         subst hv0
         simp [Instr.buildSlice, run_underlying hsl, dH en', newRow, Array.range_zero', Instr.fill, hp0]
        ·rw [en'.iL] at hfill
         exact run_buildSlice w t e len _ vs.toArray en'.inf en'.z hsl en'.hi en'.hz (by rw [← en'.iL]; omega) (by rw [← en'.iL]; exact Nat.mul_ne_zero h0 (by omega)) hfill
       refine bW (v := .slice (some ⟨w.heap.size, 0, none⟩) len len) (w' := w.alloc (.cells vs.toArray e)) ?_
        (yz h1 rfl rfl rfl (by simp) (fun k hk => heap_alloc_old w _ k hk) (fun r hr => by simp [az] at hr; omega) (xs := vs) ?_ hE hk hr)
       ·simp [execOp, ho, hrun]
       ·refine ⟨by rw [hvs, hlen], .inr ⟨w.heap.size, len, vs.toArray, by rw [hlen], Nat.zero_le _, heap_alloc_new w _, by rw [hlen]; exact Nat.le_refl _, ?_, by simp [hvs], ?_⟩⟩
        ·have : len * 1 ≤ len * te.size := Nat.mul_le_mul_left _ q4
         unfold maxLen; omega
        ·simp only [hlen, ← hvs, List.take_length]
      ·cases hr
     ·cases hr
    ·cases hr
   ·cases hr
  ·cases hr
 ·cases hr
end
end Go.V
end
section
namespace Go.V
open Go Go.RowKit
set_option linter.unusedVariables false
set_option linter.unusedSimpArgs false
section
variable {P : Program} {E : En} {R : Type} {w0 : World} {M : Mo} {X : Nat → Prop} {hd : Nat → Value} {st : St} {a : Act} {w w' : World}
variable {k : St → Option R} {r : R} {K : Act → World → Prop} {Q : Exit → Act → World → Prop} {o : Oper}
theorem LD {t k e : TypeId} {i : TI} (en : Entry P t i) (h : i.tk = .map k e) : P.underlying t = some (.map k e) := by
 have hu := en.hu
 have ht := en.htk
 generalize en.d = d at hu ht
 rw [h] at ht
 cases d <;> simp [nY] at ht
 rw [hu, ht.1, ht.2]
theorem Ig {t : TypeId} {i : TI} (en : Entry P t i) (h : i.tk = .str) : P.underlying t = some .string := by
 have hu := en.hu
 have ht := en.htk
 generalize en.d = d at hu ht
 rw [h] at ht
 cases d <;> simp [nY] at ht
 rw [hu]
theorem FE (h : Rel w0 M X hd st a w) {v : AV} {x : Value} {n : Nat} (hx : Rt (st.cx X hd w) v x) (hn : pP st v = some n) : ∃ q es cl, x = .map (some q) ∧ w.heap[q]? = some (.map es cl) ∧ es.size = n := by
 have key : ∀ {kt vt : Ty} {l : List (kt.den × vt.den)} {es : Array MapEntry}, nG es = kM kt vt l → es.size = List.length l := by
  intro kt vt l es he
  have := congrArg List.length he
  simpa [nG, kM] using this
 cases v with
 | dat t l =>
  cases t <;> try (cases hn; done)
  rename_i kt vt
  have hn : some (List.length l) = some n := hn
  cases hn
  obtain ⟨q, es, cl, e, _, hg, he⟩ := (show Rc w (st.cx X hd w).N (.map kt vt) l [x] from hx)
  exact ⟨q, es, cl, by simpa using e, hg, key he⟩
 | om b =>
  have hx' : x = hd b := hx.1
  simp only [pP] at hn
  cases hf : st.find b with
  | none => rw [hf] at hn; cases hn
  | some blk =>
   rw [hf] at hn
   have hb := h.blocks b blk hf
   cases blk with
   | mp kt vt l => cases hn; obtain ⟨q, es, cl, hh, hg, he⟩ := hb; exact ⟨q, es, cl, hx'.trans hh, hg, key he⟩
   | fmp kt vt l => cases hn; obtain ⟨q, es, cl, hh, hg, he⟩ := hb; exact ⟨q, es, cl, hx'.trans hh, hg, key he⟩
   | _ => cases hn
 | _ => cases hn
theorem LB {c : Call} (ht : ek P E.tb) (ho : o.op = .call c) (hc : c.callee = .builtin .len) (h : Rel w0 M X hd st a w) (hk : Next w0 M X k r K) (hr : opK E o st k = some r) : o.wp P a w K Q := by
 simp only [opK, ho, hc] at hr
 split at hr
 ·rename_i x t hargs hts
  have ha : c.args = #[x] := by rw [← Array.toList_inj, hargs]
  have hts : c.argTypes = #[t] := by rw [← Array.toList_inj, hts]
  split at hr
  ·rename_i e _ _ _ hi
   obtain ⟨en⟩ := ht.entry hi
   have hsl := iA en rfl
   split at hr
   ·rename_i n hn
    obtain ⟨A, cap, hx⟩ := FD h (de h x) hn
    refine bW (v := .int .i64 (n : Int)) (w' := w) ?_ (ct h (v := .dat (.int .i64) ((n : Nat) : Int)) (Rt.of1 (rfl : [Value.int .i64 _] = [Value.int .i64 _])) hk hr)
    simp [execOp, ho, resolve, hc, ha, hts, hx, invoke, builtin, Builtin.len_, run_underlying hsl, goInt]
   ·cases hr
  ·rename_i kk ee _ _ _ hi
   obtain ⟨en⟩ := ht.entry hi
   have hsl := LD en rfl
   split at hr
   ·rename_i n hn
    obtain ⟨q, es, cl, hx, hg, hsz⟩ := FE h (de h x) hn
    refine bW (v := .int .i64 (n : Int)) (w' := w) ?_ (ct h (v := .dat (.int .i64) ((n : Nat) : Int)) (Rt.of1 (rfl : [Value.int .i64 _] = [Value.int .i64 _])) hk hr)
    simp [execOp, ho, resolve, hc, ha, hts, hx, invoke, builtin, Builtin.len_, run_underlying hsl, MapKept.run_getObj_map hg, hsz, goInt]
   ·cases hr
  ·cases hr
 ·cases hr
end
end Go.V
end
section
namespace Go.V
open Go Go.RowKit
set_option linter.unusedVariables false
set_option linter.unusedSimpArgs false
def P1 (w : World) (N : Nat → Prop) : (d : D1) → d.den → Value → Prop
 | .dat t, x, v => Rc w N t x [v]
 | .own e t, l, v => ∃ xs, w.ownsRow 0 e t.size v (List.length l) xs ∧ cw w N t l xs
 | .cel t, x, v => ∃ r vs e, v = .pointer (some ⟨r, 0, none⟩) ∧ w.heap[r]? = some (.cells (List.toArray vs) e (0, 0)) ∧ 0 < t.size ∧ Rc w N t x vs
def PL (w : World) (N : Nat → Prop) : (ds : List D1) → cO ds → List Value → Prop
 | [], _, vs => vs = []
 | [d], x, vs => ∃ v, vs = [v] ∧ P1 w N d x v
 | d :: d' :: ds, x, vs => ∃ v us, vs = v :: us ∧ P1 w N d x.1 v ∧ PL w N (d' :: ds) x.2 us
def gu : List (Bool × List D1) → List Value → List Value → Prop
 | [], vs, cs => vs = [] ∧ cs = []
 | (true, ds) :: ps, vs, cs => ∃ us vs' cs', vs = .agg (List.toArray us) :: vs' ∧ us.length = ds.length ∧ cs = us ++ cs' ∧ gu ps vs' cs'
 | (false, ds) :: ps, vs, cs => ∃ v vs' cs', ds.length = 1 ∧ vs = v :: vs' ∧ v.oneCell' = true ∧ cs = v :: cs' ∧ gu ps vs' cs'
def bo : List D1 → List Value → List Nat
 | .own .. :: ds, v :: vs => match az v with
  | some r => r :: bo ds vs
  | none => bo ds vs
 | .cel _ :: ds, v :: vs => match az v with
  | some r => r :: bo ds vs
  | none => bo ds vs
 | .dat _ :: ds, _ :: vs => bo ds vs
 | _, _ => []
def dB : List D1 → List Value → List Value
 | .own .. :: ds, v :: vs => v :: dB ds vs
 | .cel _ :: ds, v :: vs => v :: dB ds vs
 | .dat _ :: ds, _ :: vs => dB ds vs
 | _, _ => []
def Da (v : Value) : List Value → Prop
 | [x] => v = x
 | vs => v = .tuple vs.toArray
structure bf (P : Program) (f : FuncId) (S : bD) : Prop where
 enters : ∀ args w, (callFunc f args).run P w = .ok (.enter f args) w
 calls : ∀ (w : World) (X : Nat → Prop) (args : List Value) (cells : List Value) (x : cO (flatC S.ps)) (y : cO (flatC S.rs ++ outsC S.ps)),
  gu S.ps args cells → (∀ r, X r → r < w.heap.size ∧ r ∉ bo (flatC S.ps) cells) → PL w (fun r => X r ∨ r ∈ bo (flatC S.ps) cells) (flatC S.ps) x cells → (bo (flatC S.ps) cells).Nodup → S.fn x = some y →
  Calls P f args.toArray w fun e w' => ∃ v vs rcells, e = .returned v ∧ Da v vs ∧ gu S.rs vs rcells ∧ dX w w' (· ∈ bo (flatC S.ps) cells) ∧
   PL w' (fun r => X r ∨ r ∈ bo (flatC S.ps) cells ∨ r ∈ bo (flatC S.rs) rcells) (flatC S.rs ++ outsC S.ps) y (rcells ++ dB (flatC S.ps) cells) ∧
   (bo (flatC S.rs) rcells).Nodup ∧ ∀ r ∈ bo (flatC S.rs) rcells, w.heap.size ≤ r
section
variable {P : Program} {E : En} {R : Type} {w0 : World} {M : Mo} {X : Nat → Prop} {hd : Nat → Value} {st : St} {a : Act} {w w' : World}
variable {k : St → Option R} {r : R} {K : Act → World → Prop} {Q : Exit → Act → World → Prop} {o : Oper}
theorem PL.length {N : Nat → Prop} : ∀ {ds : List D1} {x : cO ds} {vs : List Value}, PL w N ds x vs → vs.length = ds.length
 | [], _, _, h => by have h : _ = [] := h; rw [h]; rfl
 | [d], _, _, ⟨v, e, _⟩ => by rw [e]; rfl
 | d :: d' :: ds, _, _, ⟨v, us, e, _, h⟩ => by rw [e, List.length_cons, PL.length h]; rfl
theorem P1.weaken {N N' : Nat → Prop} (hn : ∀ r, N' r → N r) : ∀ {d : D1} {x : d.den} {v : Value}, P1 w N d x v → P1 w N' d x v
 | .dat t, _, _, h => Rc.weaken hn h
 | .own e t, _, _, ⟨xs, h, hE⟩ => ⟨xs, h, hE.move fun _ _ q hc => ⟨fun q' => q (hn _ q'), hc⟩⟩
 | .cel t, _, _, ⟨r, vs, e, h1, h2, h3, h4⟩ => ⟨r, vs, e, h1, h2, h3, h4.weaken hn⟩
theorem PL.weaken {N N' : Nat → Prop} (hn : ∀ r, N' r → N r) : ∀ {ds : List D1} {x : cO ds} {vs : List Value}, PL w N ds x vs → PL w N' ds x vs
 | [], _, _, h => h
 | [d], _, _, ⟨v, e, h⟩ => ⟨v, e, h.weaken hn⟩
 | d :: d' :: ds, _, _, ⟨v, us, e, h, h'⟩ => ⟨v, us, e, h.weaken hn, PL.weaken hn h'⟩
theorem jb {N N' : Nat → Prop} : ∀ {t : Ty} {x : t.den} {cs : List Value}, iV t = true → Rc w N t x cs → Rc w' N' t x cs
 | .int _, _, _, _, h => h
 | .bool, _, _, _, h => h
 | .str, _, _, _, h => h
 | .unit, _, _, _, h => h
 | .pair a b, _, _, hp, ⟨c, d, e, h, k⟩ => by
  simp only [iV, Bool.and_eq_true] at hp
  exact ⟨c, d, e, jb hp.1 h, jb hp.2 k⟩
 | .struct t, _, _, hp, h => jb (t := t) hp h
 | .list _, _, _, hp, _ => by cases hp
 | .ptr _, _, _, hp, _ => by cases hp
 | .clo .., _, _, hp, _ => by cases hp
 | .map .., _, _, hp, _ => by cases hp
 | .optr _, _, _, hp, _ => by cases hp
theorem qw {N N' : Nat → Prop} {t : Ty} (hp : iV t = true) : ∀ {l : List t.den} {xs : List Value}, cw w N t l xs → cw w N' t l xs
 | [], _, h => h
 | _ :: _, _, ⟨c, d, e, h, k⟩ => ⟨c, d, e, jb hp h, qw hp k⟩
theorem P1.apart {N N' : Nat → Prop} : ∀ {d : D1} {x : d.den} {v : Value}, d.apart = true → P1 w N d x v → P1 w N' d x v
 | .dat t, _, _, hp, h => jb hp h
 | .own e t, _, _, hp, ⟨xs, h, hE⟩ => ⟨xs, h, qw hp hE⟩
 | .cel t, _, _, hp, ⟨r, vs, e, h1, h2, h3, h4⟩ => ⟨r, vs, e, h1, h2, h3, jb hp h4⟩
theorem PL.apart {N N' : Nat → Prop} : ∀ {ds : List D1} {x : cO ds} {vs : List Value}, ds.all (·.apart) = true → PL w N ds x vs → PL w N' ds x vs
 | [], _, _, _, h => h
 | [d], _, _, hp, ⟨v, e, h⟩ => ⟨v, e, h.apart (by simpa using hp)⟩
 | d :: d' :: ds, _, _, hp, ⟨v, us, e, h, h'⟩ => by
  rw [List.all_cons, Bool.and_eq_true] at hp
  exact ⟨v, us, e, h.apart hp.1, PL.apart hp.2 h'⟩
theorem PL.split {N : Nat → Prop} : ∀ {ds es : List D1} {x : cO (ds ++ es)} {vs us : List Value}, vs.length = ds.length → PL w N (ds ++ es) x (vs ++ us) → PL w N ds (splitD ds es x).1 vs ∧ PL w N es (splitD ds es x).2 us
 | [], es, x, vs, us, hl, h => by
  have : vs = [] := List.eq_nil_of_length_eq_zero hl
  subst this
  exact ⟨rfl, h⟩
 | [d], [], x, vs, us, hl, h => by
  obtain ⟨v, rfl⟩ : ∃ v, vs = [v] := by
   match vs, hl with
   | [v], _ => exact ⟨v, rfl⟩
  obtain ⟨v', e, h'⟩ := h
  simp only [List.cons_append, List.nil_append, List.cons.injEq] at e
  obtain ⟨rfl, rfl⟩ := e
  exact ⟨⟨v, rfl, h'⟩, rfl⟩
 | [d], e :: es, x, vs, us, hl, h => by
  obtain ⟨v, rfl⟩ : ∃ v, vs = [v] := by
   match vs, hl with
   | [v], _ => exact ⟨v, rfl⟩
  obtain ⟨v', us', e, h', h2⟩ := h
  simp only [List.cons_append, List.nil_append, List.cons.injEq] at e
  obtain ⟨rfl, rfl⟩ := e
  exact ⟨⟨v, rfl, h'⟩, h2⟩
 | d :: d' :: ds, es, x, vs, us, hl, h => by
  match vs, hl with
  | v :: vs, hl =>
   obtain ⟨v', us', e, h', h2⟩ := h
   simp only [List.cons_append, List.cons.injEq] at e
   obtain ⟨rfl, rfl⟩ := e
   obtain ⟨h3, h4⟩ := PL.split (ds := d' :: ds) (es := es) (vs := vs) (us := us) (by simpa using hl) h2
   exact ⟨⟨v, vs, rfl, h', h3⟩, h4⟩
theorem Af (h : Rel w0 M X hd st a w) {N' Qn : Nat → Prop} (hc : Clear st X hd w N' Qn) {d : D1} {x : d.den} {v : AV} {u : Value} (hr : R1 (st.cx X hd w) v u) (hn : ∀ t, d = .dat t → ∀ b ∈ ah v, Qn b)
  (hx : dt st d v = some x) : P1 w N' d x u := by
 cases d with
 | dat t =>
  have := iQ h.blocks hc t [v] [u] x ⟨hr, trivial⟩ (by rw [cL]; exact hn t rfl) hx
  exact this
 | own e t =>
  cases v with
  | own b =>
   have hu : u = hd b := hr.1
   simp only [dt] at hx
   split at hx
   ·rename_i e' s l hf
    split at hx
    ·rename_i he
     have he := Nat.eq_of_beq_eq_true he
     subst he
     obtain ⟨h1, h2⟩ := cast?_some hx
     cases h1
     cases h2
     obtain ⟨xs, ho, hE⟩ := h.blocks b _ hf
     exact ⟨xs, by rw [hu]; exact ho, hE.move fun _ _ q hc' => ⟨fun q' => q (hc.sub _ q'), hc'⟩⟩
    ·cases hx
   ·cases hx
  | nil =>
   have hx : some [] = some x := hx
   cases hx
   have hu : u = .slice none 0 0 := hr
   rw [hu]
   exact ⟨[], World.ownsRow_nil w 0 e t.size, rfl⟩
  | _ => cases hx
 | cel t =>
  cases v with
  | box b i =>
   cases i with
   | succ i => cases hx
   | zero =>
    have hx : oa st t (st.find b) = some x := hx
    obtain ⟨blk, n, r, hf, hs, hi, hh, hv⟩ := hr
    have hf : st.find b = some blk := hf
    rw [hf] at hx
    cases blk with
    | cells cs =>
     simp only [oa] at hx
     split at hx
     ·rename_i h1 h2 h3
      have h1 := Nat.eq_of_beq_eq_true h1
      have h2 : ah.namesL cs = [] := by simpa using h2
      have h3 : 0 < t.size := by simpa [Nat.blt_eq] using h3
      obtain ⟨r', vs, e, q1, q2, q3⟩ := h.blocks b _ hf
      have hh : hd b = .pointer (some ⟨r, 0, none⟩) := hh
      have q1 : hd b = .pointer (some ⟨r', 0, none⟩) := q1
      rw [hh] at q1
      cases q1
      have hrc := iQ h.blocks hc t cs vs x q3 (fun c hc' => by rw [h2] at hc'; cases hc') hx
      exact ⟨r, vs, e, hv, q2, h3, hrc⟩
     ·cases hx
    | _ => cases hx
  | _ => cases hx
theorem tX (h : Rel w0 M X hd st a w) {N' Qn : Nat → Prop} (hc : Clear st X hd w N' Qn) : ∀ {ds : List D1} {x : cO ds} {vs : List AV} {us : List Value}, bH (R1 (st.cx X hd w)) vs us → (∀ b ∈ cn ds vs, Qn b) →
  dM st ds vs = some x → PL w N' ds x us
 | [], x, vs, us, hr, _, hx => by
  cases vs with
  | nil => cases us with
   | nil => rfl
   | cons _ _ => exact hr.elim
  | cons _ _ => cases hx
 | [d], x, vs, us, hr, hn, hx => by
  have hx : (match one? vs with | some v => dt st d v | none => none) = some x := hx
  split at hx
  ·rename_i v hv
   obtain rfl := one?_some hv
   obtain ⟨u, rfl, hu⟩ := hr.one
   exact ⟨u, rfl, Af h hc hu (fun t e b hb => hn b (by subst e; simp [cn, hb])) hx⟩
  ·cases hx
 | d :: d' :: ds, x, vs, us, hr, hn, hx => by
  cases vs with
  | nil => cases hx
  | cons v vs => cases us with
   | nil => exact hr.elim
   | cons u us =>
    have hx : (match dt st d v with
     | some x => match dM st (d' :: ds) vs with
      | some y => some (x, y)
      | none => none
     | none => none) = some x := hx
    split at hx
    ·rename_i y hy
     split at hx
     ·rename_i z hz
      cases hx
      refine ⟨u, us, rfl, Af h hc hr.1 (fun t e b hb => hn b (by subst e; simp [cn, hb])) hy, tX h hc hr.2 (fun b hb => hn b ?_) hz⟩
      cases d with
      | dat t => exact List.mem_append_right _ hb
      | own e t => exact hb
      | cel t => exact hb
     ·cases hx
    ·cases hx
theorem sZ {c : Cx} : ∀ {ps : List (Bool × List D1)} {vs : List AV} {us : List Value} {cells : List AV}, bH (Rt c) vs us → nk ps vs = some cells → ∃ vcells, gu ps us vcells ∧ bH (R1 c) cells vcells
 | [], [], [], cells, _, h => by cases h; exact ⟨[], ⟨rfl, rfl⟩, trivial⟩
 | [], [], _ :: _, _, hr, _ => hr.elim
 | [], _ :: _, _, _, _, h => by cases h
 | _ :: _, [], _, _, _, h => by cases h
 | _ :: _, _ :: _, [], _, hr, _ => hr.elim
 | (b, ds) :: ps, v :: vs, u :: us, cells, hr, h => by
  rw [nk] at h
  split at h
  ·cases h
  ·rename_i l hfl
   obtain ⟨vc, hv, hav⟩ := sZ hr.2 hfl
   split at h
   ·split at h
    ·rename_i cs hcs
     split at h
     ·rename_i hl
      have hl := Nat.eq_of_beq_eq_true hl
      cases h
      have hva : v = .agg cs := by cases v <;> first | (cases hcs; rfl) | (cases hcs)
      subst hva
      obtain ⟨xs, hu, ha⟩ := hr.1
      exact ⟨xs ++ vc, ⟨xs, us, vc, by rw [hu], by rw [← ha.length]; exact hl, rfl, hv⟩, ha.append hav⟩
     ·cases h
    ·cases h
   ·split at h
    ·rename_i h1 h2
     have h2 := Nat.eq_of_beq_eq_true h2
     cases h
     have hr1 : R1 c v u := hr.1.one (fun e => by rw [e] at h1; cases h1) (fun cs e => by rw [e] at h1; cases h1) (fun cs e => by rw [e] at h1; cases h1)
     exact ⟨u :: vc, ⟨u, us, vc, h2, rfl, hr1.one (by cases v <;> first | rfl | cases h1), rfl, hv⟩, hr1, hav⟩
    ·cases h
end
end Go.V
end
section
namespace Go.V
open Go Go.RowKit
set_option linter.unusedVariables false
set_option linter.unusedSimpArgs false
section
variable {P : Program} {E : En} {R : Type} {w0 : World} {M : Mo} {X : Nat → Prop} {hd : Nat → Value} {st : St} {a : Act} {w w' : World}
variable {k : St → Option R} {r : R} {K : Act → World → Prop} {Q : Exit → Act → World → Prop} {o : Oper}
theorem Hb {c : Cx} {v : AV} {u : Value} (h : R0 c v u) : ∀ b ∈ ah v, ∃ blk, c.find b = some blk := by
 intro b hb
 cases v with
 | own b' =>
  simp [ah] at hb; subst hb
  obtain ⟨_, _, blk, _, _, _, hf, _⟩ := h
  exact ⟨blk, hf⟩
 | om b' =>
  simp [ah] at hb; subst hb
  obtain ⟨_, _, blk, _, _, hf, _⟩ := h
  exact ⟨blk, hf⟩
 | box b' i =>
  simp [ah] at hb; subst hb
  obtain ⟨blk, _, _, hf, _⟩ := h
  exact ⟨blk, hf⟩
 | ep b' i =>
  simp [ah] at hb; subst hb
  obtain ⟨blk, _, _, _, _, _, _, _, hf, _⟩ := h
  exact ⟨blk, hf⟩
 | clo f caps => exact h.elim
 | agg _ => exact h.elim
 | tup _ => exact h.elim
 | _ => simp [ah] at hb
theorem Ec {c : Cx} : ∀ {l : List AV} {m : List Value}, bH (R0 c) l m → ∀ b ∈ ah.namesL l, ∃ blk, c.find b = some blk
 | [], [], _, b, hb => by simp [ah.namesL] at hb
 | v :: l, u :: m, h, b, hb => by
  simp only [ah.namesL, List.mem_append] at hb
  exact hb.elim (Hb h.1 b) (Ec h.2 b)
 | [], _ :: _, h, _, _ => h.elim
 | _ :: _, [], h, _, _ => h.elim
theorem BV {c : Cx} {v : AV} {u : Value} (h : R1 c v u) : ∀ b ∈ ah v, ∃ blk, c.find b = some blk := by
 cases v with
 | clo f caps =>
  obtain ⟨vs, _, ha⟩ := h
  intro b hb
  exact Ec ha b (by simpa [ah] using hb)
 | _ => exact Hb (u := u) (show R0 c _ u from h)
theorem rA {c : Cx} : ∀ {l : List AV} {m : List Value}, bH (R1 c) l m → ∀ b ∈ ah.namesL l, ∃ blk, c.find b = some blk
 | [], [], _, b, hb => by simp [ah.namesL] at hb
 | v :: l, u :: m, h, b, hb => by
  simp only [ah.namesL, List.mem_append] at hb
  exact hb.elim (BV h.1 b) (rA h.2 b)
 | [], _ :: _, h, _, _ => h.elim
 | _ :: _, [], h, _, _ => h.elim
theorem ff {c : Cx} : ∀ {ds : List D1} {l : List AV} {m : List Value}, bH (R1 c) l m → ∀ b ∈ cn ds l, ∃ blk, c.find b = some blk
 | [], [], [], _, b, hb => by simp [cn] at hb
 | d :: ds, [], [], _, b, hb => by cases d <;> simp [cn] at hb
 | [], v :: l, u :: m, h, b, hb => by simp [cn] at hb
 | .dat t :: ds, v :: l, u :: m, h, b, hb => by
  simp only [cn, List.mem_append] at hb
  exact hb.elim (BV h.1 b) (ff h.2 b)
 | .own e t :: ds, v :: l, u :: m, h, b, hb => ff (ds := ds) h.2 b hb
 | .cel t :: ds, v :: l, u :: m, h, b, hb => ff (ds := ds) h.2 b hb
 | _, [], _ :: _, h, _, _ => h.elim
 | _, _ :: _, [], h, _, _ => h.elim
theorem any_beq {l : List Nat} {b : Nat} : l.any (Nat.beq b) = true ↔ b ∈ l := by
 rw [List.any_eq_true]
 constructor
 ·rintro ⟨x, hx, he⟩
  have := Nat.eq_of_beq_eq_true he
  subst this; exact hx
 ·intro h
  exact ⟨b, h, Nat.beq_refl b⟩
theorem pU : ∀ {l : List Nat}, pT l = true → l.Nodup
 | [], _ => List.nodup_nil
 | b :: l, h => by
  simp only [pT, Bool.and_eq_true, Bool.not_eq_true'] at h
  rw [List.nodup_cons]
  refine ⟨fun hm => ?_, pU h.2⟩
  rw [any_beq.2 hm] at h
  exact absurd h.1 (by simp)
theorem Eu {ds : List D1} {cells : List AV} {rch : List Nat} (h : nT st ds cells = some rch) :
  (∀ b ∈ cn ds cells, b ∈ rch) ∧ (∀ b ∈ rch, ∀ c ∈ eW (st.find b), c ∈ rch) ∧ (cZ ds cells).Nodup ∧ ∀ b ∈ rch, b ∉ cZ ds cells := by
 unfold nT at h
 simp only at h
 split at h
 ·rename_i hb
  cases h
  simp only [Bool.and_eq_true] at hb
  obtain ⟨⟨⟨h1, h2⟩, h3⟩, h4⟩ := hb
  refine ⟨fun b hb => any_beq.1 (List.all_eq_true.1 h1 b hb), fun b hb c hc => any_beq.1 (List.all_eq_true.1 (List.all_eq_true.1 h2 b hb) c hc), pU h3, fun b hb hm => ?_⟩
  have := List.all_eq_true.1 h4 b hb
  rw [any_beq.2 hm] at this
  cases this
 ·cases h
theorem Dr {t : Ty} {x : t.den} {v : AV} {u : Value} (hu : R1 (st.cx X hd w) v u) (hx : dt st (.cel t) v = some x) : ∃ b, v = .box b 0 ∧ ∃ cs, st.find b = some (.cells cs) ∧ hd b = u := by
 cases v with
 | box b i =>
  cases i with
  | succ i => cases hx
  | zero =>
   have hx : oa st t (st.find b) = some x := hx
   obtain ⟨blk, n, r, hf, hs, hi, hh, hv⟩ := hu
   have hf : st.find b = some blk := hf
   rw [hf] at hx
   cases blk with
   | cells cs => exact ⟨b, rfl, cs, hf, hh.trans hv.symm⟩
   | _ => cases hx
 | _ => cases hx
theorem rE (h : Rel w0 M X hd st a w) : ∀ {ds : List D1} {x : cO ds} {cells : List AV} {vs : List Value}, bH (R1 (st.cx X hd w)) cells vs → dM st ds cells = some x → ∀ r ∈ bo ds vs, ∃ b ∈ cZ ds cells, (∃ blk, st.find b = some blk ∧ blk.live = true) ∧ az (hd b) = some r := by
 have oneC : ∀ {t : Ty} {x : t.den} {v : AV} {u : Value} {r : Nat}, R1 (st.cx X hd w) v u → dt st (.cel t) v = some x → az u = some r → ∃ b, v = .box b 0 ∧ (∃ blk, st.find b = some blk ∧ blk.live = true) ∧ az (hd b) = some r := by
  intro t x v u r hu hx hr
  obtain ⟨b, rfl, cs, hf, hh⟩ := Dr hu hx
  exact ⟨b, rfl, ⟨_, hf, rfl⟩, by rw [hh]; exact hr⟩
 have one : ∀ {e : TypeId} {t : Ty} {x : List t.den} {v : AV} {u : Value} {r : Nat}, R1 (st.cx X hd w) v u → dt st (.own e t) v = some x → az u = some r → ∃ b, v = .own b ∧ (∃ blk, st.find b = some blk ∧ blk.live = true) ∧ az (hd b) = some r := by
  intro e t x v u r hu hx hr
  cases v with
  | own b =>
   have hub : u = hd b := hu.1
   simp only [dt] at hx
   split at hx
   ·rename_i e' s l hf
    exact ⟨b, rfl, ⟨_, hf, rfl⟩, by rw [← hub]; exact hr⟩
   ·cases hx
  | nil =>
   have : u = .slice none 0 0 := hu
   rw [this] at hr; cases hr
  | _ => cases hx
 intro ds
 induction ds with
 | nil => intro x cells vs _ _ r hr; simp [bo] at hr
 | cons d ds ih =>
  intro x cells vs ha hx r hr
  cases ds with
  | nil =>
   have hx : (match one? cells with | some v => dt st d v | none => none) = some x := hx
   split at hx
   ·rename_i v hv
    obtain rfl := one?_some hv
    obtain ⟨u, rfl, hu⟩ := ha.one
    cases d with
    | dat t => simp [bo] at hr
    | own e t =>
     have hr' : az u = some r := by
      cases hb : az u with
      | none => simp [bo, hb] at hr
      | some r' => simp [bo, hb] at hr; rw [hr]
     obtain ⟨b, rfl, h1, h2⟩ := one hu hx hr'
     exact ⟨b, by simp [cZ], h1, h2⟩
    | cel t =>
     have hr' : az u = some r := by
      cases hb : az u with
      | none => simp [bo, hb] at hr
      | some r' => simp [bo, hb] at hr; rw [hr]
     obtain ⟨b, rfl, h1, h2⟩ := oneC hu hx hr'
     exact ⟨b, by simp [cZ], h1, h2⟩
   ·cases hx
  | cons d' ds =>
   cases cells with
   | nil => cases hx
   | cons v cells => cases vs with
    | nil => exact ha.elim
    | cons u vs =>
     have hx : (match dt st d v with
      | some x => match dM st (d' :: ds) cells with
       | some y => some (x, y)
       | none => none
      | none => none) = some x := hx
     split at hx
     ·rename_i y hy
      split at hx
      ·rename_i z hz
       cases d with
       | dat t =>
        obtain ⟨b, hb, h1⟩ := ih ha.2 hz r hr
        exact ⟨b, hb, h1⟩
       | own e t =>
        have sub : ∀ b ∈ cZ (d' :: ds) cells, b ∈ cZ (.own e t :: d' :: ds) (v :: cells) := by
         intro b hb
         rcases v with _ | _ | _ | _ | _ | _ | _ | _ | _ | ⟨_, _ | _⟩ | _ | _ | _ | _ | _ <;> first | exact hb | exact List.mem_cons_of_mem _ hb
        cases hb : az u with
        | none =>
         simp only [bo, hb] at hr
         obtain ⟨b, hb, h1⟩ := ih ha.2 hz r hr
         exact ⟨b, sub b hb, h1⟩
        | some r' =>
         simp only [bo, hb, List.mem_cons] at hr
         rcases hr with rfl | hr
         ·obtain ⟨b, rfl, h1, h2⟩ := one ha.1 hy hb
          exact ⟨b, by simp [cZ], h1, h2⟩
         ·obtain ⟨b, hb, h1⟩ := ih ha.2 hz r hr
          exact ⟨b, sub b hb, h1⟩
       | cel t =>
        have sub : ∀ b ∈ cZ (d' :: ds) cells, b ∈ cZ (.cel t :: d' :: ds) (v :: cells) := by
         intro b hb
         rcases v with _ | _ | _ | _ | _ | _ | _ | _ | _ | ⟨_, _ | _⟩ | _ | _ | _ | _ | _ <;> first | exact hb | exact List.mem_cons_of_mem _ hb
        cases hb : az u with
        | none =>
         simp only [bo, hb] at hr
         obtain ⟨b, hb, h1⟩ := ih ha.2 hz r hr
         exact ⟨b, sub b hb, h1⟩
        | some r' =>
         simp only [bo, hb, List.mem_cons] at hr
         rcases hr with rfl | hr
         ·obtain ⟨b, rfl, h1, h2⟩ := oneC ha.1 hy hb
          exact ⟨b, by simp [cZ], h1, h2⟩
         ·obtain ⟨b, hb, h1⟩ := ih ha.2 hz r hr
          exact ⟨b, sub b hb, h1⟩
      ·cases hx
     ·cases hx
theorem tL (h : Rel w0 M X hd st a w) : ∀ {ds : List D1} {x : cO ds} {cells : List AV} {vs : List Value}, bH (R1 (st.cx X hd w)) cells vs → dM st ds cells = some x → (cZ ds cells).Nodup → (bo ds vs).Nodup := by
 intro ds
 induction ds with
 | nil => intro x cells vs _ _ _; cases vs <;> simp [bo]
 | cons d ds ih =>
  intro x cells vs ha hx hn
  cases ds with
  | nil =>
   match vs with
   | [] => cases d <;> simp [bo]
   | u :: us => cases d with
    | dat t => cases us <;> simp [bo]
    | own e t => cases hb : az u <;> cases us <;> simp [bo, hb]
    | cel t => cases hb : az u <;> cases us <;> simp [bo, hb]
  | cons d' ds =>
   cases cells with
   | nil => cases hx
   | cons v cells => cases vs with
    | nil => exact ha.elim
    | cons u vs =>
     have hx' := hx
     have hx : (match dt st d v with
      | some x => match dM st (d' :: ds) cells with
       | some y => some (x, y)
       | none => none
      | none => none) = some x := hx
     split at hx
     ·rename_i y hy
      split at hx
      ·rename_i z hz
       cases d with
       | dat t => exact ih ha.2 hz hn
       | own e t =>
        have hn' : (cZ (d' :: ds) cells).Nodup := by
         rcases v with _ | _ | _ | _ | _ | _ | _ | _ | _ | ⟨_, _ | _⟩ | _ | _ | _ | _ | _ <;> first | exact hn | exact (List.nodup_cons.1 hn).2
        cases hb : az u with
        | none => simp only [bo, hb]; exact ih ha.2 hz hn'
        | some r' =>
         simp only [bo, hb]
         rw [List.nodup_cons]
         refine ⟨fun hm => ?_, ih ha.2 hz hn'⟩
         obtain ⟨b2, hb2, ⟨blk2, hf2, _⟩, hr2⟩ := rE h ha.2 hz r' hm
         cases v with
         | own b =>
          have hu : u = hd b := ha.1.1
          obtain ⟨_, _, blk, _, _, _, hf, _⟩ := ha.1
          rw [hu] at hb
          have := h.inj b b2 blk _ r' hf hf2 hb hr2
          subst this
          exact (List.nodup_cons.1 hn).1 hb2
         | nil =>
          have : u = .slice none 0 0 := ha.1
          rw [this] at hb; cases hb
         | _ => cases hy
       | cel t =>
        have hn' : (cZ (d' :: ds) cells).Nodup := by
         rcases v with _ | _ | _ | _ | _ | _ | _ | _ | _ | ⟨_, _ | _⟩ | _ | _ | _ | _ | _ <;> first | exact hn | exact (List.nodup_cons.1 hn).2
        cases hb : az u with
        | none => simp only [bo, hb]; exact ih ha.2 hz hn'
        | some r' =>
         simp only [bo, hb]
         rw [List.nodup_cons]
         refine ⟨fun hm => ?_, ih ha.2 hz hn'⟩
         obtain ⟨b2, hb2, ⟨blk2, hf2, _⟩, hr2⟩ := rE h ha.2 hz r' hm
         obtain ⟨b, rfl, cs, hf, hu⟩ := Dr ha.1 hy
         rw [← hu] at hb
         have := h.inj b b2 _ _ r' hf hf2 hb hr2
         subst this
         exact (List.nodup_cons.1 hn).1 hb2
      ·cases hx
     ·cases hx
theorem gX : ∀ {ns : List Nat} {st st' : St}, df st ns = some st' → ∀ b, b ∉ ns → st'.find b = st.find b
 | [], st, st', e, b, _ => by cases e; rfl
 | c :: ns, st, st', e, b, hb => by
  unfold df at e
  have h1 : b ≠ c := fun e => hb (by simp [e])
  have h2 : b ∉ ns := fun e => hb (by simp [e])
  split at e
  ·rename_i e' t l hf
   rw [gX e b h2, St.aW, if_neg h1]
  ·rename_i e' t l hf
   exact gX e b h2
  ·rename_i k v m hf
   rw [gX e b h2, St.aW, if_neg h1]
  ·rename_i k v m hf
   exact gX e b h2
  ·cases e
def avN : AV → Option Nat
 | .own b => some b
 | .box b 0 => some b
 | _ => none
def pV : (d : D1) → d.den → Option Blk
 | .own e t, l => some (.flat e t l)
 | .cel t, x => some (.cells (cj t x))
 | .dat _, _ => none
theorem uh {N : Nat → Prop} {d : D1} {x : d.den} {v : AV} {u : Value} {st st' : St} (hv : ∀ b, avN v = some b → u = hd b) (hp : P1 w' N d x u) (h : dF st d x v = some st') :
  st'.n = st.n ∧ st'.get = st.get ∧ ∀ c, (st'.find c = st.find c ∧ avN v ≠ some c) ∨ (∃ blk, avN v = some c ∧ pV d x = some blk ∧ st'.find c = some blk ∧ P1 w' N d x (hd c)) := by
 have key : ∀ b blk, avN v = some b → pV d x = some blk → st.lay b blk = st' → st'.n = st.n ∧ st'.get = st.get ∧ ∀ c, (st'.find c = st.find c ∧ avN v ≠ some c) ∨ (∃ blk, avN v = some c ∧ pV d x = some blk ∧ st'.find c = some blk ∧ P1 w' N d x (hd c)) := by
  rintro b blk hb ho rfl
  refine ⟨rfl, rfl, fun c => ?_⟩
  by_cases e' : c = b
  ·subst e'
   exact .inr ⟨blk, hb, ho, by rw [St.aW, if_pos rfl], by rw [← hv c hb]; exact hp⟩
  ·exact .inl ⟨by rw [St.aW, if_neg e'], fun h => e' (by rw [hb] at h; exact (Option.some.inj h).symm)⟩
 cases d with
 | dat t => cases h
 | own e t =>
  cases v with
  | own b =>
   have h : some _ = some st' := h
   exact key b _ rfl rfl (Option.some.inj h)
  | nil =>
   have h : some st = some st' := h
   cases h
   exact ⟨rfl, rfl, fun c => .inl ⟨rfl, by simp [avN]⟩⟩
  | _ => cases h
 | cel t =>
  cases v with
  | box b i =>
   cases i with
   | zero =>
    have h : some _ = some st' := h
    exact key b _ rfl rfl (Option.some.inj h)
   | succ i => cases h
  | _ => cases h
theorem ui {N : Nat → Prop} : ∀ {ds : List D1} {x : cO ds} {cells : List AV} {vs : List Value} {st st' : St}, bH (fun v u => ∀ b, avN v = some b → u = hd b) cells vs → PL w' N ds x vs → ed st ds x cells = some st' →
  st'.n = st.n ∧ st'.get = st.get ∧ ∀ c, (st'.find c = st.find c ∧ ∀ v ∈ cells, avN v ≠ some c) ∨ (∃ d y v blk, (d, v) ∈ ds.zip cells ∧ avN v = some c ∧ pV d y = some blk ∧ st'.find c = some blk ∧ P1 w' N d y (hd c))
 | [], x, cells, vs, st, st', ha, hp, h => by
  cases cells with
  | nil =>
   have h : some st = some st' := h
   cases h
   exact ⟨rfl, rfl, fun c => .inl ⟨rfl, by simp⟩⟩
  | cons _ _ => cases h
 | [d], x, cells, vs, st, st', ha, hp, h => by
  have h : (match one? cells with | some v => dF st d x v | none => none) = some st' := h
  split at h
  ·rename_i v hv
   obtain rfl := one?_some hv
   obtain ⟨u, rfl, hu⟩ := ha.one
   obtain ⟨u', e, hp⟩ := hp
   cases e
   obtain ⟨h1, h2, h3⟩ := uh hu hp h
   refine ⟨h1, h2, fun c => ?_⟩
   rcases h3 c with ⟨q1, q2⟩ | ⟨blk, q1, q2⟩
   ·exact .inl ⟨q1, by simpa using q2⟩
   ·exact .inr ⟨d, x, v, blk, by simp, q1, q2⟩
  ·cases h
 | d :: d' :: ds, x, cells, vs, st, st', ha, hp, h => by
  cases cells with
  | nil => cases h
  | cons v cells => cases vs with
   | nil => exact ha.elim
   | cons u vs =>
    have h : (match dF st d x.1 v with | some st => ed st (d' :: ds) x.2 cells | none => none) = some st' := h
    split at h
    ·rename_i st1 hst1
     obtain ⟨u', us', e, hp1, hp2⟩ := hp
     simp only [List.cons.injEq] at e
     obtain ⟨rfl, rfl⟩ := e
     obtain ⟨h1, h2, h3⟩ := uh ha.1 hp1 hst1
     obtain ⟨q1, q2, q3⟩ := ui ha.2 hp2 h
     refine ⟨q1.trans h1, q2.trans h2, fun c => ?_⟩
     rcases q3 c with ⟨p1, p2⟩ | ⟨d2, y, v2, blk, p1, p2⟩
     ·rcases h3 c with ⟨p3, p4⟩ | ⟨blk, p3, p4, p5, p6⟩
      ·refine .inl ⟨p1.trans p3, fun v' hv' => ?_⟩
       rcases List.mem_cons.1 hv' with rfl | hv'
       ·exact p4
       ·exact p2 v' hv'
      ·exact .inr ⟨d, x.1, v, blk, by simp, p3, p4, p1.trans p5, p6⟩
     ·exact .inr ⟨d2, y, v2, blk, by rw [List.zip_cons_cons]; exact List.mem_cons_of_mem _ p1, p2⟩
    ·cases h
theorem Rel.Gs {us : List Nat} {b : Nat} {blk : Blk} {v : Value} {r : Option Nat} (h : Rel w0 M (fun q => X q ∨ q ∈ r.toList ++ us) hd st a w) (hf : st.find b = none) (hv : az v = r)
  (hnew : ∀ q, r = some q → w0.heap.size ≤ q ∧ q ∉ us ∧ ¬ X q)
  (hrb : ∀ (N' : Nat → Prop) (hd' : Nat → Value) (f : Nat → Option Blk), (∀ q, N' q → ((X q ∨ q ∈ r.toList ++ us) ∨ eg st.find hd q)) → hd' b = v → RB ⟨w, N', hd', f⟩ b blk) :
  Rel w0 M (fun q => X q ∨ q ∈ us) (fun c => if c = b then v else hd c) (st.lay b blk) a w ∧
  fb some (st.cx (fun q => X q ∨ q ∈ r.toList ++ us) hd w) ((st.lay b blk).cx (fun q => X q ∨ q ∈ us) (fun c => if c = b then v else hd c) w) ∧
  (∀ q, ((X q ∨ q ∈ us) ∨ eg (st.lay b blk).find (fun c => if c = b then v else hd c) q) → ((X q ∨ q ∈ r.toList ++ us) ∨ eg st.find hd q)) := by
 have hne : ∀ c blk, st.find c = some blk → c ≠ b := fun c blk hc e => by rw [e, hf] at hc; cases hc
 have hmine : ∀ q, eg (st.lay b blk).find (fun c => if c = b then v else hd c) q → eg st.find hd q ∨ r = some q := by
  rintro q ⟨c, blk', hc, hl, hr⟩
  rw [St.aW] at hc
  by_cases e : c = b
  ·simp only [e, if_true] at hr
   exact .inr (hv.symm.trans hr)
  ·simp only [if_neg e] at hc hr
   exact .inl ⟨c, blk', hc, hl, hr⟩
 have hheld : ∀ q, je (st.lay b blk).find (fun c => if c = b then v else hd c) q → je st.find hd q ∨ r = some q := by
  rintro q ⟨c, blk', hc, hr⟩
  rw [St.aW] at hc
  by_cases e : c = b
  ·simp only [e, if_true] at hr
   exact .inr (hv.symm.trans hr)
  ·simp only [if_neg e] at hc hr
   exact .inl ⟨c, blk', hc, hr⟩
 have hN : ∀ q, ((X q ∨ q ∈ us) ∨ eg (st.lay b blk).find (fun c => if c = b then v else hd c) q) → ((X q ∨ q ∈ r.toList ++ us) ∨ eg st.find hd q) := by
  rintro q ((hx | hu) | hm)
  ·exact .inl (.inl hx)
  ·exact .inl (.inr (List.mem_append_right _ hu))
  ·rcases hmine q hm with h1 | h1
   ·exact .inr h1
   ·exact .inl (.inr (List.mem_append_left _ (by simp [h1])))
 have g : fb some (st.cx (fun q => X q ∨ q ∈ r.toList ++ us) hd w) ((st.lay b blk).cx (fun q => X q ∨ q ∈ us) (fun c => if c = b then v else hd c) w) := by
  refine ⟨fun ad u hn hc => ⟨fun hq => hn (hN _ hq), hc⟩, ?_⟩
  intro c c' blk' hc hf'
  cases hc
  have := hne c blk' hf'
  refine ⟨blk', ?_, rfl, ?_⟩
  ·show St.find (St.lay _ _ _) _ = _
   rw [St.aW, if_neg this]; exact hf'
  ·show (if c = b then v else hd c) = hd c
   rw [if_neg this]
 refine ⟨⟨h.size, h.defers, fun q => Rt.go g (h.tmps q), ?_, ?_, h.frame, ?_, ?_, ?_⟩, g, hN⟩
 ·intro c blk' hc
  rw [St.aW] at hc
  by_cases e' : c = b
  ·subst e'
   rw [if_pos rfl] at hc
   cases hc
   exact hrb _ _ _ hN (by show (if c = c then v else _) = v; rw [if_pos rfl])
  ·rw [if_neg e'] at hc
   have := RB.ren g (c := st.cx (fun q => X q ∨ q ∈ r.toList ++ us) hd w) (b := c) (b' := c) (by show (if c = b then v else hd c) = hd c; rw [if_neg e']) (fun _ _ => rfl) (h.blocks c blk' hc)
   rw [Blk.du] at this
   exact this
 ·intro c c' blk1 blk2 q h1 h2 hr1 hr2
  rw [St.aW] at h1 h2
  have far : ∀ c blk, st.find c = some blk → az (hd c) = some q → r ≠ some q := by
   intro c blk hc hq e'
   exact (h.m7 q (.inr (List.mem_append_left _ (by simp [e'])))).2 ⟨c, blk, hc, hq⟩
  by_cases e1 : c = b <;> by_cases e2 : c' = b
  ·rw [e1, e2]
  ·simp only [e1, if_true] at hr1
   simp only [if_neg e2] at h2 hr2
   exact absurd (hv.symm.trans hr1) (far c' blk2 h2 hr2)
  ·simp only [e2, if_true] at hr2
   simp only [if_neg e1] at h1 hr1
   exact absurd (hv.symm.trans hr2) (far c blk1 h1 hr1)
  ·simp only [if_neg e1] at h1 hr1
   simp only [if_neg e2] at h2 hr2
   exact h.inj c c' blk1 blk2 q h1 h2 hr1 hr2
 ·intro q hq
  rcases hheld q hq with h1 | h1
  ·exact h.BR q h1
  ·exact .inr (hnew q h1).1
 ·intro i hi
  obtain ⟨h1, blk', h2⟩ := h.pins i hi
  have := hne i blk' h2
  exact ⟨by simp [this, h1], blk', by rw [St.aW, if_neg this]; exact h2⟩
 ·rintro q (hx | hu)
  ·obtain ⟨h1, h2⟩ := h.m7 q (.inl hx)
   refine ⟨h1, fun hh => ?_⟩
   rcases hheld q hh with h3 | h3
   ·exact h2 h3
   ·exact (hnew q h3).2.2 hx
  ·obtain ⟨h1, h2⟩ := h.m7 q (.inr (List.mem_append_right _ hu))
   refine ⟨h1, fun hh => ?_⟩
   rcases hheld q hh with h3 | h3
   ·exact h2 h3
   ·exact (hnew q h3).2.1 hu
theorem Rel.zc {us : List Nat} {b : Nat} {e : TypeId} {t : Ty} {l : List t.den} {v : Value} {r : Option Nat} (h : Rel w0 M (fun q => X q ∨ q ∈ r.toList ++ us) hd st a w) (hf : st.find b = none) (hv : az v = r)
  (hnew : ∀ q, r = some q → w0.heap.size ≤ q ∧ q ∉ us ∧ ¬ X q)
  (hown : ∃ xs, w.ownsRow 0 e t.size v (List.length l) xs ∧ cw w (fun q => (X q ∨ q ∈ r.toList ++ us) ∨ eg st.find hd q) t l xs) :
  Rel w0 M (fun q => X q ∨ q ∈ us) (fun c => if c = b then v else hd c) (st.lay b (.flat e t l)) a w ∧
  fb some (st.cx (fun q => X q ∨ q ∈ r.toList ++ us) hd w) ((st.lay b (.flat e t l)).cx (fun q => X q ∨ q ∈ us) (fun c => if c = b then v else hd c) w) ∧
  (∀ q, ((X q ∨ q ∈ us) ∨ eg (st.lay b (.flat e t l)).find (fun c => if c = b then v else hd c) q) → ((X q ∨ q ∈ r.toList ++ us) ∨ eg st.find hd q)) := by
 refine h.Gs hf hv hnew ?_
 intro N' hd' f hN hh
 obtain ⟨xs, h1, h2⟩ := hown
 exact ⟨xs, by show w.ownsRow 0 e t.size (hd' b) _ _; rw [hh]; exact h1, h2.move fun _ _ q hc => ⟨fun q' => q (hN _ q'), hc⟩⟩
end
end Go.V
end
section
namespace Go.V
open Go Go.RowKit
set_option linter.unusedVariables false
set_option linter.unusedSimpArgs false
section
variable {P : Program} {E : En} {R : Type} {w0 : World} {M : Mo} {X : Nat → Prop} {hd : Nat → Value} {st : St} {a : Act} {w w' : World}
variable {k : St → Option R} {r : R} {K : Act → World → Prop} {Q : Exit → Act → World → Prop} {o : Oper}
theorem fb.trans {c1 c2 c3 : Cx} (g : fb some c1 c2) (h : fb some c2 c3) : fb some c1 c3 := by
 refine ⟨fun ad v hn hc => ?_, fun b b' blk hb hf => ?_⟩
 ·obtain ⟨h1, h2⟩ := g.move ad v hn hc
  exact h.move ad v h1 h2
 ·cases hb
  obtain ⟨blk1, q1, q2, q3⟩ := g.name b b blk rfl hf
  obtain ⟨blk2, p1, p2, p3⟩ := h.name b b blk1 rfl q1
  exact ⟨blk2, p1, p2.trans q2, p3.trans q3⟩
theorem fb.refl (c : Cx) : fb some c c := ⟨fun _ _ hn hc => ⟨hn, hc⟩, fun b b' blk hb hf => by cases hb; exact ⟨blk, hf, rfl, rfl⟩⟩
theorem vX {d : D1} {x : d.den} {us : List Nat} {v : Value} {nm : Nat} {c : AV} {st' : St} (h : Rel w0 M (fun q => X q ∨ q ∈ bo [d] [v] ++ us) hd st a w)
  (hp : P1 w (fun q => (X q ∨ q ∈ bo [d] [v] ++ us) ∨ eg st.find hd q) d x v) (hn : (bo [d] [v] ++ us).Nodup) (hf : ∀ q ∈ bo [d] [v] ++ us, w0.heap.size ≤ q ∧ ¬ X q) (hs : jy st nm d x = some (c, st')) :
  ∃ hd', Rel w0 M (fun q => X q ∨ q ∈ us) hd' st' a w ∧ R1 (st'.cx (fun q => X q ∨ q ∈ us) hd' w) c v ∧ fb some (st.cx (fun q => X q ∨ q ∈ bo [d] [v] ++ us) hd w) (st'.cx (fun q => X q ∨ q ∈ us) hd' w) ∧
   (∀ q, ((X q ∨ q ∈ us) ∨ eg st'.find hd' q) → ((X q ∨ q ∈ bo [d] [v] ++ us) ∨ eg st.find hd q)) := by
 cases d with
 | dat t =>
  have hs : (match cj t x with | [v] => some (v, st) | _ => none) = some (c, st') := hs
  split at hs
  ·rename_i u hu
   cases hs
   refine ⟨hd, h, ?_, fb.refl _, fun q hq => hq⟩
   have hc := cU (c := st.cx (fun q => X q ∨ q ∈ us) hd w) (show Rc w _ t x [v] from hp)
   rw [hu] at hc
   exact R1.of0 hc.1
  ·cases hs
 | own e t =>
  have hs : (match st.alloc nm (.flat e t x) with | some st' => some (.own nm, st') | none => none) = some (c, st') := hs
  split at hs
  ·rename_i st1 hal
   cases hs
   obtain ⟨hfind, rfl⟩ := cA hal
   have hlist : bo [.own e t] [v] = (az v).toList := by
    cases hb : az v <;> simp [bo, hb]
   rw [hlist] at h hp hn hf ⊢
   obtain ⟨xs, hown, hE⟩ := hp
   obtain ⟨h1, h2, h3⟩ := h.zc (b := nm) (v := v) hfind rfl (fun q hq => ⟨(hf q (by simp [hq])).1, fun hm => by
    rw [hq] at hn; simp at hn; exact hn.1 hm, (hf q (by simp [hq])).2⟩) ⟨xs, hown, hE⟩
   refine ⟨_, h1, ?_, h2, h3⟩
   exact ⟨by show v = (if nm = nm then v else _); rw [if_pos rfl], mb hown, .flat e t x, e, t, List.length x, by show St.find (St.lay _ _ _) _ = _; rw [St.aW, if_pos rfl], rfl⟩
  ·cases hs
 | cel t =>
  have hs : (match st.alloc nm (.cells (cj t x)) with | some st' => some (.box nm 0, st') | none => none) = some (c, st') := hs
  split at hs
  ·rename_i st1 hal
   cases hs
   obtain ⟨hfind, rfl⟩ := cA hal
   have hlist : bo [.cel t] [v] = (az v).toList := by
    cases hb : az v <;> simp [bo, hb]
   rw [hlist] at h hp hn hf ⊢
   obtain ⟨r, vs, e, hve, hheap, hpos, hrc⟩ := hp
   obtain ⟨h1, h2, h3⟩ := h.Gs (b := nm) (blk := .cells (cj t x)) (v := v) hfind rfl (fun q hq => ⟨(hf q (by simp [hq])).1, fun hm => by
    rw [hq] at hn; simp at hn; exact hn.1 hm, (hf q (by simp [hq])).2⟩) (fun N' hd' f hN hh => ⟨r, vs, e, by show hd' nm = _; rw [hh, hve], hheap, (cU (c := ⟨w, N', hd', f⟩) (hrc.weaken hN)).mono fun _ _ => R1.of0⟩)
   refine ⟨_, h1, ?_, h2, h3⟩
   have hlen := (cU (c := ⟨w, _, hd, st.find⟩) hrc).length
   exact ⟨.cells (cj t x), _, r, by show St.find (St.lay _ _ _) _ = _; rw [St.aW, if_pos rfl], rfl, by rw [hlen, hrc.length]; exact hpos, by show (if nm = nm then v else _) = _; rw [if_pos rfl, hve], hve⟩
  ·cases hs
theorem gh (d : D1) (ds : List D1) (v : Value) (vs : List Value) : bo (d :: ds) (v :: vs) = bo [d] [v] ++ bo ds vs := by
 cases d with
 | dat t => simp [bo]
 | own e t => cases h : az v <;> simp [bo, h]
 | cel t => cases h : az v <;> simp [bo, h]
theorem vY : ∀ {ds : List D1} {x : cO ds} {vals : List Value} {nm : Nat} {hd : Nat → Value} {st st' : St} {cs : List AV}, Rel w0 M (fun q => X q ∨ q ∈ bo ds vals) hd st a w →
  PL w (fun q => (X q ∨ q ∈ bo ds vals) ∨ eg st.find hd q) ds x vals → (bo ds vals).Nodup → (∀ q ∈ bo ds vals, w0.heap.size ≤ q ∧ ¬ X q) → kQ st nm ds x = some (cs, st') →
  ∃ hd', Rel w0 M X hd' st' a w ∧ bH (R1 (st'.cx X hd' w)) cs vals ∧ fb some (st.cx (fun q => X q ∨ q ∈ bo ds vals) hd w) (st'.cx X hd' w)
 | [], x, vals, nm, hd, st, st', cs, h, hp, hn, hf, hs => by
  have e : vals = [] := hp
  subst e
  cases hs
  have e : (fun q => X q ∨ q ∈ bo [] []) = X := by funext q; simp [bo]
  rw [e] at h ⊢
  exact ⟨hd, h, trivial, fb.refl _⟩
 | [d], x, vals, nm, hd, st, st', cs, h, hp, hn, hf, hs => by
  obtain ⟨v, rfl, hp⟩ := hp
  have hs : (match jy st nm d x with | some (v, st) => some ([v], st) | none => none) = some (cs, st') := hs
  split at hs
  ·rename_i c st1 h1
   cases hs
   have e0 : bo [d] [v] = bo [d] [v] ++ [] := by simp
   rw [e0] at h hp hn hf ⊢
   obtain ⟨hd', q1, q2, q3, _⟩ := vX h hp hn hf h1
   have e : (fun q => X q ∨ q ∈ ([] : List Nat)) = X := by funext q; simp
   rw [e] at q1 q2 q3
   exact ⟨hd', q1, ⟨q2, trivial⟩, q3⟩
  ·cases hs
 | d :: d' :: ds, x, vals, nm, hd, st, st', cs, h, hp, hn, hf, hs => by
  obtain ⟨v, us, rfl, hp1, hp2⟩ := hp
  have hs : (match jy st nm d x.1 with
   | some (v, st) => match kQ st (nm + 1) (d' :: ds) x.2 with
    | some (vs, st) => some (v :: vs, st)
    | none => none
   | none => none) = some (cs, st') := hs
  rw [gh] at h hp1 hp2 hn hf ⊢
  split at hs
  ·rename_i c st1 h1
   split at hs
   ·rename_i cs' st2 h2
    cases hs
    obtain ⟨hd1, q1, q2, q3, q4⟩ := vX h hp1 hn hf h1
    obtain ⟨hd2, p1, p2, p3⟩ := vY (ds := d' :: ds) q1 (hp2.weaken q4) (List.nodup_append.1 hn).2.1 (fun q hq => hf q (List.mem_append_right _ hq)) h2
    exact ⟨hd2, p1, ⟨R1.go p3 q2, p2⟩, q3.trans p3⟩
   ·cases hs
  ·cases hs
theorem iZ {c : Cx} : ∀ {rs : List (Bool × List D1)} {cs : List AV} {vs : List Value} {us : List Value} {vals : List AV}, bH (R1 c) cs us → gu rs vs us → dK rs cs = some vals → bH (Ra c) vals vs
 | [], [], vs, us, vals, ha, hc, h => by
  obtain ⟨rfl, rfl⟩ := hc
  cases h
  trivial
 | [], _ :: _, vs, us, vals, ha, hc, h => by cases h
 | (true, ds) :: rs, cs, vs, us, vals, ha, hc, h => by
  obtain ⟨us1, vs', cs', rfl, hl, rfl, hc'⟩ := hc
  have h : (match dK rs (cs.drop ds.length) with | some l => some (AV.agg (cs.take ds.length) :: l) | none => none) = some vals := h
  split at h
  ·rename_i l hl'
   cases h
   have h1 := ha.take ds.length
   have h2 := ha.drop ds.length
   rw [← hl, List.take_left] at h1
   rw [← hl, List.drop_left] at h2
   rw [← hl]
   exact ⟨⟨us1, rfl, h1⟩, iZ h2 hc' (by rw [hl]; exact hl')⟩
  ·cases h
 | (false, ds) :: rs, cs, vs, us, vals, ha, hc, h => by
  obtain ⟨v, vs', cs', hl, rfl, h1, rfl, hc'⟩ := hc
  match ds, hl with
  | [d], _ =>
   cases cs with
   | nil => exact ha.elim
   | cons c' cs =>
    have h : (match dK rs cs with | some l => some (c' :: l) | none => none) = some vals := h
    split at h
    ·rename_i l hl'
     cases h
     exact ⟨Ra.of1 ha.1, iZ ha.2 hc' hl'⟩
    ·cases h
end
end Go.V
end
section
namespace Go.V
open Go Go.RowKit
set_option linter.unusedVariables false
set_option linter.unusedSimpArgs false
section
variable {P : Program} {E : En} {R : Type} {w0 : World} {M : Mo} {X : Nat → Prop} {hd : Nat → Value} {st : St} {a : Act} {w w' : World}
variable {k : St → Option R} {r : R} {K : Act → World → Prop} {Q : Exit → Act → World → Prop} {o : Oper}
theorem gu.length : ∀ {ps : List (Bool × List D1)} {vs cs : List Value}, gu ps vs cs → cs.length = (flatC ps).length
 | [], _, _, ⟨_, h⟩ => by rw [h]; rfl
 | (true, ds) :: ps, _, _, ⟨us, vs', cs', _, hl, e, h⟩ => by
  rw [e, List.length_append, gu.length h, hl]; simp [flatC]
 | (false, ds) :: ps, _, _, ⟨v, vs', cs', hl, _, _, e, h⟩ => by
  rw [e, List.length_cons, gu.length h]; simp [flatC, hl]; omega
theorem Hq {base base' : Nat} {e e' : TypeId} {s s' : Nat} {v : Value} {n n' : Nat} {xs xs' : List Value} (h : w.ownsRow base e s v n xs) (h' : w'.ownsRow base' e' s' v n' xs') : n = n' := by
 rcases h.2 with ⟨rfl, rfl⟩ | ⟨g, c, _, rfl, _⟩ <;> rcases h'.2 with ⟨e1, e2⟩ | ⟨g', c', _, e1, _⟩ <;> simp_all
def Kind (d : D1) (blk : Blk) : Prop :=
 match d with
 | .own e t => ∃ l, blk = .flat e t l
 | .cel t => ∃ cs, blk = .cells cs ∧ cs.length = t.size ∧ 0 < t.size
 | .dat _ => False
theorem Hm {ds : List D1} : ∀ {x : cO ds} {cells : List AV}, dM st ds cells = some x → ∀ {d : D1} {v : AV} {c : Nat}, (d, v) ∈ ds.zip cells → d.cM = true → avN v = some c → c ∈ cZ ds cells ∧ ∃ blk, st.find c = some blk ∧ Kind d blk := by
 have one : ∀ {d : D1} {x : d.den} {v : AV} {c : Nat}, dt st d v = some x → d.cM = true → avN v = some c → (∀ ds cells, c ∈ cZ (d :: ds) (v :: cells)) ∧ ∃ blk, st.find c = some blk ∧ Kind d blk := by
  intro d x v c hx hd hv
  cases d with
  | dat t => cases hd
  | own e t =>
   cases v with
   | own b =>
    cases hv
    refine ⟨fun ds cells => by simp [cZ], ?_⟩
    simp only [dt] at hx
    split at hx
    ·rename_i e' s l hf
     split at hx
     ·rename_i he
      have he := Nat.eq_of_beq_eq_true he
      subst he
      obtain ⟨h1, h2⟩ := cast?_some hx
      cases h1
      exact ⟨_, hf, l, rfl⟩
     ·cases hx
    ·cases hx
   | nil => cases hv
   | _ => cases hx
  | cel t =>
   cases v with
   | box b i =>
    cases i with
    | succ i => cases hx
    | zero =>
     cases hv
     refine ⟨fun ds cells => by simp [cZ], ?_⟩
     have hx : oa st t (st.find c) = some x := hx
     cases hf : st.find c with
     | none => rw [hf] at hx; cases hx
     | some blk =>
      rw [hf] at hx
      cases blk with
      | cells cs =>
       simp only [oa] at hx
       split at hx
       ·rename_i h1 h2 h3
        exact ⟨_, rfl, cs, rfl, Nat.eq_of_beq_eq_true h1, by simpa [Nat.blt_eq] using h3⟩
       ·cases hx
      | _ => cases hx
   | _ => cases hx
 have sub : ∀ {d : D1} {ds : List D1} {v : AV} {cells : List AV} {c : Nat}, c ∈ cZ ds cells → c ∈ cZ (d :: ds) (v :: cells) := by
  intro d ds v cells c h
  cases d with
  | dat t => exact h
  | own e t => cases v <;> first | exact h | exact List.mem_cons_of_mem _ h
  | cel t => rcases v with _ | _ | _ | _ | _ | _ | _ | _ | _ | ⟨_, _ | _⟩ | _ | _ | _ | _ | _ <;> first | exact h | exact List.mem_cons_of_mem _ h
 induction ds with
 | nil => intro x cells _ d v c h; simp at h
 | cons d ds ih =>
  intro x cells hx d1 v1 c h hd hv1
  cases ds with
  | nil =>
   have hx : (match one? cells with | some v => dt st d v | none => none) = some x := hx
   split at hx
   ·rename_i v hv
    obtain rfl := one?_some hv
    simp at h
    obtain ⟨rfl, rfl⟩ := h
    obtain ⟨h1, h2⟩ := one hx hd hv1
    exact ⟨h1 _ _, h2⟩
   ·cases hx
  | cons d' ds =>
   cases cells with
   | nil => cases hx
   | cons v cells =>
    have hx : (match dt st d v with
     | some x => match dM st (d' :: ds) cells with
      | some y => some (x, y)
      | none => none
     | none => none) = some x := hx
    split at hx
    ·rename_i y hy
     split at hx
     ·rename_i z hz
      rw [List.zip_cons_cons, List.mem_cons] at h
      rcases h with h | h
      ·simp only [Prod.mk.injEq] at h
       obtain ⟨rfl, rfl⟩ := h
       obtain ⟨h1, h2⟩ := one hy hd hv1
       exact ⟨h1 _ _, h2⟩
      ·obtain ⟨h1, h2⟩ := ih hz h hd hv1
       exact ⟨sub h1, h2⟩
     ·cases hx
    ·cases hx
theorem jx : ∀ {ds : List D1} {cells : List AV} {p : D1 × AV}, p ∈ (ds.filter (·.cM)).zip (bp ds cells) → p ∈ ds.zip cells ∧ p.1.cM = true
 | [], _, _, h => by simp at h
 | .own e t :: ds, [], _, h => by simp [bp] at h
 | .cel t :: ds, [], _, h => by simp [bp] at h
 | .dat t :: ds, [], p, h => by simp [bp] at h
 | .own e t :: ds, v :: cells, p, h => by
  simp only [List.filter_cons, D1.cM, if_true, bp, List.zip_cons_cons, List.mem_cons] at h
  rw [List.zip_cons_cons, List.mem_cons]
  rcases h with rfl | h
  ·exact ⟨.inl rfl, rfl⟩
  ·exact ⟨.inr (jx h).1, (jx h).2⟩
 | .cel t :: ds, v :: cells, p, h => by
  simp only [List.filter_cons, D1.cM, if_true, bp, List.zip_cons_cons, List.mem_cons] at h
  rw [List.zip_cons_cons, List.mem_cons]
  rcases h with rfl | h
  ·exact ⟨.inl rfl, rfl⟩
  ·exact ⟨.inr (jx h).1, (jx h).2⟩
 | .dat t :: ds, v :: cells, p, h => by
  rw [List.filter_cons_of_neg (by simp [D1.cM])] at h
  rw [List.zip_cons_cons, List.mem_cons]
  exact ⟨.inr (jx (ds := ds) (cells := cells) h).1, (jx (ds := ds) (cells := cells) h).2⟩
theorem gm : ∀ {ds : List D1} {cells : List AV} {b : Nat}, b ∈ cZ ds cells → ∃ v ∈ bp ds cells, avN v = some b
 | [], _, b, h => by simp [cZ] at h
 | .own e t :: ds, [], b, h => by simp [cZ] at h
 | .cel t :: ds, [], b, h => by simp [cZ] at h
 | .dat t :: ds, [], b, h => by simp [cZ] at h
 | .dat t :: ds, v :: cells, b, h => gm (ds := ds) (cells := cells) h
 | .own e t :: ds, v :: cells, b, h => by
  have h' : (∃ b', v = .own b' ∧ (b = b' ∨ b ∈ cZ ds cells)) ∨ b ∈ cZ ds cells := by
   cases v <;> first | (left; exact ⟨_, rfl, by simpa [cZ] using h⟩) | (right; exact h)
  rcases h' with ⟨b', rfl, rfl | h⟩ | h
  ·exact ⟨_, List.mem_cons_self, rfl⟩
  ·obtain ⟨u, h1, h2⟩ := gm h
   exact ⟨u, List.mem_cons_of_mem _ h1, h2⟩
  ·obtain ⟨u, h1, h2⟩ := gm h
   exact ⟨u, List.mem_cons_of_mem _ h1, h2⟩
 | .cel t :: ds, v :: cells, b, h => by
  have h' : (∃ b', v = .box b' 0 ∧ (b = b' ∨ b ∈ cZ ds cells)) ∨ b ∈ cZ ds cells := by
   rcases v with _ | _ | _ | _ | _ | _ | _ | _ | _ | ⟨_, _ | _⟩ | _ | _ | _ | _ | _ <;> first | (left; exact ⟨_, rfl, by simpa [cZ] using h⟩) | (right; exact h)
  rcases h' with ⟨b', rfl, rfl | h⟩ | h
  ·exact ⟨_, List.mem_cons_self, rfl⟩
  ·obtain ⟨u, h1, h2⟩ := gm h
   exact ⟨u, List.mem_cons_of_mem _ h1, h2⟩
  ·obtain ⟨u, h1, h2⟩ := gm h
   exact ⟨u, List.mem_cons_of_mem _ h1, h2⟩
theorem Gx {c : Cx} {v : AV} {u : Value} (h : R1 c v u) : ∀ b, avN v = some b → u = c.hd b := by
 intro b e
 cases v with
 | own b' => cases e; exact h.1
 | box b' i =>
  cases i with
  | zero =>
   cases e
   obtain ⟨_, _, _, _, _, _, h1, h2⟩ := h
   rw [h1, h2]
  | succ i => cases e
 | _ => cases e
theorem oJ {c : Cx} : ∀ {ds : List D1} {cells : List AV} {vs : List Value}, bH (R1 c) cells vs → bH (fun v u => ∀ b, avN v = some b → u = c.hd b) (bp ds cells) (dB ds vs)
 | [], _, _, _ => trivial
 | .own e t :: ds, [], [], _ => trivial
 | .cel t :: ds, [], [], _ => trivial
 | .dat t :: ds, [], [], _ => trivial
 | .own e t :: ds, v :: cells, u :: vs, h => ⟨Gx h.1, oJ h.2⟩
 | .cel t :: ds, v :: cells, u :: vs, h => ⟨Gx h.1, oJ h.2⟩
 | .dat t :: ds, v :: cells, u :: vs, h => oJ (ds := ds) h.2
 | _ :: _, [], _ :: _, h => h.elim
 | _ :: _, _ :: _, [], h => h.elim
theorem tg {N : Nat → Prop} {d : D1} {y : d.den} {blk blk0 : Blk} {c : Nat} (h : RB (st.cx X hd w) c blk0) (hk : Kind d blk0) (ho : pV d y = some blk) (hp : P1 w' N d y (hd c)) : blk.shape = blk0.shape ∧ blk.live = true ∧ blk0.live = true := by
 cases d with
 | dat t => cases ho
 | own e t =>
  cases ho
  obtain ⟨l, rfl⟩ := hk
  obtain ⟨xs, h1, _⟩ := hp
  obtain ⟨xs0, h2, _⟩ := h
  exact ⟨by simp only [Blk.shape]; rw [Hq h1 h2], rfl, rfl⟩
 | cel t =>
  cases ho
  obtain ⟨cs, rfl, hl, _⟩ := hk
  obtain ⟨r, vs, e, _, _, _, hrc⟩ := hp
  have hlen := (cU (c := ⟨w', N, hd, st.find⟩) hrc).length
  exact ⟨by simp only [Blk.shape]; rw [hlen, hrc.length, hl], rfl, rfl⟩
theorem LW {N : Nat → Prop} {d : D1} {y : d.den} {blk : Blk} {c : Nat} {c1 : Cx} (hw : c1.w = w') (hN : ∀ q, c1.N q → N q) (ho : pV d y = some blk) (hp : P1 w' N d y (c1.hd c)) : RB c1 c blk := by
 subst hw
 cases d with
 | dat t => cases ho
 | own e t =>
  cases ho
  obtain ⟨xs, h1, h2⟩ := hp
  exact ⟨xs, h1, h2.move fun _ _ q hc => ⟨fun q' => q (hN _ q'), hc⟩⟩
 | cel t =>
  cases ho
  obtain ⟨r, vs, e, h1, h2, _, hrc⟩ := hp
  exact ⟨r, vs, e, h1, h2, (cU (c := c1) (hrc.weaken hN)).mono fun _ _ => R1.of0⟩
theorem GF {nm : Nat} {f : FuncId} {S : bD} (hm : bf P f S) {cells : List AV} {vcells vargs : List Value} {dst : Option Tmp} {x : cO (flatC S.ps)} (h : Rel w0 M X hd st a w) (hcomps : gu S.ps vargs vcells)
  (ha : bH (R1 (st.cx X hd w)) cells vcells) (hx : dM st (flatC S.ps) cells = some x) (hk : Next w0 M X k r K) (hr : kf nm S cells st dst x k = some r) :
  Calls P f vargs.toArray w fun e w' => ∃ v, e = .returned v ∧ K (a.put dst v) w' := by
 unfold kf at hr
 split at hr
 ·cases hr
 ·rename_i rch hsep
  obtain ⟨y, hy, hr⟩ := Option.bind_eq_some_iff.1 hr
  obtain ⟨s1, s2, s3, s4⟩ := Eu hsep
  -- what the callee stays away from
  obtain ⟨Xc, hXc⟩ : ∃ Xc : Nat → Prop, Xc = fun q => (X q ∨ eg st.find hd q) ∧ (∀ b ∈ rch, ∀ blk, st.find b = some blk → az (hd b) ≠ some q) ∧ q ∉ bo (flatC S.ps) vcells := ⟨_, rfl⟩
  have hown := rE h ha hx
  have hclear : Clear st X hd w (fun q => Xc q ∨ q ∈ bo (flatC S.ps) vcells) (fun b => b ∈ rch ∧ ∃ blk, st.find b = some blk) := by
   refine ⟨?_, ?_, ?_⟩
   ·rintro q (hq | hq)
    ·rw [hXc] at hq; exact hq.1
    ·obtain ⟨b, _, ⟨blk, hf, hl⟩, hb⟩ := hown q hq
     exact .inr ⟨b, _, hf, hl, hb⟩
   ·rintro b q ⟨hb, blk, hf⟩ hq (hx' | hx')
    ·rw [hXc] at hx'; exact hx'.2.1 b hb blk hf hq
    ·obtain ⟨b', hb', ⟨blk', hf', _⟩, hq'⟩ := hown q hx'
     have := h.inj b b' _ _ q hf hf' hq hq'
     subst this
     exact s4 b hb hb'
   ·rintro b cs ⟨hb, _⟩ hf c hc
    refine ⟨s2 b hb c (by rw [hf]; exact hc), ?_⟩
    obtain ⟨r', vs', e', _, _, hcs⟩ := h.blocks b _ hf
    exact rA hcs c hc
  have hpl := tX h hclear ha (fun b hb => ⟨s1 b hb, ff ha b hb⟩) hx
  refine (hm.calls w Xc vargs vcells x y hcomps ?_ hpl (tL h ha hx s3) hy).mono ?_
  ·intro q hq
   rw [hXc] at hq
   refine ⟨?_, hq.2.2⟩
   rcases hq.1 with h1 | h1
   ·exact (h.m7 q h1).1
   ·exact h.JQ h1
  ·rintro e w' ⟨v, vs, rcells, he, hg, hcv, hfr, hres, hnd, hnew⟩
   refine ⟨v, he, ?_⟩
   obtain ⟨hres, houts⟩ := PL.split hcv.length hres
   -- the state before the results: some rows frozen
   have hst1 : ∃ st1, lL ((flatC S.rs ++ outsC S.ps).all (·.apart)) st rch = some st1 ∧ Rel w0 M X hd st1 a w ∧ fb some (st.cx X hd w) (st1.cx X hd w) ∧
     (∀ b ∈ cZ (flatC S.ps) cells, st1.find b = st.find b) ∧ (∀ b blk, st1.find b = some blk → blk.live = true → st.find b = some blk) ∧ (∀ b blk, st1.find b = some blk → ∃ blk', st.find b = some blk' ∧ blk'.shape = blk.shape) ∧
     PL w' (fun q => (X q ∨ q ∈ bo (flatC S.rs) rcells) ∨ eg st1.find hd q) (flatC S.rs) (splitD (flatC S.rs) (outsC S.ps) y).1 rcells ∧
     PL w' (fun q => (X q ∨ q ∈ bo (flatC S.rs) rcells) ∨ eg st1.find hd q) (outsC S.ps) (splitD (flatC S.rs) (outsC S.ps) y).2 (dB (flatC S.ps) vcells) := by
    cases hap : (flatC S.rs ++ outsC S.ps).all (·.apart) with
    | true =>
     rw [List.all_append, Bool.and_eq_true] at hap
     exact ⟨st, rfl, h, fb.refl _, fun _ _ => rfl, fun b blk hb _ => hb, fun b blk hb => ⟨blk, hb, rfl⟩, hres.apart hap.1, houts.apart hap.2⟩
    | false =>
     rw [hap] at hr
     cases hfz : df st rch with
     | none => rw [show lL false st rch = none from hfz] at hr; cases hr
     | some st1 =>
      obtain ⟨h1, hfr1, _, _, _, h7, h8⟩ := gC h hfz
      have hsub : ∀ q, ((X q ∨ q ∈ bo (flatC S.rs) rcells) ∨ eg st1.find hd q) → (Xc q ∨ q ∈ bo (flatC S.ps) vcells ∨ q ∈ bo (flatC S.rs) rcells) := by
       rintro q ((hq | hq) | hq)
       ·left
        rw [hXc]
        refine ⟨.inl hq, fun b hb blk hf hbq => (h.m7 q hq).2 ⟨b, blk, hf, hbq⟩, fun hm' => ?_⟩
        obtain ⟨b, _, ⟨blk, hf, _⟩, hb⟩ := hown q hm'
        exact (h.m7 q hq).2 ⟨b, _, hf, hb⟩
       ·exact .inr (.inr hq)
       ·by_cases hm' : q ∈ bo (flatC S.ps) vcells
        ·exact .inr (.inl hm')
        ·left
         rw [hXc]
         obtain ⟨b, blk, hf, hl, hb⟩ := hq
         refine ⟨.inr ⟨b, blk, h8 b blk hf hl, hl, hb⟩, fun b' hb' blk' hf' hbq => ?_, hm'⟩
         have := h.inj b b' _ _ q (h8 b blk hf hl) hf' hb hbq
         subst this
         obtain ⟨blk0, hfz', hnl, _⟩ := (hfr1 b hb').find
         rw [hf] at hfz'
         cases hfz'
         rw [hnl] at hl
         cases hl
      refine ⟨st1, hfz, h1, vI h hfz, fun b hb => gX hfz b (fun hb' => s4 b hb' hb), h8, ?_, hres.weaken hsub, houts.weaken hsub⟩
      intro b blk hb
      by_cases hbr : b ∈ rch
      ·cases hfb : st.find b with
       | none =>
        exfalso
        have := frzN_none hfz b hfb
        rw [this] at hb; cases hb
       | some blk' =>
        obtain ⟨blk2, q1, q2⟩ := h7 b blk' hfb
        rw [hb] at q1
        cases q1
        exact ⟨blk', rfl, q2.symm⟩
      ·exact ⟨blk, by rw [← gX hfz b hbr]; exact hb, rfl⟩
   obtain ⟨st1, e1, h1, g1, hsame, hlive, hshape, hres, houts⟩ := hst1
   rw [e1] at hr
   simp only at hr
   split at hr
   ·cases hr
   ·rename_i st2 hso
    obtain ⟨o1, o2, o3⟩ := ui (oJ (ds := flatC S.ps) (ha.mono fun _ _ => R1.go g1)) houts hso
    have hflat : ∀ {d : D1} {v : AV} {c : Nat}, (d, v) ∈ (outsC S.ps).zip (bp (flatC S.ps) cells) → avN v = some c → c ∈ cZ (flatC S.ps) cells ∧ ∃ blk, st.find c = some blk ∧ st1.find c = some blk ∧ Kind d blk := by
     intro d v c hz hv
     obtain ⟨z1, z2⟩ := jx hz
     obtain ⟨hi, blk, hl, hk'⟩ := Hm hx z1 z2 hv
     exact ⟨hi, blk, hl, (hsame c hi).trans hl, hk'⟩
    have hfind2 : ∀ c blk, st2.find c = some blk → ∃ blk1, st1.find c = some blk1 ∧ blk.shape = blk1.shape ∧ blk.live = blk1.live := by
     intro c blk hc
     rcases o3 c with ⟨p1, _⟩ | ⟨d, y, v, blk', p1, pv, p2, p3, p4⟩
     ·exact ⟨blk, by rw [← p1]; exact hc, rfl, rfl⟩
     ·obtain ⟨_, blk0, hl0, hl1, hkd⟩ := hflat p1 pv
      rw [p3] at hc
      cases hc
      obtain ⟨k1, k2, k3⟩ := tg (h.blocks c _ hl0) hkd p2 p4
      exact ⟨_, hl1, k1, k2.trans k3.symm⟩
    have hmine2 : ∀ q, eg st2.find hd q → eg st1.find hd q := by
     rintro q ⟨c, blk, hf, hl, hb⟩
     obtain ⟨blk1, q1, _, q3⟩ := hfind2 c blk hf
     exact ⟨c, blk1, q1, q3 ▸ hl, hb⟩
    have hheld2 : ∀ q, je st2.find hd q → je st1.find hd q := by
     rintro q ⟨c, blk, hf, hb⟩
     obtain ⟨blk1, q1, _, _⟩ := hfind2 c blk hf
     exact ⟨c, blk1, q1, hb⟩
    have hinM : ∀ q, q ∈ bo (flatC S.ps) vcells → eg st1.find hd q := by
     intro q hq
     obtain ⟨b, hb, ⟨blk, hf, hl⟩, hbq⟩ := hown q hq
     exact ⟨b, _, (hsame b hb).trans hf, hl, hbq⟩
    have iL := hfr.size
    have g2 : fb some (st1.cx X hd w) (st2.cx (fun q => X q ∨ q ∈ bo (flatC S.rs) rcells) hd w') := by
     refine ⟨?_, ?_⟩
     ·intro ad u hn hc
      have hlt : ad < w.heap.size := (Array.getElem?_eq_some_iff.1 hc).1
      refine ⟨?_, ?_⟩
      ·rintro ((hq | hq) | hq)
       ·exact hn (.inl hq)
       ·have := hnew _ hq; omega
       ·exact hn (.inr (hmine2 _ hq))
      ·exact (hfr.block _ hlt fun hq => hn (.inr (hinM _ hq))).trans hc
     ·intro c c' blk hc hf
      cases hc
      have hf : st1.find c = some blk := hf
      rcases o3 c with ⟨p1, _⟩ | ⟨d, y, v, blk', p1, pv, p2, p3, p4⟩
      ·exact ⟨blk, p1.trans hf, rfl, rfl⟩
      ·obtain ⟨_, blk0, hl0, hl1, hkd⟩ := hflat p1 pv
       rw [hl1] at hf
       cases hf
       exact ⟨_, p3, (tg (h.blocks c _ hl0) hkd p2 p4).1, rfl⟩
    have h2 : Rel w0 M (fun q => X q ∨ q ∈ bo (flatC S.rs) rcells) hd st2 a w' := by
     refine h1.K0 some o1 (fun t => .inl (by rw [AV.du]; exact St.s6 o2 t)) g2 ⟨hfr.os, hfr.tape, hfr.output, hfr.size, fun q hq hn => hfr.block q hq fun hm' => hn (hinM q hm')⟩ ?_ ?_ (fun q hq => .inl (hheld2 q hq)) ?_ ?_
     ·intro c blk hc
      rcases o3 c with ⟨p1, p2⟩ | ⟨d, y, v, blk', p1, pv, p2, p3, p4⟩
      ·refine .inl ⟨c, blk, by rw [← p1]; exact hc, (Blk.du _).symm, rfl, fun q hq => ?_⟩
       have hf1 : st1.find c = some blk := by rw [← p1]; exact hc
       refine hfr.block q (h1.lt hf1 hq) fun hm' => ?_
       obtain ⟨b, hb, ⟨blk', hf, _⟩, hbq⟩ := hown q hm'
       have := h1.inj c b _ _ q hf1 ((hsame b hb).trans hf) hq hbq
       subst this
       obtain ⟨v, hv1, hv2⟩ := gm hb
       exact p2 v hv1 hv2
      ·rw [p3] at hc
       cases hc
       exact .inr (LW rfl (fun q hq => hq.imp id (hmine2 q)) p2 p4)
     ·intro c c' blk1 blk2 q q1 q2 q3 q4
      obtain ⟨b1, p1, _⟩ := hfind2 c blk1 q1
      obtain ⟨b2, p2, _⟩ := hfind2 c' blk2 q2
      exact h1.inj c c' b1 b2 q p1 p2 q3 q4
     ·intro i hi
      refine ⟨rfl, ?_⟩
      obtain ⟨_, blk, hi'⟩ := h1.pins i hi
      rcases o3 i with ⟨p1, _⟩ | ⟨d, y, v, blk', _, _, _, p3, _⟩
      ·exact ⟨blk, p1.trans hi'⟩
      ·exact ⟨_, p3⟩
     ·rintro q (hq | hq)
      ·refine ⟨Nat.lt_of_lt_of_le (h1.m7 q hq).1 iL, fun hh => (h1.m7 q hq).2 (hheld2 q hh)⟩
      ·refine ⟨ownB_lt hres q hq, fun hh => ?_⟩
       obtain ⟨b, blk, hf, hb⟩ := hheld2 q hh
       have := h1.lt hf hb
       have := hnew q hq
       omega
    split at hr
    ·cases hr
    ·rename_i cs st3 hpl3
     obtain ⟨hd3, h3, ha3, _⟩ := vY h2 (hres.weaken fun q hq => hq.imp id (hmine2 q)) hnd (fun q hq => ⟨Nat.le_trans h.frame.size (hnew q hq), fun hxq => by have := (h.m7 q hxq).1; have := hnew q hq; omega⟩) hpl3
     split at hr
     ·rename_i v1 hcomp
      have hv := iZ ha3 hcv hcomp
      obtain ⟨u, rfl, hu⟩ := hv.one
      have hg : v = u := hg
      rw [hg]
      exact ct h3 (Rt.ofa hu) hk hr
     ·rename_i vs1 hne hcomp
      have hv := iZ ha3 hcv hcomp
      have hg' : v = .tuple vs.toArray := by
       have hlen := hv.length
       match vs, hg with
       | [], hg => exact hg
       | [u], hg =>
        match vs1, hlen with
        | [v1], _ => exact absurd rfl (hne v1)
       | _ :: _ :: _, hg => exact hg
      rw [hg']
      exact ct h3 (v := .tup vs1) ⟨vs, rfl, hv⟩ hk hr
     ·cases hr
where
 frzN_none : ∀ {ns : List Nat} {st st' : St}, df st ns = some st' → ∀ b, st.find b = none → st'.find b = none := by
  intro ns
  induction ns with
  | nil => intro st st' e b hb; cases e; exact hb
  | cons c ns ih =>
   intro st st' e b hb
   unfold df at e
   split at e
   ·rename_i e' t l hf
    refine ih e b ?_
    rw [St.aW]
    split
    ·rename_i e2; subst e2; rw [hb] at hf; cases hf
    ·exact hb
   ·exact ih e b hb
   ·rename_i kt vt m hf
    refine ih e b ?_
    rw [St.aW]
    split
    ·rename_i e2; subst e2; rw [hb] at hf; cases hf
    ·exact hb
   ·exact ih e b hb
   ·cases e
 ownB_lt : ∀ {N : Nat → Prop} {ds : List D1} {x : cO ds} {vs : List Value} {w : World}, PL w N ds x vs → ∀ q ∈ bo ds vs, q < w.heap.size := by
  intro N ds
  induction ds with
  | nil => intro x vs w _ q hq; cases vs <;> simp [bo] at hq
  | cons d ds ih =>
   intro x vs w hp q hq
   have one : ∀ {y : d.den} {v : Value}, P1 w N d y v → q ∈ bo [d] [v] → q < w.heap.size := by
    intro y v hp hq
    cases d with
    | dat t => simp [bo] at hq
    | own e t =>
     obtain ⟨xs, ho, _⟩ := hp
     rcases ho.2 with ⟨rfl, _⟩ | ⟨g, cap, cur, rfl, _, hg, _⟩
     ·simp [bo, az] at hq
     ·simp [bo, az] at hq
      subst hq
      exact (Array.getElem?_eq_some_iff.1 hg).1
    | cel t =>
     obtain ⟨r, vs, e, rfl, hg, _⟩ := hp
     simp [bo, az] at hq
     subst hq
     exact (Array.getElem?_eq_some_iff.1 hg).1
   cases ds with
   | nil =>
    obtain ⟨v, rfl, hp⟩ := hp
    exact one hp hq
   | cons d' ds =>
    obtain ⟨v, us, rfl, hp1, hp2⟩ := hp
    rw [gh] at hq
    rcases List.mem_append.1 hq with hq | hq
    ·exact one hp1 hq
    ·exact ih hp2 q hq
end
end Go.V
end
section
namespace Go.V
open Go Go.RowKit
set_option linter.unusedVariables false
set_option linter.unusedSimpArgs false
section
variable {P : Program} {E : En} {R : Type} {w0 : World} {M : Mo} {X : Nat → Prop} {hd : Nat → Value} {st : St} {a : Act} {w w' : World}
variable {k : St → Option R} {r : R} {K : Act → World → Prop} {Q : Exit → Act → World → Prop} {o : Oper}
theorem nE {nm : Nat} {f : FuncId} {dst : Option Tmp} {args : List AV} {vargs : List Value} (h : Rel w0 M X hd st a w) (ha : bH (Rt (st.cx X hd w)) args vargs) (hk : Next w0 M X k r K) :
  ∀ {l : List bD}, (∀ S ∈ l, bf P f S) → bS nm st dst args k l = some r → Calls P f vargs.toArray w fun e w' => ∃ v, e = .returned v ∧ K (a.put dst v) w'
 | [], _, hr => by cases hr
 | S :: l, hm, hr => by
  unfold bS at hr
  split at hr
  ·rename_i cells hfl
   obtain ⟨vcells, hcv, hac⟩ := sZ ha hfl
   split at hr
   ·rename_i x hx
    exact GF (hm S (by simp)) h hcv hac hx hk hr
   ·exact nE h ha hk (fun S hS => hm S (by simp [hS])) hr
  ·exact nE h ha hk (fun S hS => hm S (by simp [hS])) hr
theorem Io {f : FuncId} {args : Array Value} (h : (execOp a.eval o).run P w = .ok (.enter f args) w) (hc : Calls P f args w fun e w' => ∃ v, e = .returned v ∧ K (a.put o.dst v) w') : o.wp P a w K Q := by
 unfold Oper.wp
 rw [h]
 refine hc.mono ?_
 rintro e w' ⟨v, rfl, hv⟩
 exact hv
def fX (P : Program) (orc : FuncId → List bD) : Prop := ∀ f, ∀ S ∈ orc f, bf P f S
theorem uv {cx : Cx} : ∀ {l : List AV} {vs : List Value} {k : List AV → Option R} {r : R}, bH (Rt cx) l vs → kx l k = some r → ∃ l', bH (Rt cx) l' vs ∧ k l' = some r
 | [], [], k, r, _, hr => ⟨[], trivial, hr⟩
 | [], _ :: _, _, _, h, _ => h.elim
 | _ :: _, [], _, _, h, _ => h.elim
 | v :: l, u :: vs, k, r, h, hr => by
  unfold kx at hr
  split at hr
  ·rename_i t x
   cases x with
   | none => cases hr
   | some y =>
    have hr : (kx l fun l => k (.dp t y :: l)) = some r := hr
    obtain ⟨l', h1, h2⟩ := uv h.2 hr
    obtain ⟨ad, e, hc⟩ := (show ∃ ad, [u] = [Value.pointer (some ad)] ∧ ∃ c, c.length = t.size ∧ At cx.w cx.N ad c ∧ Rc cx.w cx.N t y c from h.1)
    exact ⟨.dp t y :: l', ⟨(show Rc cx.w cx.N (.ptr t) y [u] from ⟨ad, e, hc⟩), h1⟩, h2⟩
  ·obtain ⟨l', h1, h2⟩ := uv h.2 hr
   exact ⟨v :: l', ⟨h.1, h1⟩, h2⟩
theorem GQ {dst : Option Tmp} (hk : Next w0 M X k r K) : Next w0 M X (fzK E dst k) r K := by
 intro st hd a w h hr
 unfold fzK at hr
 split at hr
 ·exact hk _ _ _ _ h hr
 ·split at hr
  ·exact hk _ _ _ _ h hr
  ·split at hr
   ·rename_i st1 hfz
    exact hk _ _ _ _ (gC h hfz).1 hr
   ·cases hr
theorem zi {c : Call} {f : Operand} {fn : FuncId} {first caps : List Value} {avs : List AV} (hoc : fX P E.orc) (ho : o.op = .call c) (hc : c.callee = .value f) (h : Rel w0 M X hd st a w) (hk : Next w0 M X k r K)
  (hfv : a.eval f = .func (.func fn) first.toArray caps.toArray) (hall : bH (Rt (st.cx X hd w)) avs (first ++ c.args.toList.map a.eval ++ caps))
  (hr : bS (nameOf o.dst) st o.dst avs (fzK E o.dst k) (E.orc fn) = some r) : o.wp P a w K Q := by
 have hcalls := nE (P := P) (f := fn) h hall (GQ hk) (fun S hS => hoc fn S hS) hr
 cases hlist : E.orc fn with
 | nil => rw [hlist] at hr; cases hr
 | cons S l =>
  have hm : bf P fn S := hoc fn S (by rw [hlist]; simp)
  refine Io ?_ hcalls
  have hen := hm.enters (first ++ c.args.toList.map a.eval ++ caps).toArray w
  have e1 : (first.toArray ++ c.args.map a.eval : Array Value) ++ caps.toArray = (first ++ c.args.toList.map a.eval ++ caps).toArray := by
   apply Array.toList_inj.1; simp
  simp only [execOp, ho, resolve, hc, hfv, Deferred.ofValue, Sem.run_bind, Sem.run_pure, Result.andThen_ok, invoke]
  rw [e1]
  exact hen
theorem zh {c : Call} {f : Operand} {f' : FuncId} {caps : List AV} {vs : List Value} (hoc : fX P E.orc) (ho : o.op = .call c) (hc : c.callee = .value f) (h : Rel w0 M X hd st a w) (hk : Next w0 M X k r K)
  (hfv : a.eval f = wX f' vs) (hcap : bH (R0 (st.cx X hd w)) caps vs) (hr : (kx (c.args.toList.map st.ev) fun args => bS (nameOf o.dst) st o.dst (n6 f' args caps) (fzK E o.dst k) (E.orc (vb f'))) = some r) : o.wp P a w K Q := by
 have hargs : bH (Rt (st.cx X hd w)) (c.args.toList.map st.ev) (c.args.toList.map a.eval) := bH.map _ _ _ fun x _ => de h x
 obtain ⟨args, hargs, hr⟩ := uv hargs hr
 cases hb : Nat.ble gM f' with
 | false =>
  rw [pD hb, GP hb] at hr
  rw [sW hb] at hfv
  exact zi (first := []) hoc ho hc h hk hfv (by simpa using hargs.append (hcap.mono fun _ _ => Rt.of0)) hr
 | true =>
  rw [sJ hb, Fv hb] at hr
  rw [vC hb] at hfv
  exact zi (first := [.agg vs.toArray]) (caps := []) hoc ho hc h hk hfv (by simpa using (show bH (Rt (st.cx X hd w)) (.agg caps :: args) (.agg vs.toArray :: c.args.toList.map a.eval) from ⟨⟨vs, rfl, hcap.mono fun _ _ => R1.of0⟩, hargs⟩)) hr
theorem Ju {c : Call} {f : Operand} (hoc : fX P E.orc) (ho : o.op = .call c) (hc : c.callee = .value f) (h : Rel w0 M X hd st a w) (hk : Next w0 M X k r K) (hr : opK E o st k = some r) : o.wp P a w K Q := by
 have hf := de h f
 simp only [opK, ho, hc] at hr
 split at hr
 ·rename_i f' caps hv
  rw [hv] at hf
  obtain ⟨vs, hfv, hcap⟩ := hf
  exact zh hoc ho hc h hk hfv hcap hr
 ·rename_i f' c' x hv
  rw [hv] at hf
  obtain ⟨vs, e, hrc⟩ := (show Rc w (st.cx X hd w).N (.clo f' c') x [a.eval f] from hf)
  exact zh hoc ho hc h hk (by simpa using e) (cU (c := st.cx X hd w) hrc) hr
 ·cases hr
theorem KT (hnp : M.np ≤ E.pin) (ht : ek P E.tb) (hoc : fX P E.orc) (h : Rel w0 M X hd st a w) (hk : Next w0 M X k r K) (hr : opK E o st k = some r) : o.wp P a w K Q := by
 cases ho : o.op with
 | move x => exact DU (.inl ho) h hk (de h x) (by simpa only [opK, ho] using hr)
 | assign x => exact DU (.inr ho) h hk (de h x).settle (by simpa only [opK, ho] using hr)
 | pick c x y =>
  simp only [opK, ho] at hr
  obtain ⟨t, hc, hr⟩ := oq (de h c) hr
  exact fS ho h hk hc hr
 | box e x => exact Ls ho h hk hr
 | alloc e => exact Gt ht ho h hk hr
 | build t parts => exact GD ht ho h hk hr
 | buildSlice t n parts => exact uY ht ho h hk hr
 | load t p => exact JM ht ho h hk hr
 | store t p x => exact Ic ht ho h hk hr
 | nilCheck x => exact zU ho h hk hr
 | binOp op t x y u => exact Lp ht ho h hk hr
 | unOp op t x => exact Pz ho h hk hr
 | convert s d x => exact Bz ht ho h hk hr
 | makeSlice t l c => exact xr ht ho h hk hr
 | slice t x lo hi mx =>
  cases mx with
  | none => exact Ib hnp ht ho h hk hr
  | some _ => simp only [opK, ho] at hr; cases hr
 | fieldAddr t p f => exact xd ht ho h hk hr
 | field t x f => exact GN ht ho h hk hr
 | indexAddr t x ix => exact xh ht ho h hk hr
 | extract x i => exact BD ho h hk hr
 | makeMap t rv => exact absurd hr (by simp [opK, ho])
 | lookup t x ix ok => exact absurd hr (by simp [opK, ho])
 | mapUpdate t x ix y => exact absurd hr (by simp [opK, ho])
 | insert t x ix y => exact absurd hr (by simp [opK, ho])
 | makeFunc fn first captured =>
  cases fn with
  | func f => exact zN ho h hk hr
  | _ => simp only [opK, ho] at hr; cases hr
 | call c =>
  cases hc : c.callee with
  | value f => exact Ju hoc ho hc h hk hr
  | invoke _ _ => simp only [opK, ho, hc] at hr; cases hr
  | builtin b =>
   cases b with
   | len => exact LB ht ho hc h hk hr
   | max => exact LF ho hc h hk hr
   | min => exact LH ho hc h hk hr
   | append =>
    simp only [opK, ho, hc] at hr
    split at hr
    ·rename_i s x t t' hargs hts
     split at hr
     ·rename_i he
      have he := Nat.eq_of_beq_eq_true he
      subst he
      exact Ff (e' := 0) hnp ht ho hc hargs hts h hk hr
     ·cases hr
    ·cases hr
   | _ => simp only [opK, ho, hc] at hr; cases hr
 | _ => simp only [opK, ho] at hr; cases hr
def gO (fs : List (Nat × Bool)) (a : Act) : Prop := ∀ d b, look fs d = some b → a.tmps.getD d undef = .bool b
theorem gO.drop {fs : List (Nat × Bool)} (h : gO fs a) (dst : Option Tmp) (v : Value) : gO (cX dst fs) (a.put dst v) := by
 cases dst with
 | none => exact h
 | some d =>
  intro d' b hb
  have key : ∀ (fs : List (Nat × Bool)) (b : Bool), look (fs.filter fun p => !Nat.beq p.1 d) d' = some b → d' ≠ d ∧ look fs d' = some b := by
   intro fs
   induction fs with
   | nil => intro b h; cases h
   | cons p fs ih =>
    intro b h
    obtain ⟨q, c⟩ := p
    rw [List.filter_cons] at h
    by_cases e : q = d
    ·subst e
     simp only [Nat.beq_refl, Bool.not_true, Bool.false_eq_true, if_false] at h
     obtain ⟨h1, h2⟩ := ih b h
     exact ⟨h1, by rw [bg, if_neg h1]; exact h2⟩
    ·have : Nat.beq q d = false := by rw [Bool.eq_false_iff]; intro hh; exact e (Nat.eq_of_beq_eq_true hh)
     rw [this] at h
     simp only [Bool.not_false, if_true] at h
     rw [bg] at h ⊢
     split at h
     ·rename_i e'
      cases h
      exact ⟨fun e2 => e (e'.symm.trans e2), by rw [if_pos e']⟩
     ·rename_i e'
      obtain ⟨h1, h2⟩ := ih b h
      exact ⟨h1, by rw [if_neg e']; exact h2⟩
  obtain ⟨h1, h2⟩ := key fs b hb
  have := h d' b h2
  rw [← this]
  simp only [Act.put, Array.getD_eq_getD_getElem?, Array.getElem?_setIfInBounds]
  rw [if_neg (fun h => h1 h.symm)]
theorem Jq {fs : List (Nat × Bool)} {d : Nat} {k : Bool → List (Nat × Bool) → Option R} (h : Rel w0 M X hd st a w) (hf : gO fs a) (hr : uU fs st d k = some r) :
  ∃ b fs', a.tmps.getD d undef = .bool b ∧ gO fs' a ∧ k b fs' = some r := by
 unfold uU at hr
 split at hr
 ·rename_i b hb
  exact ⟨b, fs, hf d b hb, hf, hr⟩
 ·obtain ⟨b, hb, hr⟩ := oq (h.tmps d) hr
  refine ⟨b, _, hb, ?_, hr⟩
  intro d' b' hl
  rw [bg] at hl
  split at hl
  ·rename_i e; cases hl; rw [e]; exact hb
  ·exact hf d' b' hl
theorem uD {ops : Array Oper} {j d : Nat} {b : Bool} (hd : lG ops.toList j = some d) (hb : a.tmps.getD d undef = .bool b) : yielded ops a.tmps j = some b := by
 unfold lG at hd
 split at hd
 ·rename_i o ho
  have ho : ops[j]? = some o := by simpa using ho
  unfold yielded
  rw [ho]
  simp only [Option.bind_some, hd]
  rw [Array.getD_eq_getD_getElem?] at hb
  cases ht : a.tmps[d]? with
  | none => rw [ht] at hb; cases hb
  | some v => rw [ht] at hb; simp at hb; rw [hb]
 ·cases hd
theorem pa {ops : Array Oper} {j d : Nat} (hd : lG ops.toList j = some d) (hb : a.tmps.getD d undef = undef) : yielded ops a.tmps j = none := by
 unfold lG at hd
 split at hd
 ·rename_i o ho
  have ho : ops[j]? = some o := by simpa using ho
  unfold yielded
  rw [ho]
  simp only [Option.bind_some, hd]
  rw [Array.getD_eq_getD_getElem?] at hb
  cases ht : a.tmps[d]? with
  | none => rfl
  | some v =>
   rw [ht] at hb
   simp at hb
   rw [hb]
   rfl
 ·cases hd
theorem zC {v : AV} {x : Value} {c : Cx} (h : Rt c v x) (hg : DM v = true) : x = undef := by
 cases v <;> first | exact h | cases hg
theorem Jp {ops : Array Oper} {j : Nat} {fs : List (Nat × Bool)} {d : Nat} {want : Bool} {k : Bool → List (Nat × Bool) → Option R} (hd' : lG ops.toList j = some d) (h : Rel w0 M X hd st a w) (hf : gO fs a) (hr : Fj fs st d want k = some r) :
  ∃ x fs', (yielded ops a.tmps j == some want) = !x ∧ gO fs' a ∧ k x fs' = some r := by
 have hb' : ∀ b, a.tmps.getD d undef = .bool b → (yielded ops a.tmps j == some want) = !(Bool.xor b want) := by
  intro b hb
  rw [uD hd' hb]
  cases b <;> cases want <;> rfl
 unfold Fj at hr
 split at hr
 ·rename_i b hb
  exact ⟨_, fs, hb' b (hf d b hb), hf, hr⟩
 ·split at hr
  ·rename_i hg
   refine ⟨true, fs, ?_, hf, hr⟩
   rw [pa hd' (zC (h.tmps d) hg)]
   rfl
  ·obtain ⟨b, hb, hr⟩ := oq (h.tmps d) hr
   refine ⟨_, _, hb' b hb, ?_, hr⟩
   intro d' b' hl
   rw [bg] at hl
   split at hl
   ·rename_i e; cases hl; rw [e]; exact hb
   ·exact hf d' b' hl
theorem ED {K K' : Act → World → Prop} (hk : ∀ a' w', (∃ v, a'.tmps = (a.put o.dst v).tmps) → K a' w' → K' a' w') (h : o.wp P a w K Q) : o.wp P a w K' Q := by
 unfold Oper.wp at *
 generalize (execOp a.eval o).run P w = r at *
 cases r with
 | ok n w' =>
  cases n <;> simp only [Oper.upon] at h ⊢ <;>
   first
    | exact hk _ _ ⟨_, rfl⟩ h
    | (refine hk _ _ ⟨undef, ?_⟩ h; cases o.dst <;> rfl)
    | exact Calls.mono h (fun e w'' he => by cases e <;> first | exact hk _ _ ⟨_, rfl⟩ he | exact he)
    | exact Rows.mono h (fun _ _ he => hk _ _ ⟨_, rfl⟩ he)
    | exact h
 | halt x w' => cases x <;> simp only [Oper.upon] at h ⊢ <;> exact h
theorem gO.Eg {fs : List (Nat × Bool)} {a a' : Act} (h : gO fs a) (e : a'.tmps = a.tmps) : gO fs a' := by
 intro d b hb; rw [e]; exact h d b hb
theorem DF (hnp : M.np ≤ E.pin) (ht : ek P E.tb) (hoc : fX P E.orc) {fs : List (Nat × Bool)} {k : List (Nat × Bool) → St → Option R} (h : Rel w0 M X hd st a w) (hf : gO fs a)
  (hk : ∀ fs st hd a w, Rel w0 M X hd st a w → gO fs a → k fs st = some r → K a w)
  (hr : (match o.op with
   | .pick (.tmp c) x y => uU fs st c fun t fs => st.put o.dst (st.ev (me t x y)) fun st => k (cX o.dst fs) st
   | _ => opK E o st fun st => k (cX o.dst fs) st) = some r) : o.wp P a w K Q := by
 have main : ∀ fs, gO fs a → opK E o st (fun st => k (cX o.dst fs) st) = some r → o.wp P a w K Q := by
  intro fs hf hr
  have h1 : o.wp P a w (fun a' w' => gO (cX o.dst fs) a' → K a' w') Q :=
   KT hnp ht hoc h (fun st hd a w hrel hkk hff => hk _ _ _ _ _ hrel hff hkk) hr
  refine ED ?_ h1
  rintro a' w' ⟨v, e⟩ hK
  exact hK ((hf.drop o.dst v).Eg e)
 split at hr
 ·rename_i c x y ho
  obtain ⟨t, fs', hc, hf', hr⟩ := Jq h hf hr
  have h1 : o.wp P a w (fun a' w' => gO (cX o.dst fs') a' → K a' w') Q :=
   fS ho h (fun st hd a w hrel hkk hff => hk _ _ _ _ _ hrel hff hkk) hc hr
  refine ED ?_ h1
  rintro a' w' ⟨v, e⟩ hK
  exact hK ((hf'.drop o.dst v).Eg e)
 ·exact main fs hf hr
theorem Ei (hnp : M.np ≤ E.pin) (ht : ek P E.tb) (hoc : fX P E.orc) {all : Array Oper} (hk : Next w0 M X k r fun a w => Q .normal a w) :
  ∀ (n i : Nat) {hd : Nat → Value} {fs : List (Nat × Bool)} {st : St} {a : Act} {w : World}, i + n = all.size → Rel w0 M X hd st a w → gO fs a → qT E all.toList (all.toList.drop i) fs st k = some r →
   wpOps P all Q (List.range' i n) a w
 | 0, i, hd, fs, st, a, w, hn, h, hf, hr => by
  have : all.toList.drop i = [] := List.drop_eq_nil_of_le (by simp; omega)
  rw [this] at hr
  exact hk _ _ _ _ h hr
 | n + 1, i, hd, fs, st, a, w, hn, h, hf, hr => by
  have hi : i < all.size := by omega
  have hdrop : all.toList.drop i = all[i] :: all.toList.drop (i + 1) := by
   rw [List.drop_eq_getElem_cons (by simpa using hi)]; simp
  rw [hdrop] at hr
  have ho : all[i]? = some all[i] := by simp [hi]
  generalize all[i] = o at hr ho
  -- the rest
  have rest : ∀ fs st hd a w, Rel w0 M X hd st a w → gO fs a → qT E all.toList (all.toList.drop (i + 1)) fs st k = some r → wpOps P all Q (List.range' (i + 1) n) a w :=
   fun fs st hd a w h hf hr => Ei hnp ht hoc hk n (i + 1) (by omega) h hf hr
  rw [List.range'_succ]
  simp only [wpOps, ho]
  unfold qT at hr
  split at hr
  ·rename_i hg
   rw [if_pos (show Region.wanted o (yielded all a.tmps) = true by unfold Region.wanted; rw [hg])]
   refine .inl (DF hnp ht hoc (k := fun fs st => qT E all.toList (all.toList.drop (i + 1)) fs st k) h hf rest ?_)
   exact hr
  ·rename_i j want hg
   split at hr
   ·cases hr
   ·rename_i d hd'
    obtain ⟨x, fs', hy, hf', hr⟩ := Jp hd' h hf hr
    have hw : Region.wanted o (yielded all a.tmps) = !x := by
     unfold Region.wanted; rw [hg]; exact hy
    rw [hw]
    cases x with
    | true =>
     rw [if_neg (by simp)]
     have hput := ct (K := fun a' w' => gO (cX o.dst fs') a' → wpOps P all Q (List.range' (i + 1) n) a' w') h (show Rt (st.cx X hd w) .gone undef from rfl) (fun st hd a w hrel hkk hff => rest _ _ _ _ _ hrel hff hkk) hr
     exact hput (hf'.drop o.dst undef)
    | false =>
     rw [if_pos (show (!false) = true from rfl)]
     refine .inl (DF hnp ht hoc (k := fun fs st => qT E all.toList (all.toList.drop (i + 1)) fs st k) h hf' rest ?_)
     exact hr
theorem FP (hnp : M.np ≤ E.pin) (ht : ek P E.tb) (hoc : fX P E.orc) {id : Nat} {ops : Array Oper} (h : Rel w0 M X hd st a w) (hk : Next w0 M X k r fun a w => Q .normal a w) (hr : qT E ops.toList ops.toList [] st k = some r) :
  (Code.region id ops false).wp P Q a w := by
 refine wp_region ?_
 rw [List.range_eq_range']
 exact Ei hnp ht hoc hk ops.size 0 (by omega) (fs := []) h (fun d b hb => by simp [look] at hb) (by simpa using hr)
end
end Go.V
end
section
namespace Go.V
open Go Go.RowKit
set_option linter.unusedVariables false
set_option linter.unusedSimpArgs false
section
variable {w0 : World} {M : Mo} {X : Nat → Prop} {hd : Nat → Value} {st st' : St} {a : Act} {w w' : World}
theorem nJ : ∀ {ns : List Nat} {i b j : Nat}, indexOf ns i b = some j → i ≤ j ∧ j < i + ns.length ∧ ns[j - i]? = some b
 | [], i, b, j, h => by cases h
 | c :: ns, i, b, j, h => by
  unfold indexOf at h
  split at h
  ·rename_i he
   have he := Nat.eq_of_beq_eq_true he
   cases h
   exact ⟨Nat.le_refl _, by simp, by simp [he]⟩
  ·obtain ⟨h1, h2, h3⟩ := nJ h
   refine ⟨by omega, by simp; omega, ?_⟩
   rw [show j - i = (j - (i + 1)) + 1 by omega, List.getElem?_cons_succ]
   exact h3
theorem tC {σ : Nat → Option Nat} : ∀ {ns : List Nat} {i : Nat} {h : List (Nat × Blk)}, vT st σ ns i = some h → ∀ j blk, look h j = some blk → i ≤ j ∧ j < i + ns.length ∧ ∃ b blk0, ns[j - i]? = some b ∧ st.find b = some blk0 ∧ blk = blk0.ren σ
 | [], i, h, e, j, blk, hl => by cases e; cases hl
 | b :: ns, i, h, e, j, blk, hl => by
  unfold vT at e
  split at e
  ·rename_i blk0 hf
   split at e
   ·rename_i h' he
    cases e
    rw [bg] at hl
    split at hl
    ·rename_i hj
     cases hl
     subst hj
     exact ⟨Nat.le_refl _, by simp, b, blk0, by simp, hf, rfl⟩
    ·rename_i hj
     obtain ⟨h1, h2, b', blk1, h3, h4, h5⟩ := tC he j blk hl
     refine ⟨by omega, by simp; omega, b', blk1, ?_, h4, h5⟩
     rw [show j - i = (j - (i + 1)) + 1 by omega, List.getElem?_cons_succ]
     exact h3
   ·cases e
  ·cases e
theorem nN {σ : Nat → Option Nat} : ∀ {ns : List Nat} {i : Nat} {h : List (Nat × Blk)}, vT st σ ns i = some h → ∀ p b, ns[p]? = some b → ∃ blk0, st.find b = some blk0 ∧ look h (i + p) = some (blk0.ren σ)
 | [], i, h, e, p, b, hp => by simp at hp
 | c :: ns, i, h, e, p, b, hp => by
  unfold vT at e
  split at e
  ·rename_i blk0 hf
   split at e
   ·rename_i h' he
    cases e
    cases p with
    | zero =>
     simp at hp
     subst hp
     exact ⟨blk0, hf, by rw [bg]; simp⟩
    | succ p =>
     obtain ⟨blk1, h1, h2⟩ := nN he p b (by simpa using hp)
     refine ⟨blk1, h1, ?_⟩
     rw [bg, if_neg (by omega), show i + (p + 1) = i + 1 + p by omega]
     exact h2
   ·cases e
  ·cases e
theorem bZ {α : Type} : ∀ (l m : List (Nat × α)) (n : Nat), look (l ++ m) n = match look l n with | some v => some v | none => look m n
 | [], m, n => rfl
 | (k, v) :: l, m, n => by
  rw [List.cons_append, bg, bg]
  split
  ·rfl
  ·exact bZ l m n
theorem tE {σ : Nat → Option Nat} : ∀ {lv : List (Nat × Option (TypeId × Ty))} {t : Nat} {v : AV}, look (tD st σ lv) t = some v → v = (st.get t).settle.ren σ
 | [], t, v, h => by cases h
 | (s, _) :: lv, t, v, h => by
  unfold tD at h
  rw [bg] at h
  split at h
  ·rename_i e; cases h; rw [e]
  ·exact tE h
theorem rB : ∀ {lv : List (Nat × Option (TypeId × Ty))} {i : Nat} {ts : List (Nat × AV)} {bs : List (Nat × Blk)}, yk st lv i = (ts, bs) →
  (∀ t v, look ts t = some v → st.get t = .nil ∧ ∃ j e ty, v = .own j ∧ i ≤ j ∧ look bs j = some (.flat e ty [])) ∧ ∀ j blk, look bs j = some blk → i ≤ j ∧ ∃ e ty, blk = .flat e ty []
 | [], i, ts, bs, h => by
  cases h
  exact ⟨(fun t v hl => by cases hl), (fun j blk hl => by cases hl)⟩
 | (s, some (e, ty)) :: lv, i, ts, bs, h => by
  unfold yk at h
  split at h
  ·rename_i hn
   split at h
   rename_i ts' bs' he
   cases h
   obtain ⟨h1, h2⟩ := rB he
   refine ⟨?_, ?_⟩
   ·intro t v hl
    rw [bg] at hl
    split at hl
    ·rename_i e'
     cases hl
     exact ⟨by rw [e']; exact hn, i, e, ty, rfl, Nat.le_refl _, by rw [bg, if_pos rfl]⟩
    ·obtain ⟨h3, j, e2, ty2, h4, h5, h6⟩ := h1 t v hl
     exact ⟨h3, j, e2, ty2, h4, by omega, by rw [bg, if_neg (by omega)]; exact h6⟩
   ·intro j blk hl
    rw [bg] at hl
    split at hl
    ·rename_i e'
     cases hl
     exact ⟨by omega, e, ty, rfl⟩
    ·obtain ⟨h3, h4⟩ := h2 j blk hl
     exact ⟨by omega, h4⟩
  ·exact rB h
 | (s, none) :: lv, i, ts, bs, h => by
  unfold yk at h
  exact rB h
theorem vS : ∀ {l : List Nat}, l.Nodup → ∀ {i j : Nat} (hi : i < l.length) (hj : j < l.length), l[i] = l[j] → i = j
 | [], _, i, _, hi, _, _ => absurd hi (Nat.not_lt_zero _)
 | x :: l, h, 0, 0, _, _, _ => rfl
 | x :: l, h, 0, j + 1, _, hj, e => by
  simp only [List.getElem_cons_zero, List.getElem_cons_succ] at e
  exact absurd (e ▸ List.getElem_mem _) (List.nodup_cons.1 h).1
 | x :: l, h, i + 1, 0, hi, _, e => by
  simp only [List.getElem_cons_zero, List.getElem_cons_succ] at e
  exact absurd (e ▸ List.getElem_mem _) (List.nodup_cons.1 h).1
 | x :: l, h, i + 1, j + 1, hi, hj, e => by
  simp only [List.getElem_cons_succ] at e
  rw [vS (List.nodup_cons.1 h).2 (by simpa using hi) (by simpa using hj) e]
theorem He {pin : Nat} {lv : List (Nat × Option (TypeId × Ty))} (hnp : M.np ≤ pin) (h : Rel w0 M X hd st a w) (hn : Hd pin lv st = some st') : ∃ hd', Rel w0 M X hd' st' a w := by
 unfold Hd at hn
 simp only at hn
 generalize dm st 3 (n5 (List.range pin) (lv.flatMap fun p => ah (st.get p.1))) = ns at hn
 split at hn
 ·rename_i hp hnd hH
  obtain ⟨ts, bs, hnil⟩ : ∃ ts bs, yk st lv ns.length = (ts, bs) := ⟨_, _, rfl⟩
  rw [hnil] at hn
  cases hn
  rw [Bool.and_eq_true] at hnd
  have hfirst := hnd.2
  have hnd := pU hnd.1
  obtain ⟨n1, n2⟩ := rB hnil
  have hσ : ∀ b j, indexOf ns 0 b = some j → ∃ blk0, st.find b = some blk0 ∧ look hp j = some (blk0.ren (indexOf ns 0)) := by
   intro b j hj
   obtain ⟨_, _, h3⟩ := nJ hj
   obtain ⟨blk0, h4, h5⟩ := nN hH (j - 0) b h3
   exact ⟨blk0, h4, by simpa using h5⟩
  -- the headers
  refine ⟨fun j => match ns[j]? with | some b => hd b | none => .slice none 0 0, ?_⟩
  have hhd : ∀ (j b : Nat), ns[j]? = some b → (match ns[j]? with | some b => hd b | none => Value.slice none 0 0) = hd b := fun j b e => by rw [e]
  have hfind : ∀ j blk, look (hp ++ bs) j = some blk → (∃ b blk0, ns[j]? = some b ∧ st.find b = some blk0 ∧ blk = blk0.ren (indexOf ns 0) ∧ look hp j = some blk) ∨ (ns[j]? = none ∧ ∃ e ty, blk = .flat e ty []) := by
   intro j blk hl
   rw [bZ] at hl
   split at hl
   ·rename_i v hv
    cases hl
    obtain ⟨_, h2, b, blk0, h3, h4, h5⟩ := tC hH j _ hv
    exact .inl ⟨b, blk0, by simpa using h3, h4, h5, hv⟩
   ·obtain ⟨h1, h2⟩ := n2 j blk hl
    exact .inr ⟨List.getElem?_eq_none (by omega), h2⟩
  have hblock : ∀ j blk r, look (hp ++ bs) j = some blk → az (match ns[j]? with | some b => hd b | none => Value.slice none 0 0) = some r → ∃ b blk0, ns[j]? = some b ∧ st.find b = some blk0 ∧ blk = blk0.ren (indexOf ns 0) ∧ az (hd b) = some r := by
   intro j blk r hl hr
   rcases hfind j blk hl with ⟨b, blk0, h1, h2, h3, _⟩ | ⟨h1, _⟩
   ·rw [hhd j b h1] at hr
    exact ⟨b, blk0, h1, h2, h3, hr⟩
   ·simp [h1, az] at hr
  have hlive : ∀ j blk, look (hp ++ bs) j = some blk → ∀ b blk0, ns[j]? = some b → st.find b = some blk0 → blk = blk0.ren (indexOf ns 0) → blk.live = blk0.live := by
   intro j blk _ b blk0 _ _ e
   rw [e, Blk.ub]
  have hmine : ∀ r, eg (fun j => look (hp ++ bs) j) (fun j => match ns[j]? with | some b => hd b | none => Value.slice none 0 0) r → eg st.find hd r := by
   rintro r ⟨j, blk, hf, hl, hr⟩
   obtain ⟨b, blk0, h1, h2, h3, h4⟩ := hblock j blk r hf hr
   exact ⟨b, blk0, h2, by rw [h3, Blk.ub] at hl; exact hl, h4⟩
  have hheld : ∀ r, je (fun j => look (hp ++ bs) j) (fun j => match ns[j]? with | some b => hd b | none => Value.slice none 0 0) r → je st.find hd r := by
   rintro r ⟨j, blk, hf, hr⟩
   obtain ⟨b, blk0, h1, h2, h3, h4⟩ := hblock j blk r hf hr
   exact ⟨b, blk0, h2, h4⟩
  have g : fb (indexOf ns 0) (st.cx X hd w) (St.cx ⟨st.n, bX (ts ++ tD st (indexOf ns 0) lv), look (hp ++ bs)⟩ X (fun j => match ns[j]? with | some b => hd b | none => Value.slice none 0 0) w) := by
   refine ⟨fun ad u hn hc => ⟨fun hq => hn (hq.imp id (hmine _)), hc⟩, ?_⟩
   intro b j blk hj hf
   obtain ⟨_, _, h3⟩ := nJ hj
   have h3 : ns[j]? = some b := by simpa using h3
   obtain ⟨blk0, h4, h5⟩ := hσ b j hj
   rw [show st.find b = some blk from hf] at h4
   cases h4
   refine ⟨blk.ren (indexOf ns 0), ?_, Blk.wj _ _, hhd j b h3⟩
   show look (hp ++ bs) j = _
   rw [bZ, h5]
  refine ⟨h.size, h.defers, ?_, ?_, ?_, h.frame, fun r hr => h.BR r (hheld r hr), ?_, fun r hr => ⟨(h.m7 r hr).1, fun hh => (h.m7 r hr).2 (hheld r hh)⟩⟩
  ·intro t
   show Rt (St.cx ⟨st.n, bX (ts ++ tD st (indexOf ns 0) lv), look (hp ++ bs)⟩ X _ w) (bX (ts ++ tD st (indexOf ns 0) lv) t) _
   have ht := h.tmps t
   unfold bX
   simp only [bZ]
   split
   ·rename_i v hv
    split at hv
    ·rename_i u hu
     cases hv
     obtain ⟨h1, j, e, ty, rfl, h3, h4⟩ := n1 t _ hu
     rw [h1] at ht
     have hval : a.tmps.getD t undef = .slice none 0 0 := ht
     have hns : ns[j]? = none := List.getElem?_eq_none (by omega)
     refine ⟨?_, by rw [hval]; rfl, .flat e ty [], e, ty, 0, ?_, rfl⟩
     ·rw [hval]; show _ = (match ns[j]? with | some b => hd b | none => Value.slice none 0 0); rw [hns]
     ·show look (hp ++ bs) j = _
      rw [bZ]
      split
      ·rename_i v hv
       obtain ⟨_, h6, _⟩ := tC hH j _ hv
       omega
      ·exact h4
    ·rw [tE hv]
     exact Rt.ren g ht.settle
   ·exact True.intro
  ·intro j blk hl
   rcases hfind j blk hl with ⟨b, blk0, h1, h2, rfl, _⟩ | ⟨h1, e, ty, rfl⟩
   ·exact RB.ren g (c := st.cx X hd w) (hhd j b h1) (fun _ _ => rfl) (h.blocks b blk0 h2)
   ·refine ⟨[], ?_, rfl⟩
    show w.ownsRow 0 e ty.size (match ns[j]? with | some b => hd b | none => Value.slice none 0 0) _ _
    rw [h1]
    exact World.ownsRow_nil w 0 e ty.size
  ·intro j j' blk blk' r h1 h2 h3 h4
   obtain ⟨b, b0, p1, p2, _, p4⟩ := hblock j blk r h1 h3
   obtain ⟨b', b0', q1, q2, _, q4⟩ := hblock j' blk' r h2 h4
   have := h.inj b b' _ _ r p2 q2 p4 q4
   subst this
   obtain ⟨hj, e1⟩ := List.getElem?_eq_some_iff.1 p1
   obtain ⟨hj', e2⟩ := List.getElem?_eq_some_iff.1 q1
   exact vS hnd hj hj' (e1.trans e2.symm)
  ·intro i hi
   have h1 := List.all_eq_true.1 hfirst i (by simp; omega)
   split at h1
   ·rename_i b hb
    have h1 := Nat.eq_of_beq_eq_true h1
    subst h1
    refine ⟨?_, ?_⟩
    ·show (match ns[b]? with | some b => hd b | none => Value.slice none 0 0) = _
     rw [hb]; exact (h.pins b hi).1
    ·obtain ⟨blk0, h2, h3⟩ := nN hH b b hb
     refine ⟨blk0.ren (indexOf ns 0), ?_⟩
     show look (hp ++ bs) b = _
     rw [bZ, show look hp b = _ from by simpa using h3]
   ·cases h1
 ·cases hn
theorem Rel.HS (h : Rel w0 M X hd st a w) {t : Nat} {v : AV} (hv : Rt (st.cx X hd w) v (a.tmps.getD t undef)) : Rel w0 M X hd (st.set t v) a w := by
 refine ⟨h.size, h.defers, ?_, h.blocks, h.inj, h.frame, h.BR, h.pins, h.m7⟩
 intro t'
 rw [St.cH]
 show Rt (st.cx X hd w) _ _
 by_cases e : t' = t
 ·subst e; rw [if_pos rfl]; exact hv
 ·rw [if_neg e]; exact h.tmps t'
theorem HP {s : Nat} {x : LvK} (h : Rel w0 M X hd st a w) (he : wa s st x = some st') : ∃ hd', Rel w0 M X hd' st' a w := by
 have zc : ∀ {b : Nat} {e : TypeId} {t : Ty}, st.find b = none → ∃ hd', Rel w0 M X hd' (st.lay b (.flat e t [])) a w ∧ hd' b = .slice none 0 0 ∧ (∀ c, c ≠ b → hd' c = hd c) := by
  intro b e t hfind
  have e0 : (fun q => X q ∨ q ∈ (none : Option Nat).toList ++ []) = X := by funext q; simp
  have h0 : Rel w0 M (fun q => X q ∨ q ∈ (none : Option Nat).toList ++ []) hd st a w := by rw [e0]; exact h
  obtain ⟨h1, _, _⟩ := h0.zc (b := b) (e := e) (t := t) (l := []) (v := .slice none 0 0) hfind rfl (fun q hq => by cases hq) ⟨[], World.ownsRow_nil w 0 e t.size, rfl⟩
  have e1 : (fun q => X q ∨ q ∈ ([] : List Nat)) = X := by funext q; simp
  rw [e1] at h1
  exact ⟨_, h1, by simp, fun c hc => by simp [hc]⟩
 cases x with
 | nil e t =>
  simp only [wa] at he
  split at he
  ·rename_i hnil
   split at he
   ·rename_i st1 hal
    obtain ⟨hfind, rfl⟩ := cA hal
    cases he
    obtain ⟨hd', h1, h2, _⟩ := zc (e := e) (t := t) hfind
    have hval : a.tmps.getD s undef = .slice none 0 0 := by
     have := h.tmps s
     rw [hnil] at this
     exact this
    refine ⟨hd', h1.HS (t := s) (v := .own (s * 64 + 32)) ?_⟩
    rw [hval]
    exact ⟨h2.symm, rfl, .flat e t [], e, t, 0, by show St.find (St.lay _ _ _) _ = _; rw [St.aW, if_pos rfl], rfl⟩
   ·cases he
  ·cases he; exact ⟨hd, h⟩
 | data t =>
  simp only [wa] at he
  split at he
  ·rename_i b hb
   split at he
   ·rename_i st1 hfz
    obtain ⟨h1, hfr, _, _, htm, _, _⟩ := gC h hfz
    split at he
    ·rename_i l hl
     cases he
     have hx := h1.tmps s
     rw [St.s6 htm, hb] at hx
     have hRc := pQ h1.blocks h1.clear (a := .own b) hx (fun c hc => hfr c (by simpa [ah] using hc)) hl
     exact ⟨hd, h1.HS (t := s) (v := .dat (.list t) l) hRc⟩
    ·cases he
   ·cases he
  ·rename_i hnil
   cases he
   have hx := h.tmps s
   rw [hnil] at hx
   have hval : a.tmps.getD s undef = .slice none 0 0 := hx
   refine ⟨hd, h.HS (t := s) (v := .dat (.list t) []) ?_⟩
   rw [hval]
   exact (show Rc w (st.cx X hd w).N (.list t) [] [Value.slice none 0 0] from ⟨none, 0, rfl, Nat.le_refl _, fun _ => rfl, fun i hi => absurd hi (Nat.not_lt_zero _)⟩)
  ·cases he; exact ⟨hd, h⟩
 | cell j e t =>
  simp only [wa] at he
  split at he
  ·rename_i b i hb
   split at he
   ·rename_i cs hf
    split at he
    ·rename_i hj
     split at he
     ·rename_i st1 hal
      obtain ⟨hfind, rfl⟩ := cA hal
      cases he
      obtain ⟨hd', h1, h2, h3⟩ := zc (e := e) (t := t) hfind
      have hne : b ≠ s * 64 + 33 + j := fun e' => by rw [e', hfind] at hf; cases hf
      have hf1 : (st.lay (s * 64 + 33 + j) (.flat e t [])).find b = some (.cells cs) := by rw [St.aW, if_neg hne]; exact hf
      refine ⟨hd', h1.write (w' := w) (blk' := .cells (cs.set j (.own (s * 64 + 33 + j)))) hf1 rfl (by simp [Blk.shape]) rfl rfl rfl rfl (fun _ _ => rfl) ?_⟩
      intro g
      obtain ⟨r, vs, e', q1, q2, q3⟩ := h1.blocks b _ hf1
      refine ⟨r, vs, e', q1, q2, ?_⟩
      have q4 := bH.mono (R := R1 ((st.lay (s * 64 + 33 + j) (.flat e t [])).cx X hd' w)) (fun x y hxy => R1.go g hxy) q3
      obtain ⟨u, hu, hur⟩ := q3.get hj
      have hun : u = .slice none 0 0 := hur
      have hset : vs = vs.set j u := by
       apply List.ext_getElem?
       intro n
       rw [List.getElem?_set]
       split
       ·rename_i e2
        subst e2
        split
        ·rw [hu]
        ·rename_i hlt; exact List.getElem?_eq_none (by omega)
       ·rfl
      rw [hset]
      refine q4.set ?_ j
      rw [hun]
      refine ⟨h2.symm, rfl, .flat e t [], e, t, 0, ?_, rfl⟩
      show St.find (St.lay (St.lay _ _ _) _ _) _ = _
      rw [St.aW, if_neg (Ne.symm hne), St.aW, if_pos rfl]
     ·cases he
    ·cases he; exact ⟨hd, h⟩
   ·cases he; exact ⟨hd, h⟩
  ·cases he; exact ⟨hd, h⟩
 | que =>
  simp only [wa] at he
  split at he
  ·rename_i b hb
   split at he
   ·rename_i e t l hf
    cases he
    refine ⟨hd, h.write (w' := w) (blk' := .que e t l) hf rfl rfl rfl rfl rfl rfl (fun _ _ => rfl) ?_⟩
    intro g
    obtain ⟨xs, ho, hE⟩ := h.blocks b _ hf
    exact ⟨xs, vW ho, hE.move g.move⟩
   ·cases he; exact ⟨hd, h⟩
  ·cases he; exact ⟨hd, h⟩
theorem z8 {s : Nat} : ∀ {l : List LvK} {hd : Nat → Value} {st st' : St}, Rel w0 M X hd st a w → Eo s l st = some st' → ∃ hd', Rel w0 M X hd' st' a w
 | [], hd, st, st', h, e => by cases e; exact ⟨hd, h⟩
 | x :: l, hd, st, st', h, he => by
  unfold Eo at he
  split at he
  ·rename_i st1 h1
   obtain ⟨hd1, q⟩ := HP h h1
   exact z8 q he
  ·cases he
theorem tU : ∀ {lv : List (Nat × List LvK)} {hd : Nat → Value} {st st' : St}, Rel w0 M X hd st a w → we lv st = some st' → ∃ hd', Rel w0 M X hd' st' a w
 | [], hd, st, st', h, e => by cases e; exact ⟨hd, h⟩
 | (s, l) :: m, hd, st, st', h, he => by
  unfold we at he
  split at he
  ·rename_i st1 h1
   obtain ⟨hd1, q⟩ := z8 h h1
   exact tU q he
  ·cases he
theorem Ed {pin : Nat} {lv : List (Nat × List LvK)} (hnp : M.np ≤ pin) (h : Rel w0 M X hd st a w) (hn : norm pin lv st = some st') : ∃ hd', Rel w0 M X hd' st' a w := by
 unfold norm at hn
 split at hn
 ·rename_i st1 h1
  obtain ⟨hd1, q⟩ := tU h h1
  exact He hnp q hn
 ·cases hn
end
end Go.V
end
section
namespace Go.V
open Go Go.RowKit
set_option linter.unusedVariables false
set_option linter.unusedSimpArgs false
def St.bm (st : St) (ns : List (Nat × Blk)) : St := { st with find := fun c => match look ns c with | some b => some b | none => st.find c }
theorem St.G0 (st : St) : st.bm [] = st := rfl
theorem St.oA (st : St) (b : Nat) (blk : Blk) (ns : List (Nat × Blk)) : (st.bm ns).lay b blk = st.bm ((b, blk) :: ns) := by
 unfold St.bm St.lay
 congr 1
 funext c
 rw [jF, bg]
 split <;> rfl
theorem St.dP (st : St) (b : Nat) (blk : Blk) : st.lay b blk = st.bm [(b, blk)] := by
 have := St.oA st b blk []
 rwa [St.G0] at this
section
variable {E : En} {R R' : Type} {st s st' : St} {o : Oper}
theorem Aa (st : St) (dst : Option Tmp) (v : AV) (k : St → Option R) : st.put dst v k = (st.put dst v some).bind k := by
 unfold St.put
 cases dst with
 | none => rfl
 | some d =>
  simp only
  split <;> rfl
theorem GW {op : BinOp} {j : IntKind} {a b : Int} {k : AV → Option R} {r : R} (h : qR op j a b k = some r) : ∃ v, k v = some r ∧ ∀ {R' : Type} (k' : AV → Option R'), qR op j a b k' = k' v := by
  cases op <;> first
    | exact ⟨_, h, fun _ => rfl⟩
    | (by_cases h0 : b = 0
       · simp only [qR, if_pos h0] at h; cases h
       · simp only [qR, if_neg h0] at h; exact ⟨_, h, fun k' => by simp only [qR, if_neg h0]⟩)
    | (simp only [qR] at h; cases h)
theorem CV {op : BinOp} {j : IntKind} {a b : Int} {k : AV → Option R} {r : R} (h : jC op j a b k = some r) : ∃ v, k v = some r ∧ ∀ {R' : Type} (k' : AV → Option R'), jC op j a b k' = k' v := by
 by_cases h0 : b < 0
 ·simp only [jC, if_pos h0] at h; cases h
 ·cases op <;> simp only [jC, if_neg h0] at h <;> first
   | (cases h; done)
   | exact ⟨_, h, fun k' => by simp only [jC, if_neg h0]⟩
theorem tB {q : BT} {op : BinOp} {b : Bool} {k : AV → Option R} {r : R} (h : pS q op b k = some r) : ∃ v, k v = some r ∧ ∀ {R' : Type} (k' : AV → Option R'), pS q op b k' = k' v := by
 cases q <;> cases op <;> first
  | exact ⟨_, h, fun _ => rfl⟩
  | cases h
theorem Ie {op : BinOp} {a b : ByteArray} {k : AV → Option R} {r : R} (h : ur op a b k = some r) : ∃ v, k v = some r ∧ ∀ {R' : Type} (k' : AV → Option R'), ur op a b k' = k' v := by
  cases op <;> first
    | exact ⟨_, h, fun _ => rfl⟩
    | (by_cases h0 : a.size + b.size ≤ 9223372036854775807
       · simp only [ur, if_pos h0] at h; exact ⟨_, h, fun k' => by simp only [ur, if_pos h0]⟩
       · simp only [ur, if_neg h0] at h; cases h)
    | (simp only [ur] at h; cases h)
theorem GA {q : BT} {op : BinOp} {x y : AV} {k : AV → Option R} {r : R} (h : zf q op x y k = some r) : ∃ v, k v = some r ∧ ∀ {R' : Type} (k' : AV → Option R'), zf q op x y k' = k' v := by
 cases x with
 | dat s a =>
  cases y with
  | dat s' b =>
   cases s with
   | int j => cases s' with
    | int j' =>
     have e : ∀ {R' : Type} (k' : AV → Option R'), zf q op (.dat (.int j) a) (.dat (.int j') b) k' = (match jN op, decide (j = j') with
      | true, _ => jC op j a b k'
      | false, true => qR op j a b k'
      | false, false => none) := fun _ => rfl
     rw [e] at h
     split at h
     ·rename_i h1
      obtain ⟨v, h2, h3⟩ := CV h
      exact ⟨v, h2, fun k' => by rw [e]; simp only [h1]; exact h3 k'⟩
     ·rename_i h1 h1'
      obtain ⟨v, h2, h3⟩ := GW h
      exact ⟨v, h2, fun k' => by rw [e]; simp only [h1, h1']; exact h3 k'⟩
     ·cases h
    | _ => cases h
   | bool => cases s' with
    | bool =>
     have e : ∀ {R' : Type} (k' : AV → Option R'), zf q op (.dat .bool a) (.dat .bool b) k' = Dp q op a b k' := fun _ => rfl
     rw [e] at h
     cases q with
     | bool =>
      cases op <;> first
       | exact ⟨_, h, fun _ => rfl⟩
       | cases h
     | _ => cases h
    | _ => cases h
   | str => cases s' with
    | str =>
     have e : ∀ {R' : Type} (k' : AV → Option R'), zf q op (.dat .str a) (.dat .str b) k' = ur op a b k' := fun _ => rfl
     rw [e] at h
     obtain ⟨v, h2, h3⟩ := Ie h
     exact ⟨v, h2, fun k' => by rw [e]; exact h3 k'⟩
    | _ => cases h
   | _ => cases s' <;> cases h
  | nil =>
   cases s with
   | list s =>
    have e : ∀ {R' : Type} (k' : AV → Option R'), zf q op (.dat (.list s) a) .nil k' = vR (List.length a) (pS q op false k') := fun _ => rfl
    rw [e] at h
    unfold vR at h
    split at h
    ·cases h
    ·rename_i h0
     obtain ⟨v, h2, h3⟩ := tB h
     exact ⟨v, h2, fun k' => by rw [e]; unfold vR; rw [if_neg h0]; exact h3 k'⟩
   | _ => cases h
  | _ => cases s <;> cases h
 | nil =>
  cases y with
  | nil =>
   obtain ⟨v, h2, h3⟩ := tB (show pS q op true k = some r from h)
   exact ⟨v, h2, fun k' => h3 k'⟩
  | _ => cases h
 | dne s =>
  cases y with
  | nil =>
   obtain ⟨v, h2, h3⟩ := tB (show pS q op false k = some r from h)
   exact ⟨v, h2, fun k' => h3 k'⟩
  | _ => cases h
 | _ => cases h
theorem mJ {tb : TypeId → Option TI} {t : TypeId} {op : BinOp} {x y : AV} {k : AV → Option R} {r : R} (h : qg tb t op x y k = some r) : ∃ v, k v = some r ∧ ∀ {R' : Type} (k' : AV → Option R'), qg tb t op x y k' = k' v := by
 unfold qg at h
 split at h
 ·rename_i b hq
  unfold Lw at h
  split at h
  ·exact ⟨_, h, fun k' => by unfold qg; rw [hq]; rfl⟩
  ·exact ⟨_, h, fun k' => by unfold qg; rw [hq]; rfl⟩
  ·cases h
 ·rename_i hq
  obtain ⟨v, h1, h2⟩ := GA h
  exact ⟨v, h1, fun k' => by unfold qg; rw [hq]; exact h2 k'⟩
theorem gr : ∀ {l : List AV} {k : List AV → Option R} {r : R}, kx l k = some r → ∃ l', k l' = some r ∧ ah.namesL l' = ah.namesL l ∧ ∀ {R' : Type} (k' : List AV → Option R'), kx l k' = k' l'
 | [], k, r, h => ⟨[], h, rfl, fun _ => rfl⟩
 | v :: l, k, r, h => by
  unfold kx at h
  split at h
  ·rename_i t x
   cases x with
   | none => cases h
   | some y =>
    have h : (kx l fun l => k (.dp t y :: l)) = some r := h
    obtain ⟨l', h1, h2, h3⟩ := gr h
    exact ⟨.dp t y :: l', h1, by simp [ah.namesL, ah, h2], fun k' => h3 fun l => k' (.dp t y :: l)⟩
  ·rename_i hne
   obtain ⟨l', h1, h2, h3⟩ := gr h
   refine ⟨v :: l', h1, by simp [ah.namesL, h2], fun k' => ?_⟩
   conv => lhs; unfold kx
   split
   ·exact absurd rfl (hne _ _)
   ·exact h3 fun l => k' (v :: l)
theorem mM {v : AV} {k : Bool → Option R} {r : R} (h : lJ v k = some r) : ∃ b, k b = some r ∧ ∀ {R' : Type} (k' : Bool → Option R'), lJ v k' = k' b := by
 cases v with
 | dat t y =>
  cases t with
  | bool =>
   have e : ∀ {R' : Type} (k' : Bool → Option R'), lJ (.dat .bool y) k' = lK y k' := fun _ => rfl
   rw [e] at h
   have key : ∀ (y : Bool) {R' : Type} (k' : Bool → Option R'), lK y k' = k' y := by intro y R' k'; unfold lK; cases y <;> simp
   exact ⟨y, (key y k).symm.trans h, fun k' => (e k').trans (key y k')⟩
  | _ => cases h
 | test pos p i =>
  cases pos
  ·have e : ∀ {R' : Type} (k' : Bool → Option R'), lJ (.test false p i) k' = @ite _ p i (k' false) (k' true) := fun _ => rfl
   rw [e] at h
   split at h
   ·rename_i hp; exact ⟨false, h, fun k' => by rw [e, if_pos hp]⟩
   ·rename_i hp; exact ⟨true, h, fun k' => by rw [e, if_neg hp]⟩
  ·have e : ∀ {R' : Type} (k' : Bool → Option R'), lJ (.test true p i) k' = @ite _ p i (k' true) (k' false) := fun _ => rfl
   rw [e] at h
   split at h
   ·rename_i hp; exact ⟨true, h, fun k' => by rw [e, if_pos hp]⟩
   ·rename_i hp; exact ⟨false, h, fun k' => by rw [e, if_neg hp]⟩
 | _ => cases h
theorem gE {i : Int} {n : Nat} {x : Option R} {r : R} (h : vd i n x = some r) : x = some r ∧ ∀ {R' : Type} (y : Option R'), vd i n y = y := by
 obtain ⟨h0, _, h1, h2⟩ := ru h
 exact ⟨h2, fun y => by unfold vd; rw [if_pos h0, if_pos h1]⟩
theorem lE {i j : Int} {n : Nat} {x : Option R} {r : R} (h : BA i j n x = some r) : x = some r ∧ ∀ {R' : Type} (y : Option R'), BA i j n y = y := by
 obtain ⟨h0, h1, h2, h3⟩ := wZ h
 exact ⟨h3, fun y => by unfold BA; rw [if_pos h0, if_pos h1, if_pos h2]⟩
theorem vO {i j : Int} {x : Option R} {r : R} (h : vN i j x = some r) : x = some r ∧ ∀ {R' : Type} (y : Option R'), vN i j y = y := by
 obtain ⟨h0, h1, h2, h3⟩ := zO h
 exact ⟨h3, fun y => by unfold vN; rw [if_pos h0, if_pos h1, if_pos h2]⟩
theorem jc {n : Nat} {x : Option R} {r : R} (h : qD n x = some r) : x = some r ∧ ∀ {R' : Type} (y : Option R'), qD n y = y := by
 obtain ⟨h0, h1⟩ := oN h
 exact ⟨h1, fun y => by unfold qD; rw [if_pos h0]⟩
structure kc (E : En) (o : Oper) (st s : St) (v : AV) (ns : List (Nat × Blk)) : Prop where
 put : (st.bm ns).put o.dst v some = some s
 fresh : ∀ b blk, look ns b = some blk → st.find b = none
 mono : ∀ st' : St, st'.n = st.n → (∀ x ∈ o.op.operands, st'.ev x = st.ev x) → (∀ x ∈ o.op.operands, ∀ b ∈ ah (st.ev x), ∀ blk, st.find b = some blk → st'.find b = some blk) → (∀ b blk, look ns b = some blk → st'.find b = none) →
  opK E o st' some = (st'.bm ns).put o.dst v some
theorem kc.plain {v : AV} (hp : st.put o.dst v some = some s) (hm : ∀ st' : St, st'.n = st.n → (∀ x ∈ o.op.operands, st'.ev x = st.ev x) → (∀ x ∈ o.op.operands, ∀ b ∈ ah (st.ev x), ∀ blk, st.find b = some blk → st'.find b = some blk) → opK E o st' some = st'.put o.dst v some) : kc E o st s v [] :=
 ⟨hp, (fun b blk h => by cases h), (fun st' h0 h1 h2 _ => hm st' h0 h1 h2)⟩
theorem kc.one {v : AV} {b : Nat} {blk : Blk} (hp : (st.lay b blk).put o.dst v some = some s) (hf : st.find b = none)
  (hm : ∀ st' : St, st'.n = st.n → (∀ x ∈ o.op.operands, st'.ev x = st.ev x) → (∀ x ∈ o.op.operands, ∀ c ∈ ah (st.ev x), ∀ blk, st.find c = some blk → st'.find c = some blk) → st'.find b = none → opK E o st' some = (st'.lay b blk).put o.dst v some) :
  kc E o st s v [(b, blk)] := by
 refine ⟨by rw [← St.dP]; exact hp, ?_, ?_⟩
 ·intro c blk' h
  rw [bg] at h
  split at h
  ·rename_i e; rw [e]; exact hf
  ·cases h
 ·intro st' h0 h1 h2 h3
  rw [← St.dP]
  exact hm st' h0 h1 h2 (h3 b blk (by rw [bg, if_pos rfl]))
theorem ir {b : Nat} {blk : Blk} (h : st.find b = none) : st.alloc b blk = some (st.lay b blk) := by unfold St.alloc; rw [h]
theorem BN {n : Nat} {p : AV} {cs : List AV} (h : lR st n p = some cs) (hf : ∀ b ∈ ah p, ∀ blk, st.find b = some blk → st'.find b = some blk) : lR st' n p = some cs := by
 cases p with
 | box b i =>
  simp only [lR] at h ⊢
  cases hb : st.find b with
  | none => rw [hb] at h; cases h
  | some blk => rw [hf b (by simp [ah]) blk hb]; rw [hb] at h; exact h
 | ep b i =>
  simp only [lR] at h ⊢
  cases hb : st.find b with
  | none => rw [hb] at h; cases h
  | some blk => rw [hf b (by simp [ah]) blk hb]; rw [hb] at h; exact h
 | dp t x => exact h
 | _ => cases h
theorem jk : ∀ {t : Ty} {cs : List AV} {x : t.den}, ah.namesL cs = [] → aC st t cs = some x → aC st' t cs = some x := by
 have one : ∀ {a : AV}, ah.namesL [a] = [] → ah a = [] := fun h => by rw [cL] at h; exact h
 intro t
 induction t with
 | pair a b iha ihb =>
  intro cs x hn h
  rw [aC] at h ⊢
  have h1 : ah.namesL (cs.take a.size) = [] := List.eq_nil_iff_forall_not_mem.2 fun c hc => by
   obtain ⟨v, hv, hm⟩ := bu.1 hc
   have := bu.2 ⟨v, List.mem_of_mem_take hv, hm⟩
   rw [hn] at this; cases this
  have h2 : ah.namesL (cs.drop a.size) = [] := List.eq_nil_iff_forall_not_mem.2 fun c hc => by
   obtain ⟨v, hv, hm⟩ := bu.1 hc
   have := bu.2 ⟨v, List.mem_of_mem_drop hv, hm⟩
   rw [hn] at this; cases this
  split at h
  ·rename_i y hy
   split at h
   ·rename_i z hz
    rw [iha h1 hy, ihb h2 hz]
    exact h
   ·cases h
  ·cases h
 | struct t ih => intro cs x hn h; rw [aC] at h ⊢; exact ih hn h
 | unit => intro cs x hn h; rw [aC] at h ⊢; exact h
 | ptr t ih =>
  intro cs x hn h
  rw [aC] at h ⊢
  split at h
  ·rename_i a ha
   have hn' := one (by rw [← one?_some ha]; exact hn)
   cases a with
   | dp s y => exact h
   | box b i => simp [ah] at hn'
   | _ => cases h
  ·cases h
 | clo g c ih =>
  intro cs x hn h
  rw [aC] at h ⊢
  split at h
  ·rename_i a ha
   have hn' := one (by rw [← one?_some ha]; exact hn)
   cases a with
   | clo f caps =>
    have h : (match Nat.beq f g with | true => aC st c caps | false => none) = some x := h
    show (match Nat.beq f g with | true => aC st' c caps | false => none) = some x
    split at h
    ·rename_i e
     exact ih (by simpa [ah] using hn') h
    ·cases h
   | dat s y => exact h
   | _ => cases h
  ·cases h
 | list t ih =>
  intro cs x hn h
  rw [aC] at h ⊢
  split at h
  ·rename_i a ha
   have hn' := one (by rw [← one?_some ha]; exact hn)
   cases a with
   | dat s y => exact h
   | nil => exact h
   | dne s => exact h
   | own b => simp [ah] at hn'
   | _ => cases h
  ·cases h
 | optr t ih =>
  intro cs x hn h
  rw [aC] at h ⊢
  split at h
  ·rename_i a ha
   have hn' := one (by rw [← one?_some ha]; exact hn)
   cases a with
   | dat s y => exact h
   | pnil => exact h
   | dp s y => exact h
   | box b i => simp [ah] at hn'
   | _ => cases h
  ·cases h
 | map k v ihk ihv =>
  intro cs x hn h
  rw [aC] at h ⊢
  split at h
  ·rename_i a ha
   have hn' := one (by rw [← one?_some ha]; exact hn)
   cases a with
   | dat s y => exact h
   | om b => simp [ah] at hn'
   | _ => cases h
  ·cases h
 | int k => intro cs x hn h; rw [aC] at h ⊢; exact h
 | bool => intro cs x hn h; rw [aC] at h ⊢; exact h
 | str => intro cs x hn h; rw [aC] at h ⊢; exact h
theorem u0 {v : AV} {cs : List AV} (h : cellsOf v = some cs) (hn : ah v = []) : ah.namesL cs = [] := by
 cases v with
 | agg l => cases h; exact hn
 | tup l => cases h
 | undef => cases h
 | gone => cases h
 | _ => cases h; rw [cL]; exact hn
theorem qm {t : Ty} : ∀ {parts : List (Nat × AV)} {n : Nat} {l : List t.den}, (∀ p ∈ parts, ah p.2 = []) → gT st t n parts = some l → gT st' t n parts = some l
 | [], n, l, _, h => h
 | (j, v) :: parts, n, l, hn, h => by
  unfold gT at h ⊢
  split at h
  ·split at h
   ·rename_i cs hcs
    split at h
    ·rename_i x hx
     rw [jk (u0 hcs (hn (j, v) (by simp))) hx]
     split at h
     ·rename_i xs hxs
      rw [qm (fun p hp => hn p (by simp [hp])) hxs]
      exact h
     ·cases h
    ·cases h
   ·cases h
  ·cases h
theorem BB {α : Type} {f g : Option α} (h1 : ∀ x, f = some x → g = some x) (h2 : ∀ x, g = some x → f = some x) : g = f := by
 cases f with
 | some x => exact h1 x rfl
 | none => cases g with
  | none => rfl
  | some y => exact (h2 y rfl).symm
theorem tW {d : D1} {v : AV} (hn : ah v = []) : dt st' d v = dt st d v := by
 cases d with
 | dat t => exact BB (fun x h => jk (by rw [cL]; exact hn) h) (fun x h => jk (by rw [cL]; exact hn) h)
 | own e t => cases v with
  | own b => simp [ah] at hn
  | _ => rfl
 | cel t => rcases v with _ | _ | _ | _ | _ | _ | _ | _ | _ | ⟨b, _ | _⟩ | _ | _ | _ | _ | _ <;> first | rfl | (simp [ah] at hn; done)
theorem dn {v : AV} {l : List AV} (h : ah.namesL (v :: l) = []) : ah v = [] ∧ ah.namesL l = [] := by
 simpa [ah.namesL] using h
theorem nQ : ∀ {ds : List D1} {cells : List AV}, ah.namesL cells = [] → dM st' ds cells = dM st ds cells
 | [], cells, _ => rfl
 | [d], cells, hn => by
  show (match one? cells with | some v => dt st' d v | none => none) = (match one? cells with | some v => dt st d v | none => none)
  cases ho : one? cells with
  | none => rfl
  | some v =>
   obtain rfl := one?_some ho
   exact tW (by rw [cL] at hn; exact hn)
 | d :: d' :: ds, cells, hn => by
  cases cells with
  | nil => rfl
  | cons v cells =>
   obtain ⟨h1, h2⟩ := dn hn
   show (match dt st' d v with
     | some x => match dM st' (d' :: ds) cells with
      | some y => some (x, y)
      | none => none
     | none => none) = (match dt st d v with
     | some x => match dM st (d' :: ds) cells with
      | some y => some (x, y)
      | none => none
     | none => none)
   rw [tW (st := st) h1, nQ h2]
theorem qo : ∀ {ps : List (Bool × List D1)} {vs cells : List AV}, nk ps vs = some cells → ah.namesL vs = [] → ah.namesL cells = []
 | [], [], cells, h, _ => by cases h; rfl
 | [], _ :: _, _, h, _ => by cases h
 | _ :: _, [], _, h, _ => by cases h
 | (b, ds) :: ps, v :: vs, cells, h, hn => by
  obtain ⟨h1, h2⟩ := dn hn
  rw [nk] at h
  split at h
  ·cases h
  ·rename_i l hl
   have hl' := qo hl h2
   split at h
   ·split at h
    ·rename_i cs hcs
     split at h
     ·cases h
      have hv : v = .agg cs := by cases v <;> first | (cases hcs; rfl) | (cases hcs)
      subst hv
      refine List.eq_nil_iff_forall_not_mem.2 fun c hc => ?_
      obtain ⟨u, hu, hm⟩ := bu.1 hc
      rcases List.mem_append.1 hu with hu | hu
      ·have := bu.2 ⟨u, hu, hm⟩
       rw [show ah.namesL cs = [] from h1] at this; cases this
      ·have := bu.2 ⟨u, hu, hm⟩
       rw [hl'] at this; cases this
     ·cases h
    ·cases h
   ·split at h
    ·cases h
     simp [ah.namesL, h1, hl']
    ·cases h
theorem ig : ∀ {ds : List D1} {cells : List AV}, ah.namesL cells = [] → cn ds cells = [] ∧ cZ ds cells = []
 | [], _, _ => by simp [cn, cZ]
 | d :: ds, [], _ => by cases d <;> simp [cn, cZ]
 | .dat t :: ds, v :: cells, h => by
  obtain ⟨h1, h2⟩ := dn h
  obtain ⟨h3, h4⟩ := ig (ds := ds) h2
  exact ⟨by simp [cn, h1, h3], by cases v <;> exact h4⟩
 | .own e t :: ds, v :: cells, h => by
  obtain ⟨h1, h2⟩ := dn h
  obtain ⟨h3, h4⟩ := ig (ds := ds) h2
  refine ⟨h3, ?_⟩
  cases v with
  | own b => simp [ah] at h1
  | _ => exact h4
 | .cel t :: ds, v :: cells, h => by
  obtain ⟨h1, h2⟩ := dn h
  obtain ⟨h3, h4⟩ := ig (ds := ds) h2
  refine ⟨h3, ?_⟩
  rcases v with _ | _ | _ | _ | _ | _ | _ | _ | _ | ⟨b, _ | _⟩ | _ | _ | _ | _ | _ <;> first | exact h4 | (simp [ah] at h1; done)
theorem wv {ds : List D1} {cells : List AV} (h : ah.namesL cells = []) : nT st ds cells = some [] := by
 obtain ⟨h1, h2⟩ := ig (ds := ds) h
 unfold nT
 simp [h1, h2, n5, dm, pT]
theorem oW {d : D1} {x : d.den} {v : AV} {s : St} (hn : ah v = []) (h : dF st d x v = some s) : s = st ∧ ∀ st' : St, dF st' d x v = some st' := by
 cases d with
 | dat t => cases h
 | own e t => cases v with
  | own b => simp [ah] at hn
  | nil =>
   have h : some st = some s := h
   cases h
   exact ⟨rfl, fun _ => rfl⟩
  | _ => cases h
 | cel t => rcases v with _ | _ | _ | _ | _ | _ | _ | _ | _ | ⟨b, _ | _⟩ | _ | _ | _ | _ | _ <;> first | (cases h; done) | (simp [ah] at hn; done)
theorem oX : ∀ {ds : List D1} {x : cO ds} {cells : List AV} {st s : St}, ah.namesL cells = [] → ed st ds x cells = some s → s = st ∧ ∀ st' : St, ed st' ds x cells = some st'
 | [], x, cells, st, s, hn, h => by
  cases cells with
  | nil =>
   have h : some st = some s := h
   cases h
   exact ⟨rfl, fun _ => rfl⟩
  | cons _ _ => cases h
 | [d], x, cells, st, s, hn, h => by
  have h : (match one? cells with | some v => dF st d x v | none => none) = some s := h
  split at h
  ·rename_i v hv
   obtain rfl := one?_some hv
   exact oW (by rw [cL] at hn; exact hn) h
  ·cases h
 | d :: d' :: ds, x, cells, st, s, hn, h => by
  cases cells with
  | nil => cases h
  | cons v cells =>
   obtain ⟨h1, h2⟩ := dn hn
   have hB : (match dF st d x.1 v with | some st => ed st (d' :: ds) x.2 cells | none => none) = some s := h
   split at hB
   ·rename_i st1 hst1
    obtain ⟨e0, e1⟩ := oW h1 hst1
    subst e0
    obtain ⟨e0, e2⟩ := oX h2 hB
    subst e0
    refine ⟨rfl, fun st' => ?_⟩
    show (match dF st' d x.1 v with | some st => ed st (d' :: ds) x.2 cells | none => none) = some st'
    rw [e1 st']
    exact e2 st'
   ·cases hB
theorem eQ (st : St) (ns ms : List (Nat × Blk)) : (st.bm ns).bm ms = st.bm (ms ++ ns) := by
 unfold St.bm
 congr 1
 funext c
 simp only [bZ]
 cases look ms c <;> rfl
theorem j6 {l m : List AV} : ah.namesL (l ++ m) = ah.namesL l ++ ah.namesL m := by
 induction l with
 | nil => rfl
 | cons v l ih => simp [ah.namesL, ih]
theorem oF {f : Nat} {l caps : List AV} (h1 : ah.namesL l = []) (h2 : ah.namesL caps = []) : ah.namesL (n6 f l caps) = [] := by
 cases hb : Nat.ble gM f with
 | false => rw [pD hb, j6, h1, h2]; rfl
 | true =>
  rw [sJ hb]
  show ah (.agg caps) ++ ah.namesL l = []
  rw [h1, List.append_nil]
  simpa [ah] using h2
theorem fJ : ∀ (t : Ty) (x : t.den), ah.namesL (cj t x) = []
 | .int _, _ => rfl
 | .bool, _ => rfl
 | .str, _ => rfl
 | .unit, _ => rfl
 | .pair a b, x => by simp [cj, j6, fJ a, fJ b]
 | .struct t, x => fJ t x
 | .list _, _ => rfl
 | .ptr _, _ => rfl
 | .clo _ _, _ => rfl
 | .map _ _, _ => rfl
 | .optr _, _ => rfl
theorem jT : ∀ {ds : List D1} {x : cO ds} {nm : Nat} {st s : St} {cs : List AV}, kQ st nm ds x = some (cs, s) →
  ∃ ns, s = st.bm ns ∧ (∀ b blk, look ns b = some blk → st.find b = none) ∧ (∀ b ∈ ah.namesL cs, look ns b ≠ none) ∧ ∀ st' : St, (∀ b blk, look ns b = some blk → st'.find b = none) → kQ st' nm ds x = some (cs, st'.bm ns) := by
 have one : ∀ {d : D1} {x : d.den} {nm : Nat} {st s : St} {c : AV}, jy st nm d x = some (c, s) →
   ∃ ns, s = st.bm ns ∧ (∀ b blk, look ns b = some blk → st.find b = none) ∧ (∀ b ∈ ah c, look ns b ≠ none) ∧ ∀ st' : St, (∀ b blk, look ns b = some blk → st'.find b = none) → jy st' nm d x = some (c, st'.bm ns) := by
  intro d x nm st s c h
  cases d with
  | dat t =>
   have h : (match cj t x with | [v] => some (v, st) | _ => none) = some (c, s) := h
   split at h
   ·rename_i v hv
    cases h
    refine ⟨[], rfl, (fun b blk h => by cases h), (fun b hb => by
     have := fJ t x
     rw [hv, cL] at this
     rw [this] at hb; cases hb), fun st' _ => ?_⟩
    show (match cj t x with | [v] => some (v, st') | _ => none) = _
    rw [hv]; rfl
   ·cases h
  | own e t =>
   have h : (match st.alloc nm (.flat e t x) with | some st' => some (AV.own nm, st') | none => none) = some (c, s) := h
   split at h
   ·rename_i st1 hal
    cases h
    obtain ⟨hf, rfl⟩ := cA hal
    refine ⟨[(nm, .flat e t x)], by rw [St.dP], ?_, (fun b hb => by simp only [ah, List.mem_singleton] at hb; rw [bg, if_pos hb]; simp), fun st' hf' => ?_⟩
    ·intro b blk hb
     rw [bg] at hb
     split at hb
     ·rename_i e; rw [e]; exact hf
     ·cases hb
    ·show (match st'.alloc nm (.flat e t x) with | some st' => some (AV.own nm, st') | none => none) = _
     rw [ir (hf' nm _ (by rw [bg, if_pos rfl])), St.dP]
   ·cases h
  | cel t =>
   have h : (match st.alloc nm (.cells (cj t x)) with | some st' => some (AV.box nm 0, st') | none => none) = some (c, s) := h
   split at h
   ·rename_i st1 hal
    cases h
    obtain ⟨hf, rfl⟩ := cA hal
    refine ⟨[(nm, .cells (cj t x))], by rw [St.dP], ?_, (fun b hb => by simp only [ah, List.mem_singleton] at hb; rw [bg, if_pos hb]; simp), fun st' hf' => ?_⟩
    ·intro b blk hb
     rw [bg] at hb
     split at hb
     ·rename_i e; rw [e]; exact hf
     ·cases hb
    ·show (match st'.alloc nm (.cells (cj t x)) with | some st' => some (AV.box nm 0, st') | none => none) = _
     rw [ir (hf' nm _ (by rw [bg, if_pos rfl])), St.dP]
   ·cases h
 intro ds
 induction ds with
 | nil =>
  intro x nm st s cs h
  cases h
  exact ⟨[], rfl, (fun b blk h => by cases h), (fun b hb => by simp [ah.namesL] at hb), fun st' _ => rfl⟩
 | cons d ds ih =>
  intro x nm st s cs h
  cases ds with
  | nil =>
   have h : (match jy st nm d x with | some (v, st) => some ([v], st) | none => none) = some (cs, s) := h
   split at h
   ·rename_i c st1 h1
    cases h
    obtain ⟨ns, q1, q2, q4, q3⟩ := one h1
    refine ⟨ns, q1, q2, (by rw [cL]; exact q4), fun st' hf => ?_⟩
    show (match jy st' nm d x with | some (v, st) => some ([v], st) | none => none) = _
    rw [q3 st' hf]
   ·cases h
  | cons d' ds =>
   have h : (match jy st nm d x.1 with
    | some (v, st) => match kQ st (nm + 1) (d' :: ds) x.2 with
     | some (vs, st) => some (v :: vs, st)
     | none => none
    | none => none) = some (cs, s) := h
   split at h
   ·rename_i c st1 h1
    split at h
    ·rename_i cs' st2 h2
     cases h
     obtain ⟨ns, rfl, q2, q4, q3⟩ := one h1
     obtain ⟨ms, rfl, p2, p4, p3⟩ := ih h2
     have hdis : ∀ b blk, look ms b = some blk → look ns b = none ∧ st.find b = none := by
      intro b blk hb
      have := p2 b blk hb
      cases hn : look ns b with
      | none => exact ⟨rfl, by simpa [St.bm, hn] using this⟩
      | some b' => simp [St.bm, hn] at this
     refine ⟨ms ++ ns, eQ _ _ _, ?_, (fun b hb => by
      simp only [ah.namesL, List.mem_append] at hb
      rw [bZ]
      rcases hb with hb | hb
      ·cases hm : look ms b with
       | some _ => simp
       | none => exact q4 b hb
      ·cases hm : look ms b with
       | some _ => simp
       | none => exact absurd hm (p4 b hb)), ?_⟩
     ·intro b blk hb
      rw [bZ] at hb
      split at hb
      ·rename_i v hv; exact (hdis b v hv).2
      ·exact q2 b blk hb
     ·intro st' hf
      have h1' := q3 st' (fun b blk hb => by
       cases hm : look ms b with
       | none => exact hf b blk (by rw [bZ, hm]; exact hb)
       | some b' => exact hf b b' (by rw [bZ, hm]))
      have h2' := p3 (st'.bm ns) (fun b blk hb => by
       obtain ⟨e1, _⟩ := hdis b blk hb
       simp only [St.bm, e1]
       exact hf b blk (by rw [bZ, hb]))
      show (match jy st' nm d x.1 with
       | some (v, st) => match kQ st (nm + 1) (d' :: ds) x.2 with
        | some (vs, st) => some (v :: vs, st)
        | none => none
       | none => none) = _
      rw [h1']
      simp only [h2', eQ]
    ·cases h
   ·cases h
theorem ik : ∀ {ds : List D1} {cells : List AV}, ah.namesL cells = [] → ah.namesL (bp ds cells) = []
 | [], _, _ => by simp [bp, ah.namesL]
 | .own e t :: ds, [], _ => by simp [bp, ah.namesL]
 | .dat t :: ds, [], _ => by simp [bp, ah.namesL]
 | .cel t :: ds, [], _ => by simp [bp, ah.namesL]
 | .cel t :: ds, v :: cells, h => by
  simp [bp, ah.namesL, (dn h).1, ik (ds := ds) (dn h).2]
 | .dat t :: ds, v :: cells, h => ik (ds := ds) (dn h).2
 | .own e t :: ds, v :: cells, h => by
  simp [bp, ah.namesL, (dn h).1, ik (ds := ds) (dn h).2]
theorem dS : ∀ {rs : List (Bool × List D1)} {cs vs : List AV}, dK rs cs = some vs → ∀ b ∈ ah.namesL vs, b ∈ ah.namesL cs
 | [], [], vs, h, b, hb => by cases h; exact hb
 | [], _ :: _, vs, h, b, hb => by simp [dK] at h
 | (true, ds) :: rs, cs, vs, h, b, hb => by
  simp only [dK] at h
  split at h
  ·rename_i l hl
   cases h
   simp only [ah.namesL, ah, List.mem_append] at hb
   rcases hb with hb | hb
   ·obtain ⟨v, hv, hm⟩ := bu.1 hb
    exact bu.2 ⟨v, List.mem_of_mem_take hv, hm⟩
   ·obtain ⟨v, hv, hm⟩ := bu.1 (dS hl b hb)
    exact bu.2 ⟨v, List.mem_of_mem_drop hv, hm⟩
  ·cases h
 | (false, ds) :: rs, cs, vs, h, b, hb => by
  match ds, cs, h with
  | [_], c :: cs, h =>
   simp only [dK] at h
   split at h
   ·rename_i l hl
    cases h
    simp only [ah.namesL, List.mem_append] at hb ⊢
    rcases hb with hb | hb
    ·exact .inl hb
    ·exact .inr (dS hl b hb)
   ·cases h
  | [], _, h => simp [dK] at h
  | _ :: _ :: _, _, h => simp [dK] at h
  | [_], [], h => simp [dK] at h
theorem HQ {k : St → Option R} {dst : Option Tmp} {v : AV} {r : R} (h : st.put dst v k = some r) : ∃ s, st.put dst v some = some s ∧ k s = some r := by
 rw [Aa] at h
 exact Option.bind_eq_some_iff.1 h
theorem Er {dst : Option Tmp} {v : AV} (h : st.put dst v some = some s) (k : St → Option R) : st.put dst v k = k s := by
 rw [Aa, h]; rfl
theorem gS {nm : Nat} {dst : Option Tmp} {args : List AV} {k : St → Option R} {r : R} : ∀ {l : List bD}, bS nm st dst args k l = some r → ∃ s, bS nm st dst args some l = some s ∧ k s = some r
 | [], h => by cases h
 | S :: l, h => by
  unfold bS at h ⊢
  split at h
  ·split at h
   ·rename_i x hx
    unfold kf at h ⊢
    split at h
    ·cases h
    ·rename_i rch hsep
     obtain ⟨y, hy, hB⟩ := Option.bind_eq_some_iff.1 h
     simp only [hy, Option.bind_some]
     clear h
     split at hB
     ·cases hB
     ·split at hB
      ·cases hB
      ·split at hB
       ·cases hB
       ·split at hB
        ·exact HQ hB
        ·exact HQ hB
        ·cases hB
   ·exact gS h
  ·exact gS h
theorem ew {nm : Nat} {dst : Option Tmp} {args : List AV} (k : St → Option R) : ∀ {l : List bD}, bS nm st dst args some l = some s → bS nm st dst args k l = k s
 | [], h => by cases h
 | S :: l, h => by
  unfold bS at h ⊢
  split at h
  ·split at h
   ·rename_i x hx
    unfold kf at h ⊢
    split at h
    ·cases h
    ·rename_i rch hsep
     obtain ⟨y, hy, hB⟩ := Option.bind_eq_some_iff.1 h
     simp only [hy, Option.bind_some]
     clear h
     split at hB
     ·cases hB
     ·split at hB
      ·cases hB
      ·split at hB
       ·cases hB
       ·split at hB
        ·exact Er hB k
        ·exact Er hB k
        ·cases hB
   ·exact ew k h
  ·exact ew k h
theorem mO : ∀ {l : List Nat} {ns : List (Nat × Blk)} {st s : St} {d : Tmp} {v : AV}, (∀ b ∈ l, look ns b ≠ none) → df ((st.bm ns).set d v) l = some s →
  ∃ ns', s = (st.bm ns').set d v ∧ (∀ b, (look ns' b = none ↔ look ns b = none)) ∧ ∀ st' : St, df ((st'.bm ns).set d v) l = some ((st'.bm ns').set d v)
 | [], ns, st, s, d, v, _, h => by
  cases h
  exact ⟨ns, rfl, fun b => Iff.rfl, fun st' => rfl⟩
 | b :: l, ns, st, s, d, v, hl, h => by
  have find : ∀ st : St, ((st.bm ns).set d v).find b = match look ns b with | some c => some c | none => st.find b := fun st => rfl
  have hlay : ∀ (st : St) (blk : Blk), ((st.bm ns).set d v).lay b blk = (st.bm ((b, blk) :: ns)).set d v := by
   intro st blk
   rw [← St.oA]
   rfl
  have step : ∀ blk : Blk, look ns b = some blk → ∀ blk' : Blk, df ((st.bm ((b, blk') :: ns)).set d v) l = some s → (∀ st' : St, df ((st'.bm ns).set d v) (b :: l) = df ((st'.bm ((b, blk') :: ns)).set d v) l) →
    ∃ ns', s = (st.bm ns').set d v ∧ (∀ b, (look ns' b = none ↔ look ns b = none)) ∧ ∀ st' : St, df ((st'.bm ns).set d v) (b :: l) = some ((st'.bm ns').set d v) := by
   intro blk hb blk' h1 h2
   obtain ⟨ns', q1, q2, q3⟩ := mO (fun c hc => by
    rw [bg]
    split
    ·exact fun e => by cases e
    ·exact hl c (List.mem_cons_of_mem _ hc)) h1
   refine ⟨ns', q1, fun c => ?_, fun st' => (h2 st').trans (q3 st')⟩
   rw [q2 c, bg]
   split
   ·rename_i e
    rw [e, hb]
    exact ⟨fun e => (by cases e), fun e => (by cases e)⟩
   ·exact Iff.rfl
  cases hb : look ns b with
  | none => exact absurd hb (hl b (by simp))
  | some blk =>
   have hf : ∀ st : St, ((st.bm ns).set d v).find b = some blk := fun st => by rw [find, hb]
   cases blk with
   | flat e t x =>
    refine step _ hb (.frz e t x) ?_ ?_
    ·unfold df at h; rw [hf] at h; simp only [hlay] at h; exact h
    ·intro st'; conv => lhs; unfold df
     rw [hf]; simp only [hlay]
   | frz e t x =>
    have h' : df ((st.bm ns).set d v) l = some s := by unfold df at h; rw [hf] at h; exact h
    obtain ⟨ns', q1, q2, q3⟩ := mO (fun c hc => hl c (List.mem_cons_of_mem _ hc)) h'
    refine ⟨ns', q1, q2, fun st' => ?_⟩
    conv => lhs; unfold df
    rw [hf]; exact q3 st'
   | mp kt vt x =>
    refine step _ hb (.fmp kt vt x) ?_ ?_
    ·unfold df at h; rw [hf] at h; simp only [hlay] at h; exact h
    ·intro st'; conv => lhs; unfold df
     rw [hf]; simp only [hlay]
   | fmp kt vt x =>
    have h' : df ((st.bm ns).set d v) l = some s := by unfold df at h; rw [hf] at h; exact h
    obtain ⟨ns', q1, q2, q3⟩ := mO (fun c hc => hl c (List.mem_cons_of_mem _ hc)) h'
    refine ⟨ns', q1, q2, fun st' => ?_⟩
    conv => lhs; unfold df
    rw [hf]; exact q3 st'
   | cells cs => unfold df at h; rw [hf] at h; cases h
   | que e t x => unfold df at h; rw [hf] at h; cases h
theorem Jz {ns ns' : List (Nat × Blk)} (h : ∀ b, (look ns' b = none ↔ look ns b = none)) (hf : ∀ b blk, look ns b = some blk → st.find b = none) : ∀ b blk, look ns' b = some blk → st.find b = none := by
 intro b blk hb
 cases hn : look ns b with
 | none => rw [(h b).2 hn] at hb; cases hb
 | some blk0 => exact hf b blk0 hn
theorem OM {ns ns' : List (Nat × Blk)} (h : ∀ b, (look ns' b = none ↔ look ns b = none)) (hf : ∀ b blk, look ns' b = some blk → st.find b = none) : ∀ b blk, look ns b = some blk → st.find b = none :=
 Jz (fun b => (h b).symm) hf
theorem rr {dst : Option Tmp} {v : AV} {ns : List (Nat × Blk)} {s0 : St} (h0 : (st.bm ns).put dst v some = some s0) (hn : ∀ b ∈ ah v, look ns b ≠ none) (h : fzK E dst some s0 = some s) :
  ∃ ns', (st.bm ns').put dst v some = some s ∧ (∀ b, (look ns' b = none ↔ look ns b = none)) ∧
   ∀ st' : St, st'.n = st.n → ∃ s1, (st'.bm ns).put dst v some = some s1 ∧ fzK E dst some s1 = (st'.bm ns').put dst v some := by
 cases dst with
 | none =>
  have h : some s0 = some s := h
  cases h
  exact ⟨ns, h0, fun b => Iff.rfl, fun st' _ => ⟨_, rfl, rfl⟩⟩
 | some d =>
  have hput : ∀ (st : St) (ns : List (Nat × Blk)), (st.bm ns).put (some d) v some = match Nat.blt d st.n with | true => some ((st.bm ns).set d v) | false => none := fun st ns => rfl
  rw [hput] at h0
  split at h0
  ·rename_i hlt
   cases h0
   unfold fzK at h
   simp only at h
   split at h
   ·rename_i hz
    cases h
    refine ⟨ns, by rw [hput, hlt], fun b => Iff.rfl, fun st' hn' => ⟨(st'.bm ns).set d v, by rw [hput, hn', hlt], ?_⟩⟩
    unfold fzK
    simp only [hz]
    rw [hput, hn', hlt]
   ·rename_i hz
    split at h
    ·rename_i s2 hfz
     cases h
     rw [St.cH, if_pos rfl] at hfz
     obtain ⟨ns', q1, q2, q3⟩ := mO hn hfz
     refine ⟨ns', by rw [hput, hlt, q1], q2, fun st' hn' => ⟨(st'.bm ns).set d v, by rw [hput, hn', hlt], ?_⟩⟩
     unfold fzK
     simp only [hz]
     rw [St.cH, if_pos rfl, q3 st', hput, hn', hlt]
    ·cases h
  ·cases h0
theorem iP {nm : Nat} {dst : Option Tmp} {args : List AV} (hn : ah.namesL args = []) : ∀ {l : List bD}, bS nm st dst args some l = some s →
  ∃ v ns, (st.bm ns).put dst v some = some s ∧ (∀ b blk, look ns b = some blk → st.find b = none) ∧ (∀ b ∈ ah v, look ns b ≠ none) ∧ ∀ st' : St, (∀ b blk, look ns b = some blk → st'.find b = none) → bS nm st' dst args some l = (st'.bm ns).put dst v some
 | [], h => by cases h
 | S :: l, h => by
  unfold bS at h
  split at h
  ·rename_i cells hfl
   have hcn := qo hfl hn
   split at h
   ·rename_i x hx
    unfold kf at h
    rw [wv hcn] at h
    simp only at h
    obtain ⟨y, hy, hB⟩ := Option.bind_eq_some_iff.1 h
    clear h
    have hfz : ∀ st : St, lL ((flatC S.rs ++ outsC S.ps).all (·.apart)) st [] = some st := by intro st; unfold lL; split <;> rfl
    rw [hfz] at hB
    simp only at hB
    split at hB
    ·cases hB
    ·rename_i st1 hso
     obtain ⟨e0, hso'⟩ := oX (ik hcn) hso
     subst e0
     split at hB
     ·cases hB
     ·rename_i cs st2 hpl
      obtain ⟨ns, e0, q2, q4, q3⟩ := jT hpl
      subst e0
      have go : ∀ v, (∀ b ∈ ah v, b ∈ ah.namesL cs) → (match dK S.rs cs with | some [v] => (st1.bm ns).put dst v some | some vs => (st1.bm ns).put dst (.tup vs) some | none => none) = (st1.bm ns).put dst v some →
        (∀ st : St, (match dK S.rs cs with | some [v] => st.put dst v some | some vs => st.put dst (.tup vs) some | none => none) = st.put dst v some) → (st1.bm ns).put dst v some = some s →
        ∃ v ns, (st1.bm ns).put dst v some = some s ∧ (∀ b blk, look ns b = some blk → st1.find b = none) ∧ (∀ b ∈ ah v, look ns b ≠ none) ∧ ∀ st' : St, (∀ b blk, look ns b = some blk → st'.find b = none) → bS nm st' dst args some (S :: l) = (st'.bm ns).put dst v some := by
       intro v hnv _ hv hs
       refine ⟨v, ns, hs, q2, (fun b hb => q4 b (hnv b hb)), fun st' hf => ?_⟩
       unfold bS
       simp only [hfl]
       rw [nQ (st := st1) hcn, hx]
       simp only
       unfold kf
       rw [wv hcn]
       simp only [hy, Option.bind_some]
       rw [hfz]
       simp only [hso' st', q3 st' hf]
       exact hv _
      split at hB
      ·rename_i v hv
       refine go v (fun b hb => dS hv b (by rw [cL]; exact hb)) (by rw [hv]) (fun st => by rw [hv]) hB
      ·rename_i vs hne hv
       have e : ∀ st : St, (match dK S.rs cs with | some [v] => st.put dst v some | some vs => st.put dst (.tup vs) some | none => none) = st.put dst (.tup vs) some := by
        intro st
        rw [hv]
        match vs, hne with
        | [], _ => rfl
        | [v], hne => exact absurd rfl (hne v)
        | _ :: _ :: _, _ => rfl
       exact go (.tup vs) (fun b hb => dS hv b (by simpa [ah] using hb)) (e _) e hB
      ·cases hB
   ·rename_i hx
    obtain ⟨v, ns, q1, q2, q4, q3⟩ := iP hn h
    refine ⟨v, ns, q1, q2, q4, fun st' hf => ?_⟩
    rw [← q3 st' hf]
    conv => lhs; unfold bS
    simp only [hfl]
    rw [nQ (st := st) hcn, hx]
  ·rename_i hfl
   obtain ⟨v, ns, q1, q2, q4, q3⟩ := iP hn h
   refine ⟨v, ns, q1, q2, q4, fun st' hf => ?_⟩
   rw [← q3 st' hf]
   conv => lhs; unfold bS
   simp only [hfl]
theorem zK {v : AV} {n : Nat} (hn : pO st v = some n) (hf : ∀ b ∈ ah v, ∀ blk, st.find b = some blk → st'.find b = some blk) : pO st' v = some n := by
 cases v with
 | own b =>
  simp only [pO] at hn ⊢
  cases hb : st.find b with
  | none => rw [hb] at hn; cases hn
  | some blk => rw [hf b (by simp [ah]) blk hb]; rw [hb] at hn; exact hn
 | dat s y => cases s <;> exact hn
 | nil => exact hn
 | dne s => exact hn
 | _ => cases hn
theorem zL {v : AV} {n : Nat} (hn : pP st v = some n) (hf : ∀ b ∈ ah v, ∀ blk, st.find b = some blk → st'.find b = some blk) : pP st' v = some n := by
 cases v with
 | om b =>
  simp only [pP] at hn ⊢
  cases hb : st.find b with
  | none => rw [hb] at hn; cases hn
  | some blk => rw [hf b (by simp [ah]) blk hb]; rw [hb] at hn; exact hn
 | dat s y => cases s <;> exact hn
 | _ => cases hn
theorem Fo {c : Call} (h : opK E o st some = some s) (hc : calm o st = true) (ho : o.op = .call c) : ∃ v ns, kc E o st s v ns := by
 cases hcal : c.callee with
 | invoke _ _ => simp only [opK, ho, hcal] at h; cases h
 | builtin b =>
  cases b with
  | len =>
   simp only [opK, ho, hcal] at h
   split at h
   ·rename_i x t hargs hts
    have hxm : x ∈ o.op.operands := by
     simp only [ho, Op.operands, Call.operands, hcal]
     simp only [Array.empty_append]
     rw [← Array.mem_toList_iff, hargs]; simp
    split at h
    ·rename_i e _ _ _ hi
     split at h
     ·rename_i n hn
      refine ⟨_, _, .plain h fun st' _ he hf => ?_⟩
      simp only [opK, ho, hcal, hargs, hts, hi]
      rw [he x hxm, zK hn (hf x hxm)]
     ·cases h
    ·rename_i kk ee _ _ _ hi
     split at h
     ·rename_i n hn
      refine ⟨_, _, .plain h fun st' _ he hf => ?_⟩
      simp only [opK, ho, hcal, hargs, hts, hi]
      rw [he x hxm, zL hn (hf x hxm)]
     ·cases h
    ·cases h
   ·cases h
  | max =>
   simp only [opK, ho, hcal] at h
   split at h
   ·rename_i x y hargs
    have hxm : x ∈ o.op.operands := by
     simp only [ho, Op.operands, Call.operands, hcal]
     simp only [Array.empty_append]
     rw [← Array.mem_toList_iff, hargs]; simp
    have hym : y ∈ o.op.operands := by
     simp only [ho, Op.operands, Call.operands, hcal]
     simp only [Array.empty_append]
     rw [← Array.mem_toList_iff, hargs]; simp
    split at h
    ·rename_i v hv
     refine ⟨_, _, .plain h fun st' _ he hf => ?_⟩
     simp only [opK, ho, hcal, hargs]
     rw [he x hxm, he y hym, hv]
    ·cases h
   ·cases h
  | min =>
   simp only [opK, ho, hcal] at h
   split at h
   ·rename_i x y hargs
    have hxm : x ∈ o.op.operands := by
     simp only [ho, Op.operands, Call.operands, hcal]
     simp only [Array.empty_append]
     rw [← Array.mem_toList_iff, hargs]; simp
    have hym : y ∈ o.op.operands := by
     simp only [ho, Op.operands, Call.operands, hcal]
     simp only [Array.empty_append]
     rw [← Array.mem_toList_iff, hargs]; simp
    split at h
    ·rename_i v hv
     refine ⟨_, _, .plain h fun st' _ he hf => ?_⟩
     simp only [opK, ho, hcal, hargs]
     rw [he x hxm, he y hym, hv]
    ·cases h
   ·cases h
  | _ => simp [calm, ho, hcal] at hc
 | value f =>
  simp only [calm, ho, hcal, Bool.and_eq_true] at hc
  have hnf : ah (st.ev f) = [] := by simpa using hc.1.2
  have hna : ah.namesL (c.args.toList.map st.ev) = [] := by simpa using hc.2
  have hfm : f ∈ o.op.operands := by simp [ho, Op.operands, Call.operands, hcal]
  have ham : ∀ x ∈ c.args.toList, x ∈ o.op.operands := fun x hx => by
   simp only [ho, Op.operands, Call.operands, hcal, Array.mem_append]
   exact .inr (by simpa using hx)
  simp only [opK, ho, hcal] at h
  split at h
  ·rename_i f' caps hv
   obtain ⟨l', h1, h2, h3⟩ := gr h
   obtain ⟨s0, h4, h5⟩ := gS h1
   obtain ⟨v, ns, q1, q2, q4, q3⟩ := iP (oF (h2.trans hna) (by rw [hv] at hnf; simpa [ah] using hnf)) h4
   obtain ⟨ns', r1, r2, r3⟩ := rr q1 q4 h5
   refine ⟨v, ns', r1, Jz r2 q2, fun st' hn' he _ hf => ?_⟩
   have e : c.args.toList.map st'.ev = c.args.toList.map st.ev := List.map_congr_left fun x hx => he x (ham x hx)
   obtain ⟨s1, p1, p2⟩ := r3 st' hn'
   simp only [opK, ho, hcal]
   rw [he f hfm, hv]
   simp only [e]
   rw [h3, ew _ ((q3 st' (OM r2 hf)).trans p1), p2]
  ·rename_i f' c' x hv
   obtain ⟨l', h1, h2, h3⟩ := gr h
   obtain ⟨s0, h4, h5⟩ := gS h1
   obtain ⟨v, ns, q1, q2, q4, q3⟩ := iP (oF (h2.trans hna) (fJ c' x)) h4
   obtain ⟨ns', r1, r2, r3⟩ := rr q1 q4 h5
   refine ⟨v, ns', r1, Jz r2 q2, fun st' hn' he _ hf => ?_⟩
   have e : c.args.toList.map st'.ev = c.args.toList.map st.ev := List.map_congr_left fun x hx => he x (ham x hx)
   obtain ⟨s1, p1, p2⟩ := r3 st' hn'
   simp only [opK, ho, hcal]
   rw [he f hfm, hv]
   simp only [e]
   rw [h3, ew _ ((q3 st' (OM r2 hf)).trans p1), p2]
  ·cases h
theorem vz (h : opK E o st some = some s) (hc : calm o st = true) : ∃ v ns, kc E o st s v ns := by
 cases ho : o.op with
 | move x =>
  simp only [opK, ho] at h
  exact ⟨_, _, .plain h fun st' _ he _ => by simp only [opK, ho]; rw [he x (by simp [ho, Op.operands])]⟩
 | assign x =>
  simp only [opK, ho] at h
  exact ⟨_, _, .plain h fun st' _ he _ => by simp only [opK, ho]; rw [he x (by simp [ho, Op.operands])]⟩
 | pick c x y =>
  simp only [opK, ho] at h
  obtain ⟨t, h1, h2⟩ := mM h
  refine ⟨_, _, .plain h1 fun st' _ he _ => ?_⟩
  simp only [opK, ho]
  rw [he c (by simp [ho, Op.operands]), h2]
  cases t
  ·show st'.put o.dst (st'.ev y) some = st'.put o.dst (st.ev y) some
   rw [he y (by simp [ho, Op.operands])]
  ·show st'.put o.dst (st'.ev x) some = st'.put o.dst (st.ev x) some
   rw [he x (by simp [ho, Op.operands])]
 | binOp op t x y u =>
  simp only [opK, ho] at h
  obtain ⟨v, h1, h2⟩ := mJ h
  refine ⟨v, _, .plain h1 fun st' _ he _ => ?_⟩
  simp only [opK, ho]
  rw [he x (by simp [ho, Op.operands]), he y (by simp [ho, Op.operands]), h2]
 | unOp op t x =>
  simp only [opK, ho] at h
  split at h
  ·rename_i v hv
   refine ⟨v, _, .plain h fun st' _ he _ => ?_⟩
   simp only [opK, ho]
   rw [he x (by simp [ho, Op.operands]), hv]
  ·cases h
 | lookup t x ix ok => exact absurd h (by simp [opK, ho])
 | convert src dst x =>
  simp only [opK, ho] at h
  split at h
  ·rename_i j n hv
   split at h
   ·rename_i h1
    split at h
    ·rename_i h2
     refine ⟨_, _, .plain h fun st' _ he _ => ?_⟩
     simp only [opK, ho]
     rw [he x (by simp [ho, Op.operands]), hv]
     simp only [h1, h2]
    ·cases h
   ·cases h
  ·cases h
 | extract x i =>
  simp only [opK, ho] at h
  split at h
  ·rename_i vs hv
   split at h
   ·rename_i v h1
    refine ⟨v, _, .plain h fun st' _ he _ => ?_⟩
    simp only [opK, ho]
    rw [he x (by simp [ho, Op.operands]), hv]
    simp only [h1]
   ·cases h
  ·cases h
 | nilCheck x =>
  simp only [opK, ho] at h
  split at h
  ·rename_i b i hv
   exact ⟨_, _, .plain h fun st' _ he _ => by simp only [opK, ho]; rw [he x (by simp [ho, Op.operands]), hv]⟩
  ·rename_i b i hv
   exact ⟨_, _, .plain h fun st' _ he _ => by simp only [opK, ho]; rw [he x (by simp [ho, Op.operands]), hv]⟩
  ·rename_i b i hv
   exact ⟨_, _, .plain h fun st' _ he _ => by simp only [opK, ho]; rw [he x (by simp [ho, Op.operands]), hv]⟩
  ·rename_i t y hv
   cases y with
   | none => cases h
   | some y => exact ⟨_, _, .plain (v := .dp t y) h fun st' _ he _ => by simp only [opK, ho]; rw [he x (by simp [ho, Op.operands]), hv]; rfl⟩
  ·cases h
 | load t p =>
  simp only [opK, ho] at h
  split at h
  ·rename_i i hi
   split at h
   ·rename_i cs hcs
    split at h
    ·rename_i v hv
     refine ⟨v, _, .plain h fun st' _ he hf => ?_⟩
     simp only [opK, ho, hi]
     rw [he p (by simp [ho, Op.operands]), BN hcs (hf p (by simp [ho, Op.operands]))]
     simp only [hv]
    ·cases h
   ·cases h
  ·cases h
 | field t x f =>
  simp only [opK, ho] at h
  split at h
  ·rename_i fs _ _ _ hi
   split at h
   ·rename_i off ft hft
    split at h
    ·rename_i i cs hti hv
     split at h
     ·rename_i hle
      split at h
      ·rename_i v hvv
       refine ⟨v, _, .plain h fun st' _ he _ => ?_⟩
       simp only [opK, ho, hi, hft]
       rw [he x (by simp [ho, Op.operands]), hv]
       simp only [hti, hle, hvv]
      ·cases h
     ·cases h
    ·cases h
   ·cases h
  ·cases h
 | makeFunc fn first captured =>
  cases fn with
  | func f =>
   simp only [opK, ho] at h
   split at h
   ·rename_i h0
    split at h
    ·cases h
    ·rename_i hlow
     split at h
     ·rename_i h1
      refine ⟨_, _, .plain h fun st' _ he _ => ?_⟩
      have e : captured.toList.map st'.ev = captured.toList.map st.ev := List.map_congr_left fun x hx => he x (by simp [ho, Op.operands]; exact .inr (by simpa using hx))
      simp only [opK, ho, h0, e, h1, hlow]
     ·cases h
   ·rename_i h0
    split at h
    ·rename_i cs h1 h2
     split at h
     ·rename_i h3
      refine ⟨_, _, .plain h fun st' _ he _ => ?_⟩
      have e : first.toList.map st'.ev = first.toList.map st.ev := List.map_congr_left fun x hx => he x (by simp [ho, Op.operands]; exact .inl (by simpa using hx))
      cases hz : first.size with
      | zero =>
       have := congrArg List.length h1
       simp [hz] at this
      | succ n => simp only [opK, ho, hz, e, h1, h2, h3]
     ·cases h
    ·cases h
  | _ => simp only [opK, ho] at h; cases h
 | build t parts =>
  simp only [opK, ho] at h
  split at h
  ·rename_i i hi
   split at h
   ·rename_i fs hfs
    split at h
    ·rename_i hall
     split at h
     ·rename_i cs hcs
      refine ⟨_, _, .plain h fun st' _ he _ => ?_⟩
      have e : (parts.toList.map fun p => (p.1, st'.ev p.2)) = (parts.toList.map fun p => (p.1, st.ev p.2)) := List.map_congr_left fun p hp => by rw [he p.2 (by simp [ho, Op.operands]; exact ⟨p.1, by simpa using hp⟩)]
      simp only [opK, ho, hi, hfs, hall, e, hcs]
     ·cases h
    ·cases h
   ·cases h
  ·cases h
 | box e x =>
  simp only [opK, ho] at h
  split at h
  ·rename_i cs hcs
   unfold uX at h
   split at h
   ·rename_i st1 h1 h2
    obtain ⟨hf, rfl⟩ := cA h2
    refine ⟨_, _, .one h hf fun st' _ he _ hf' => ?_⟩
    simp only [opK, ho]
    rw [he x (by simp [ho, Op.operands]), hcs]
    simp only [uX, h1, ir hf']
   ·cases h
  ·cases h
 | alloc e =>
  simp only [opK, ho] at h
  split at h
  ·rename_i i hi
   unfold uX at h
   split at h
   ·rename_i st1 h1 h2
    obtain ⟨hf, rfl⟩ := cA h2
    refine ⟨_, _, .one h hf fun st' _ he _ hf' => ?_⟩
    simp only [opK, ho, hi]
    simp only [uX, h1, ir hf']
   ·cases h
  ·cases h
 | fieldAddr t p f =>
  simp only [opK, ho] at h
  split at h
  ·rename_i fs _ _ _ hi
   split at h
   ·rename_i off ft hft
    split at h
    ·cases h
    ·rename_i i hti
     split at h
     ·cases h
     ·rename_i hpos
      split at h
      ·rename_i b j hv
       split at h
       ·rename_i cs hb
        split at h
        ·rename_i hlt
         refine ⟨_, _, .plain h fun st' _ he hf => ?_⟩
         have hb' := hf p (by simp [ho, Op.operands]) b (by rw [hv]; simp [ah]) _ hb
         simp only [opK, ho, hi, hft, hti, hpos]
         rw [he p (by simp [ho, Op.operands]), hv]
         simp only [hb', hlt]
        ·cases h
       ·cases h
      ·rename_i s' x hv
       split at h
       ·rename_i want hw
        split at h
        ·rename_i y hy
         refine ⟨_, _, .plain h fun st' _ he hf => ?_⟩
         simp only [opK, ho, hi, hft, hti, hpos]
         rw [he p (by simp [ho, Op.operands]), hv]
         simp only [hw, hy]
        ·cases h
       ·cases h
      ·cases h
   ·cases h
  ·cases h
 | indexAddr t x ix =>
  simp only [opK, ho] at h
  split at h
  ·rename_i e _ _ _ hi
   split at h
   ·cases h
   ·rename_i te hte
    split at h
    ·rename_i j i hix
     split at h
     ·rename_i s' l hv
      split at h
      ·rename_i hsz
       obtain ⟨h1, h2⟩ := gE h
       refine ⟨_, _, .plain h1 fun st' _ he hf => ?_⟩
       simp only [opK, ho, hi, hte]
       rw [he ix (by simp [ho, Op.operands]), hix, he x (by simp [ho, Op.operands]), hv]
       simp only [hsz]
       rw [h2]
      ·cases h
     ·rename_i b hv
      split at h
      ·rename_i e' s' l hb
       split at h
       ·rename_i hsz
        obtain ⟨h1, h2⟩ := gE h
        refine ⟨_, _, .plain h1 fun st' _ he hf => ?_⟩
        have hb' := hf x (by simp [ho, Op.operands]) b (by rw [hv]; simp [ah]) _ hb
        simp only [opK, ho, hi, hte]
        rw [he ix (by simp [ho, Op.operands]), hix, he x (by simp [ho, Op.operands]), hv]
        simp only [hb', hsz]
        rw [h2]
       ·cases h
      ·rename_i e' s' l hb
       split at h
       ·rename_i hsz
        obtain ⟨h1, h2⟩ := gE h
        refine ⟨_, _, .plain h1 fun st' _ he hf => ?_⟩
        have hb' := hf x (by simp [ho, Op.operands]) b (by rw [hv]; simp [ah]) _ hb
        simp only [opK, ho, hi, hte]
        rw [he ix (by simp [ho, Op.operands]), hix, he x (by simp [ho, Op.operands]), hv]
        simp only [hb', hsz]
        rw [h2]
       ·cases h
      ·rename_i e' s' l hb
       split at h
       ·rename_i hsz
        obtain ⟨h1, h2⟩ := gE h
        refine ⟨_, _, .plain h1 fun st' _ he hf => ?_⟩
        have hb' := hf x (by simp [ho, Op.operands]) b (by rw [hv]; simp [ah]) _ hb
        simp only [opK, ho, hi, hte]
        rw [he ix (by simp [ho, Op.operands]), hix, he x (by simp [ho, Op.operands]), hv]
        simp only [hb', hsz]
        rw [h2]
       ·cases h
      ·cases h
     ·cases h
    ·cases h
  ·cases h
 | makeSlice t l c =>
  simp only [opK, ho] at h
  split at h
  ·rename_i e _ _ _ hi
   split at h
   ·rename_i i hie
    split at h
    ·rename_i s' hs
     split at h
     ·rename_i z hz
      split at h
      ·rename_i q1 q2 q3 q4
       split at h
       ·rename_i n m hn hm
        obtain ⟨h1, h2⟩ := vO h
        unfold mm at h1
        split at h1
        ·rename_i st1 hal
         obtain ⟨hf, rfl⟩ := cA hal
         refine ⟨_, _, .one h1 hf fun st' _ he _ hf' => ?_⟩
         simp only [opK, ho, hi, hie, hs, hz, q1, q2, q3, q4]
         rw [he l (by simp [ho, Op.operands]), he c (by simp [ho, Op.operands]), hn, hm]
         simp only
         rw [h2]
         simp only [mm, ir hf']
        ·cases h1
       ·cases h
      ·cases h
     ·cases h
    ·cases h
   ·cases h
  ·cases h
 | slice t x lo hi mx =>
  cases mx with
  | some _ => simp only [opK, ho] at h; cases h
  | none =>
   have hnm : ah (st.ev x) = [] := by simpa [calm, ho] using hc
   have hqB : ∀ st' : St, Ac st' (st.ev x) = none := by
    intro st'
    generalize st.ev x = u at hnm
    cases u <;> first | rfl | (simp [ah] at hnm; done)
   simp only [opK, ho] at h
   have hbk : ke E o (st.ev x) = true := by
    cases hb : ke E o (st.ev x) with
    | true => rfl
    | false => simp only [hb] at h; cases h
   simp only [hbk] at h
   simp only [hnm, hqB, df] at h
   split at h
   ·rename_i e _ _ _ hi'
    split at h
    ·rename_i s' hs
     split at h
     ·cases h
     ·rename_i i hie
      split at h
      ·cases h
      ·rename_i hsz
       split at h
       ·cases h
       ·rename_i l hl
        split at h
        ·cases h
        ·rename_i p hp
         split at h
         ·cases h
         ·rename_i q hq
          obtain ⟨h1, h2⟩ := lE h
          refine ⟨_, _, .plain h1 fun st' _ he hf => ?_⟩
          have hx := he x (by simp [ho, Op.operands])
          have hl' : eV st' s' (st.ev x) = some l := by
           generalize st.ev x = u at hl hnm
           cases u <;> first | exact hl | (simp [ah] at hnm; done) | cases hl
          have hb : ∀ (d : Int) (y : Option Operand), (∀ z, y = some z → z ∈ o.op.operands) → eS st' d y = eS st d y := by
           intro d y hy
           cases y with
           | none => rfl
           | some z => simp only [eS]; rw [he z (hy z rfl)]
          have hp' := (hb (0 : Int) lo (fun z hz => by subst hz; simp [ho, Op.operands])).trans hp
          have hq' := (hb ((List.length l : Nat) : Int) hi (fun z hz => by subst hz; simp [ho, Op.operands])).trans hq
          simp only [opK, ho]
          rw [hx]
          simp only [hbk, hi', hs, hie, hsz]
          rw [hnm]
          simp only [hqB, df]
          rw [hx, hl']
          simp only [hp', hq']
          rw [h2]
    ·cases h
   ·cases h
 | buildSlice t n parts =>
  have hnm : ah.namesL (parts.toList.map fun p => st.ev p.2) = [] := by
   simp only [calm, ho, Bool.and_eq_true] at hc
   simpa using hc.2
  simp only [opK, ho, hnm, df] at h
  split at h
  ·rename_i e _ _ _ hi
   split at h
   ·rename_i i hie
    split at h
    ·rename_i s' hs
     split at h
     ·rename_i q1 q2 q3 q4
      split at h
      ·rename_i l hl
       unfold mm at h
       split at h
       ·rename_i st1 hal
        obtain ⟨hf, rfl⟩ := cA hal
        refine ⟨_, _, .one h hf fun st' _ he _ hf' => ?_⟩
        have e1 : (parts.toList.map fun p => st'.ev p.2) = (parts.toList.map fun p => st.ev p.2) := List.map_congr_left fun p hp => by rw [he p.2 (by simp [ho, Op.operands]; exact ⟨p.1, by simpa using hp⟩)]
        have e2 : (parts.toList.map fun p => (p.1, st'.ev p.2)) = (parts.toList.map fun p => (p.1, st.ev p.2)) := List.map_congr_left fun p hp => by rw [he p.2 (by simp [ho, Op.operands]; exact ⟨p.1, by simpa using hp⟩)]
        have e3 : gT st' s' 0 (parts.toList.map fun p => (p.1, st.ev p.2)) = some l := qm (by
         intro p hp
         obtain ⟨q, hq, rfl⟩ := List.mem_map.1 hp
         have : ∀ b ∈ ah (st.ev q.2), b ∈ ah.namesL (parts.toList.map fun p => st.ev p.2) := fun b hb => bu.2 ⟨_, List.mem_map.2 ⟨q, hq, rfl⟩, hb⟩
         rw [hnm] at this
         exact List.eq_nil_iff_forall_not_mem.2 fun b hb => by cases this b hb) hl
        simp only [opK, ho, hi, hie, hs, q1, q2, q3, q4, e1, hnm, df, e2, e3]
        simp only [mm, ir hf']
       ·cases h
      ·cases h
     ·cases h
    ·cases h
   ·cases h
  ·cases h
 | call c => exact Fo h hc ho
 | _ => first | (simp [calm, ho] at hc; done) | (simp only [opK, ho] at h; cases h)
end
end Go.V
end
