/- Channels, plainly: the law gives true. Conditions: as each theorem states. My own. -/
import Derived.Test.YtcbhhbkghbnljaaQa
set_option linter.unusedVariables false
set_option linter.unusedSimpArgs false
namespace Go.Proofs.Ytcbhhbkghbnljaa.Vf
open Go Go.V Go.RowKit
def EvP {α : Type} (f : Nat → Option α) (P : α → Prop) : Prop := ∃ r N, P r ∧ ∀ k, N ≤ k → f k = some r
theorem EvP.step {α : Type} {f g : Nat → Option α} {P : α → Prop} (h : EvP g P) (e : ∀ k, f (k + 1) = g k) : EvP f P := by
 obtain ⟨r, N, hp, hk⟩ := h
 refine ⟨r, N + 1, hp, fun k hk' => ?_⟩
 obtain ⟨m, rfl⟩ : ∃ m, k = m + 1 := ⟨k - 1, by omega⟩
 rw [e]; exact hk m (by omega)
theorem EvP.ok {α : Type} {f : Nat → Option α} {P : α → Prop} {r : α} (hp : P r) (e : ∀ k, f (k + 1) = some r) : EvP f P := by
 refine ⟨r, 1, hp, fun k hk' => ?_⟩
 obtain ⟨m, rfl⟩ : ∃ m, k = m + 1 := ⟨k - 1, by omega⟩
 exact e m
theorem EvP.jP {α : Type} {f g : Nat → Option α} {P : α → Prop} (M : Nat) (h : EvP g P) (e : ∀ k, M ≤ k → f (k + 1) = g k) : EvP f P := by
 obtain ⟨r, N, hp, hk⟩ := h
 refine ⟨r, max N M + 1, hp, fun k hk' => ?_⟩
 obtain ⟨m, rfl⟩ : ∃ m, k = m + 1 := ⟨k - 1, by omega⟩
 rw [e m (by omega)]; exact hk m (by omega)
theorem Lz (a b : Int) : Go.bits .and .u64 a b = bE .u64 a b := by rw [iN]; rfl
theorem GX (x : Int) : IntKind.i64.wrap x = wrap64 x := by
 unfold wrap64
 simp [IntKind.wrap, IntKind.bits, IntKind.signed]
 split <;> omega
theorem KM (a b : Int) : Go.bits .and .i64 a b = bE .i64 a b := by
 rw [iN]
 exact GX _
theorem LA (a : Int) : 0 ≤ Go.bits .and .u64 a 16777215 ∧ Go.bits .and .u64 a 16777215 ≤ 16777215 := by
 rw [Lz]
 exact tu a
theorem xk {s : j3} (S : Src s) (n : Int) : Gv (K.ak.f s.1 s.2.1 s.2.2 n) fun r => Src (s.1, r.2.1, r.2.2) ∧ (n < 1 → r.1 = 0) ∧ (1 ≤ n → 0 ≤ r.1 ∧ r.1 < n) := by
 unfold K.ak.f
 by_cases c1 : n < 1
 ·exact Gv.pos c1 (Gv.ok ⟨S, fun _ => rfl, fun h => by omega⟩)
 rw [if_neg c1]
 have hm := LA ((IntKind.u64.wrap ((IntKind.u64.wrap (s.2.2 * 6364136223846793005)) + 1442695040888963407)) / 8589934592)
 generalize Go.bits .and .u64 ((IntKind.u64.wrap ((IntKind.u64.wrap (s.2.2 * 6364136223846793005)) + 1442695040888963407)) / 8589934592) 16777215 = x at hm ⊢
 rw [w64 (x := x) (by omega) (by omega)]
 have td : ∀ y : Int, 0 ≤ y → 0 ≤ Int.tmod y n ∧ Int.tmod y n < n := by
  intro y hy
  rw [Int.tmod_eq_emod_of_nonneg hy]
  exact ⟨Int.emod_nonneg _ (by omega), Int.emod_lt_of_pos _ (by omega)⟩
 have h0 := S.t0
 have hl := S.len
 by_cases c2 : s.2.1 < (s.1.length : Int)
 ·have hb := S.bytes (rd s.1 s.2.1) (by
   obtain ⟨k, hk⟩ := Int.eq_ofNat_of_zero_le h0
   rw [hk]
   exact fq (by omega))
  have hb : 0 ≤ Go.Proofs.YtcbhhbkghbnljaaW.PrintWords.rd s.1 s.2.1 ∧ Go.Proofs.YtcbhhbkghbnljaaW.PrintWords.rd s.1 s.2.1 ≤ 255 := hb
  rw [if_pos c2, if_pos h0, if_neg (by omega), w64 (x := Go.Proofs.YtcbhhbkghbnljaaW.PrintWords.rd s.1 s.2.1) (by omega) (by omega), w64 (x := x + Go.Proofs.YtcbhhbkghbnljaaW.PrintWords.rd s.1 s.2.1) (by omega) (by omega), w64 (x := s.2.1 + 1) (by omega) (by omega)]
  exact Gv.ok ⟨⟨S.bytes, S.len, by simp only; omega⟩, fun h => absurd h c1, fun _ => td _ (by omega)⟩
 ·rw [if_neg c2, if_neg (by omega)]
  exact Gv.ok ⟨⟨S.bytes, S.len, S.t0⟩, fun h => absurd h c1, fun _ => td _ (by omega)⟩
structure Rw (m n : Nat) (L : List (List Int)) : Prop where
 len : L.length = m
 row : ∀ r ∈ L, r.length = n
theorem Rw.at {m n : Nat} {L : List (List Int)} (h : Rw m n L) {c : Nat} (hc : c < m) : (L.getD c []).length = n := by
 rw [List.getD_eq_getElem?_getD, List.getElem?_eq_getElem (by rw [h.len]; exact hc), Option.getD_some]
 exact h.row _ (List.getElem_mem _)
theorem Rw.set {m n : Nat} {L : List (List Int)} (h : Rw m n L) {c : Nat} {r : List Int} (hr : r.length = n) : Rw m n (L.set c r) := by
 refine ⟨by rw [List.length_set]; exact h.len, fun x hx => ?_⟩
 rcases List.mem_or_eq_of_mem_set hx with hx | rfl
 ·exact h.row x hx
 ·exact hr
theorem Rw.app {m n : Nat} {L : List (List Int)} (h : Rw m n L) {r : List Int} (hr : r.length = n) : Rw (m + 1) n (L ++ [r]) := by
 refine ⟨by rw [List.length_append, h.len]; rfl, fun x hx => ?_⟩
 rcases List.mem_append.1 hx with hx | hx
 ·exact h.row x hx
 ·rw [List.mem_singleton.1 hx]; exact hr
theorem kp (L : List (List Int)) (c : Nat) : K.cE L (c : Int) = L.getD c [] := by unfold K.cE; rw [Int.toNat_natCast]
section
variable {m n : Nat} {s0 : List Int} {P : List (List Int) × Int × Int → Prop}
theorem OL (hn : n ≤ 1000) (hm : m ≤ 1000) {sl c : Nat} {p q : Int} (hs : sl < n) (hc : c < m) (cont : ∀ L, Rw m n L → EvP (fun k => K.ai.l3 k (n : Int) L (sl : Int) (m : Int) ((c + 1 : Nat) : Int) s0 p q) P) :
  ∀ (d b : Nat) (L : List (List Int)), b + d = c → Rw m n L → EvP (fun k => K.ai.l4 k (n : Int) L (sl : Int) (c : Int) (b : Int) (m : Int) (c : Int) s0 p q) P := by
 intro d
 induction d with
 | zero =>
  intro b L hb hL
  refine (cont L hL).step fun k => ?_
  simp only [K.ai.l4]
  rw [if_neg (by omega), cu (by omega)]
 | succ d ih =>
  intro b L hb hL
  have e1 := hL.at hc
  have e2 := hL.at (show b < m by omega)
  by_cases e : Go.Proofs.YtcbhhbkghbnljaaW.PrintWords.rd (L.getD c []) sl = Go.Proofs.YtcbhhbkghbnljaaW.PrintWords.rd (L.getD b []) sl
  ·refine (ih (b + 1) (L.set c ((L.getD c []).set sl (-1))) (by omega) (hL.set (by rw [List.length_set]; exact e1))).step fun k => ?_
   simp only [K.ai.l4]
   rw [kp, kp, hL.len, e1, e2, if_pos (by omega), if_pos (by omega), if_pos (by omega), if_pos (by omega), if_pos (by omega), if_pos (by omega), if_pos (by omega), if_pos (by omega), if_pos e, cu (by omega), Int.toNat_natCast, Int.toNat_natCast]
  ·refine (ih (b + 1) L (by omega) hL).step fun k => ?_
   simp only [K.ai.l4]
   rw [kp, kp, hL.len, e1, e2, if_pos (by omega), if_pos (by omega), if_pos (by omega), if_pos (by omega), if_pos (by omega), if_pos (by omega), if_pos (by omega), if_pos (by omega), if_neg e, cu (by omega)]
theorem OK (hn : n ≤ 1000) (hm : m ≤ 1000) {sl : Nat} {p q : Int} (hs : sl < n) (cont : ∀ L, Rw m n L → EvP (fun k => K.ai.l2 k (n : Int) L ((sl + 1 : Nat) : Int) s0 p q) P) :
  ∀ (d c : Nat) (L : List (List Int)), c + d = m → Rw m n L → EvP (fun k => K.ai.l3 k (n : Int) L (sl : Int) (m : Int) (c : Int) s0 p q) P := by
 intro d
 induction d with
 | zero =>
  intro c L hc hL
  refine (cont L hL).step fun k => ?_
  simp only [K.ai.l3]
  rw [if_neg (by omega), cu (by omega)]
 | succ d ih =>
  intro c L hc hL
  refine (OL hn hm hs (show c < m by omega) (fun L hL => ih (c + 1) L (by omega) hL) c 0 L (by omega) hL).step fun k => ?_
  simp only [K.ai.l3]
  rw [if_pos (by omega)]; rfl
theorem OJ (hn : n ≤ 1000) (hm : m ≤ 1000) {p q : Int} (fin : ∀ L, Rw m n L → P (L, p, q)) :
  ∀ (d sl : Nat) (L : List (List Int)), sl + d = n → Rw m n L → EvP (fun k => K.ai.l2 k (n : Int) L (sl : Int) s0 p q) P := by
 intro d
 induction d with
 | zero =>
  intro sl L hs hL
  refine EvP.ok (fin L hL) fun k => ?_
  simp only [K.ai.l2]
  rw [if_neg (by omega)]
 | succ d ih =>
  intro sl L hs hL
  refine (OK hn hm (show sl < n by omega) (fun L hL => ih (sl + 1) L (by omega) hL) m 0 L (by omega) hL).step fun k => ?_
  simp only [K.ai.l2]
  rw [if_pos (by omega), hL.len]; rfl
theorem OI (hn : n ≤ 1000) (hm : m ≤ 1000) {a : Int} {c : Nat} {L : List (List Int)} (hL : Rw c n L) (hc : c ≤ 1000) (cont : ∀ (L : List (List Int)) (p q : Int), Src (s0, p, q) → Rw (c + 1) n L → EvP (fun k => K.ai.l0 k a (m : Int) (n : Int) L ((c + 1 : Nat) : Int) s0 p q) P) :
  ∀ (d i : Nat) (row : List Int) (p q : Int), i + d = n → row.length = i → Src (s0, p, q) → EvP (fun k => K.ai.l1 k a (m : Int) (n : Int) L (c : Int) row (i : Int) s0 p q) P := by
 intro d
 induction d with
 | zero =>
  intro i row p q hi hr S
  refine (cont (L ++ [row]) p q S (hL.app (by omega))).step fun k => ?_
  simp only [K.ai.l1]
  rw [if_neg (by omega), hL.len, if_pos (by omega), cu (by omega)]
 | succ d ih =>
  intro i row p q hi hr S
  obtain ⟨⟨y, p', q'⟩, e, S', -⟩ := xk S (wrap64 (a + 1))
  refine (ih (i + 1) (row ++ [wrap64 (y - 1)]) p' q' (by omega) (by rw [List.length_append, hr]; rfl) S').step fun k => ?_
  simp only [K.ai.l1]
  have e : K.ak.f s0 p q (wrap64 (a + 1)) = some (y, p', q') := e
  rw [if_pos (by omega), e]
  simp only [Option.bind_some]
  rw [if_pos (by omega), cu (by omega)]
theorem OH (hn : n ≤ 1000) (hm : m ≤ 1000) {a : Int} (fin : ∀ (L : List (List Int)) (p q : Int), Rw m n L → Src (s0, p, q) → P (L, p, q)) :
  ∀ (d c : Nat) (L : List (List Int)) (p q : Int), c + d = m → Rw c n L → Src (s0, p, q) → EvP (fun k => K.ai.l0 k a (m : Int) (n : Int) L (c : Int) s0 p q) P := by
 intro d
 induction d with
 | zero =>
  intro c L p q hc hL S
  obtain rfl : c = m := by omega
  obtain ⟨⟨y, p', q'⟩, e, S', -⟩ := xk S 2
  have e : K.ak.f s0 p q 2 = some (y, p', q') := e
  by_cases hy : y = 0
  ·refine (OJ (s0 := s0) hn hm (fun L hL => fin L p' q' hL S') n 0 L (by omega) hL).step fun k => ?_
   simp only [K.ai.l0]
   rw [if_neg (by omega), e]
   simp only [Option.bind_some]
   rw [if_pos hy]; rfl
  ·refine EvP.ok (fin L p' q' hL S') fun k => ?_
   simp only [K.ai.l0]
   rw [if_neg (by omega), e]
   simp only [Option.bind_some]
   rw [if_neg hy]
 | succ d ih =>
  intro c L p q hc hL S
  refine (OI hn hm hL (by omega) (fun L p q S hL => ih (c + 1) L p q (by omega) hL S) n 0 [] p q (by omega) rfl S).step fun k => ?_
  simp only [K.ai.l0]
  rw [if_pos (by omega)]; rfl
end
theorem zq {s : j3} (S : Src s) (a : Int) : Gv (evN fun k => K.ai.f k s.1 s.2.1 s.2.2 a) fun r => Src (s.1, r.2.1, r.2.2) ∧ ∃ m n, 1 ≤ m ∧ m ≤ 3 ∧ 1 ≤ n ∧ n ≤ 8 ∧ Rw m n r.1 := by
 obtain ⟨⟨y, p, q⟩, e, S1, -, hy⟩ := xk S 3
 obtain ⟨⟨z, p', q'⟩, e', S2, -, hz⟩ := xk S1 8
 obtain ⟨y0, y1⟩ := hy (by decide)
 obtain ⟨z0, z1⟩ := hz (by decide)
 have y0 : 0 ≤ y := y0
 have y1 : y < 3 := y1
 have z0 : 0 ≤ z := z0
 have z1 : z < 8 := z1
 obtain ⟨m, rfl⟩ := Int.eq_ofNat_of_zero_le y0
 obtain ⟨n, rfl⟩ := Int.eq_ofNat_of_zero_le z0
 obtain ⟨r, N, hp, hk⟩ := OH (m := m + 1) (n := n + 1) (s0 := s.1) (P := fun r => Src (s.1, r.2.1, r.2.2) ∧ ∃ m n, 1 ≤ m ∧ m ≤ 3 ∧ 1 ≤ n ∧ n ≤ 8 ∧ Rw m n r.1) (by omega) (by omega) (a := a) (fun L p q hL S => ⟨S, m + 1, n + 1, by omega, by omega, by omega, by omega, hL⟩) (m + 1) 0 [] p' q' (by omega) ⟨rfl, fun r hr => by cases hr⟩ S2
 refine ⟨r, GM (N := N) fun k hk' => ?_, hp⟩
 unfold K.ai.f
 have e : K.ak.f s.1 s.2.1 s.2.2 3 = some ((m : Int), p, q) := e
 have e' : K.ak.f s.1 p q 8 = some ((n : Int), p', q') := e'
 rw [e]
 simp only [Option.bind_some]
 rw [e']
 simp only [Option.bind_some]
 rw [show wrap64 (1 + (m : Int)) = ((m + 1 : Nat) : Int) by rw [w64 (by omega) (by omega)]; omega, show wrap64 (1 + (n : Int)) = ((n + 1 : Nat) : Int) by rw [w64 (by omega) (by omega)]; omega]
 exact hk k hk'
theorem krd (l : List Int) (i : Int) : Go.Proofs.YtcbhhbkghbnljaaW.PrintWords.rd l i = rd l i := by have h : rd l i = rd l i := rfl; exact h
theorem QU (i : Nat) (h : i ≤ 8) : Go.Proofs.YtcbhhbkghbnljaaW.PrintWords.shl .i64 1 (i : Int) = ((2 ^ i : Nat) : Int) := by
 rw [← ks h, yG]; exact GX _
theorem QV (x i : Nat) (h : i ≤ 8) : Go.Proofs.YtcbhhbkghbnljaaW.PrintWords.shr .i64 (x : Int) (i : Int) = cp .i64 (x : Int) (i : Int) := by
 rw [kU, Int.fdiv_eq_ediv_of_nonneg _ (by exact Int.le_of_lt (Int.pow_pos (by decide)))]; rfl
theorem OS {x i : Nat} (hx : x < 256) (h : i ≤ 8) : Go.bits .and .i64 (Go.Proofs.YtcbhhbkghbnljaaW.PrintWords.shr .i64 (x : Int) (i : Int)) 1 = 0 ↔ ¬ x.testBit i = true := by
 rw [KM, QV x i h, ← n7 hx h]
 have hs : x >>> i ≤ x := by rw [Nat.shiftRight_eq_div_pow]; exact Nat.div_le_self _ _
 rw [Ao h]
 have := lC (a := x >>> i) (b := 1) (by omega) (by omega)
 rw [show ((1 : Nat) : Int) = 1 from rfl] at this
 have e : x >>> i &&& 1 = (x >>> i) % 2 := Nat.and_one_is_mod _
 rw [this, e]
 omega
theorem th : ∀ (x n : Nat) (c : Int), x < 256 → x < n → 0 ≤ c → c ≤ 1000 - x → K.aN.l0 n (x : Int) c = some (c + j7 x)
 | x, 0, c, _, h, _, _ => by omega
 | x, n + 1, c, hx, hn, h0, h1 => by
  simp only [K.aN.l0]
  by_cases h : x = 0
  ·subst h
   rw [if_neg (by omega)]
   have : j7 0 = 0 := by decide
   simp [this]
  ·obtain ⟨p1, p2⟩ := v5 x hx (by omega)
   have e : ((x : Int) - 1) = ((x - 1 : Nat) : Int) := by omega
   rw [if_pos (by omega), KM, w64 (x := (x : Int) - 1) (by omega) (by omega), e, lC (by omega) (by omega), w64 (by omega) (by omega)]
   have := th (x &&& (x - 1)) n (c + 1) (by omega) (by omega) (by omega) (by omega)
   rw [this]
   congr 1
   omega
theorem JJ {k x : Nat} (hk : 256 ≤ k) (hx : x < 256) : K.aN.f k (x : Int) = some (j7 x : Int) := by
 unfold K.aN.f
 have := th x k 0 hx (by omega) (by omega) (by omega)
 rw [this]; simp
theorem HI {x i j l : Nat} (h : j7 x ≤ 2) (hi : i < 8) (hj : j < 8) (hl : l < 8) (bi : x.testBit i = true) (bj : x.testBit j = true) (bl : x.testBit l = true) : i = j ∨ i = l ∨ j = l := by
 have m : ∀ {a : Nat}, a < 8 → x.testBit a = true → a ∈ (List.range 8).filter fun i => x.testBit i := fun h1 h2 => List.mem_filter.2 ⟨List.mem_range.2 h1, h2⟩
 have mi := m hi bi
 have mj := m hj bj
 have ml := m hl bl
 unfold j7 at h
 generalize (List.range 8).filter (fun i => x.testBit i) = L at *
 match L, h with
 | [], _ => cases mi
 | [a], _ => simp at mi mj; omega
 | [a, b], _ => simp at mi mj ml; omega
structure Pj (a x : Nat) (last sl : List Int) (t i : Nat) : Prop where
 ll : last.length = a
 lb : ∀ j : Nat, j < a → rd last j ≤ 1
 s2 : sl.length = 2
 en : ∀ c : Nat, c < 2 → 0 ≤ rd sl c → ∃ e : Nat, rd sl c = e ∧ e < a ∧ x.testBit e = true ∧ (t = 0 → e < i) ∧ (t = 0 ∨ i ≤ e → rd last e = c)
 ne : ∀ c d : Nat, c < 2 → d < 2 → c ≠ d → 0 ≤ rd sl c → rd sl c ≠ rd sl d
theorem Pj.skip {a x : Nat} {last sl : List Int} {t i : Nat} (h : Pj a x last sl t i) : Pj a x last sl t (i + 1) :=
 ⟨h.ll, h.lb, h.s2, fun c hc h0 => by
  obtain ⟨e, e1, e2, e3, e4, e5⟩ := h.en c hc h0
  exact ⟨e, e1, e2, e3, fun ht => by have := e4 ht; omega, fun hx => e5 (hx.imp id fun h => by omega)⟩, h.ne⟩
theorem yw {l : List Int} {i j : Nat} {v : Int} (hi : i < l.length) : rd (l.set i v) j = if j = i then v else rd l j := by
 rw [eY, eY, List.getD_eq_getElem?_getD, List.getD_eq_getElem?_getD, List.getElem?_set]
 by_cases c : i = j
 ·rw [if_pos c, if_pos hi, if_pos c.symm]; rfl
 ·rw [if_neg c, if_neg (fun h => c h.symm)]
theorem Pj.stay {a x : Nat} {last sl : List Int} {i c : Nat} (h : Pj a x last sl 0 i) (hi : i < a) (hb : x.testBit i = true) (hc : c < 2) (hl : rd last i = c) (hf : rd sl c < 0) : Pj a x last (sl.set c i) 0 (i + 1) := by
 have hs := h.s2
 have key : ∀ d : Nat, rd (sl.set c (i : Int)) d = if d = c then (i : Int) else rd sl d := fun d => yw (by omega)
 refine ⟨h.ll, h.lb, by rw [List.length_set]; exact h.s2, fun d hd h0 => ?_, fun d d' hd hd' hne h0 => ?_⟩
 ·rw [key] at h0 ⊢
  by_cases e : d = c
  ·rw [if_pos e]
   exact ⟨i, rfl, hi, hb, fun _ => by omega, fun _ => by rw [hl, e]⟩
  ·rw [if_neg e] at h0 ⊢
   obtain ⟨f, e1, e2, e3, e4, e5⟩ := h.en d hd h0
   exact ⟨f, e1, e2, e3, fun ht => by have := e4 rfl; omega, fun _ => e5 (Or.inl rfl)⟩
 ·rw [key] at h0
  rw [key, key]
  by_cases e : d = c <;> by_cases e' : d' = c
  ·omega
  ·rw [if_pos e, if_neg e']
   intro hx
   obtain ⟨f, e1, e2, e3, e4, e5⟩ := h.en d' hd' (by omega)
   have := e4 rfl; omega
  ·rw [if_neg e] at h0
   rw [if_neg e, if_pos e']
   intro hx
   obtain ⟨f, e1, e2, e3, e4, e5⟩ := h.en d hd h0
   have := e4 rfl; omega
  ·rw [if_neg e] at h0
   rw [if_neg e, if_neg e']; exact h.ne d d' hd hd' hne h0
theorem Pj.free {a x : Nat} {last sl : List Int} {i : Nat} (h : Pj a x last sl 1 i) (ha : a ≤ 8) (hp : j7 x ≤ 2) (hi : i < a) (hb : x.testBit i = true) (hn : ∀ c : Nat, c < 2 → rd sl c ≠ i) : rd sl ((0 : Nat) : Int) < 0 ∨ rd sl ((1 : Nat) : Int) < 0 := by
 by_cases c0 : rd sl ((0 : Nat) : Int) < 0
 ·exact Or.inl c0
 by_cases c1 : rd sl ((1 : Nat) : Int) < 0
 ·exact Or.inr c1
 exfalso
 obtain ⟨e, e1, e2, e3, -, -⟩ := h.en 0 (by omega) (by omega)
 obtain ⟨f, f1, f2, f3, -, -⟩ := h.en 1 (by omega) (by omega)
 have n0 := hn 0 (by omega)
 have n1 := hn 1 (by omega)
 have n2 := h.ne 0 1 (by omega) (by omega) (by omega) (by omega)
 rcases HI hp (show i < 8 by omega) (show e < 8 by omega) (show f < 8 by omega) hb e3 f3 with q | q | q <;> omega
theorem Pj.place {a x : Nat} {last sl : List Int} {i c : Nat} (h : Pj a x last sl 1 i) (hi : i < a) (hb : x.testBit i = true) (hn : ∀ c : Nat, c < 2 → rd sl c ≠ i) (hc : c < 2) (hf : rd sl c < 0) : Pj a x (last.set i c) (sl.set c i) 1 (i + 1) := by
 have hs := h.s2
 have hll := h.ll
 have key : ∀ d : Nat, rd (sl.set c (i : Int)) d = if d = c then (i : Int) else rd sl d := fun d => yw (by omega)
 have keyl : ∀ d : Nat, rd (last.set i (c : Int)) d = if d = i then (c : Int) else rd last d := fun d => yw (by omega)
 refine ⟨by rw [List.length_set]; exact h.ll, fun j hj => ?_, by rw [List.length_set]; exact h.s2, fun d hd h0 => ?_, fun d d' hd hd' hne h0 => ?_⟩
 ·rw [keyl]
  by_cases e : j = i
  ·rw [if_pos e]; omega
  ·rw [if_neg e]; exact h.lb j hj
 ·rw [key] at h0 ⊢
  by_cases e : d = c
  ·rw [if_pos e]
   exact ⟨i, rfl, hi, hb, fun ht => (by cases ht), fun hx => (by omega)⟩
  ·rw [if_neg e] at h0 ⊢
   obtain ⟨f, e1, e2, e3, e4, e5⟩ := h.en d hd h0
   refine ⟨f, e1, e2, e3, fun ht => (by cases ht), fun hx => ?_⟩
   have hfi : i + 1 ≤ f := by omega
   rw [keyl, if_neg (by omega)]
   exact e5 (Or.inr (by omega))
 ·rw [key] at h0
  rw [key, key]
  by_cases e : d = c <;> by_cases e' : d' = c
  ·omega
  ·rw [if_pos e, if_neg e']
   exact fun hx => hn d' hd' hx.symm
  ·rw [if_neg e, if_pos e']
   exact hn d hd
  ·rw [if_neg e] at h0
   rw [if_neg e, if_neg e']; exact h.ne d d' hd hd' hne h0
def rP (a : Nat) (l : List Int) : Prop := ∀ i : Nat, i < l.length → ∃ x : Nat, rd l i = x ∧ x < 2 ^ a ∧ j7 x ≤ 2
section
variable {a : Nat} {L : List Int} {P : List (List Int) × Int → Prop}
theorem KU (a8 : a ≤ 8) (hL : L.length ≤ 120) (hS : rP a L) {rows : List (List Int)} {n t : Nat} (hn : n < L.length) (ht : t < 2) {x : Nat} (hx : rd L n = x)
  (cont : ∀ last sl, Pj a x last sl t a → EvP (fun k => K.aa.l5 k (a : Int) 2 L rows last (n : Int) sl ((t + 1 : Nat) : Int)) P) :
  ∀ (d i : Nat) (last sl : List Int), i + d = a → Pj a x last sl t i → EvP (fun k => K.aa.l6 k (a : Int) 2 L rows last (n : Int) sl (t : Int) (i : Int)) P := by
 obtain ⟨x', e1, e2, e3⟩ := hS n hn
 obtain rfl : x = x' := by omega
 have hp := fD a8
 intro d
 induction d with
 | zero =>
  intro i last sl hi h
  obtain rfl : i = a := by omega
  refine (cont last sl h).step fun k => ?_
  simp only [K.aa.l6]
  rw [if_neg (by omega), cu (by omega)]
 | succ d ih =>
  intro i last sl hi h
  have hll := h.ll
  have hs2 := h.s2
  have hu : IntKind.wrap .u64 (i : Int) = (i : Int) := mY (by omega)
  have hlb := h.lb i (by omega)
  by_cases hb : x.testBit i = true
  ·have nb : ¬ Go.bits .and .i64 (Go.Proofs.YtcbhhbkghbnljaaW.PrintWords.shr .i64 (x : Int) (i : Int)) 1 = 0 := fun hx => (OS (by omega) (by omega)).1 hx hb
   -- behind the first part
   have nine : ∀ sl : List Int, Pj a x last sl t (if t = 0 then i + 1 else i) → EvP (fun k => K.aa.j9 k (a : Int) 2 L rows last (n : Int) sl (t : Int) (i : Int)) P := by
    intro sl h
    have hs2 := h.s2
    have skp : ∀ sl, Pj a x last sl t (i + 1) → EvP (fun k => K.aa.j10 k (a : Int) 2 L rows last (n : Int) sl (t : Int) (i : Int) false) P := fun sl h => (ih (i + 1) last sl (by omega) h).step fun k => by
     simp only [K.aa.j10]
     rw [if_neg (by decide), cu (by omega)]
    by_cases h1 : t = 1
    ·subst h1
     rw [if_neg (by omega)] at h
     have put : (∀ c : Nat, c < 2 → rd sl c ≠ i) → EvP (fun k => K.aa.j10 k (a : Int) 2 L rows last (n : Int) sl ((1 : Nat) : Int) (i : Int) true) P := by
      intro hne
      have at7 : ∀ c : Nat, c < 2 → rd sl c < 0 → EvP (fun k => K.aa.l7 k (a : Int) 2 L rows last (n : Int) sl ((1 : Nat) : Int) (i : Int) (c : Int)) P := fun c hc hf =>
       (ih (i + 1) (last.set i c) (sl.set c i) (by omega) (h.place (by omega) hb hne hc hf)).step fun k => by
        simp only [K.aa.l7, krd]
        rw [if_pos (by omega), if_pos (by omega), if_neg (by omega), if_pos (by omega), if_pos (by omega), cu (by omega), Int.toNat_natCast, Int.toNat_natCast]
      have st : EvP (fun k => K.aa.l7 k (a : Int) 2 L rows last (n : Int) sl ((1 : Nat) : Int) (i : Int) ((0 : Nat) : Int)) P := by
       by_cases c0 : rd sl ((0 : Nat) : Int) < 0
       ·exact at7 0 (by omega) c0
       ·refine (at7 1 (by omega) ?_).step fun k => ?_
        ·rcases h.free a8 e3 (by omega) hb hne with q | q
         ·exact absurd q c0
         ·exact q
        ·simp only [K.aa.l7, krd]
         rw [if_pos (by omega), if_pos (by omega), if_pos (by omega), cu (by omega)]
      refine st.step fun k => ?_
      simp only [K.aa.j10]
      rw [if_pos trivial]; rfl
     by_cases hneg : rd last i < 0
     ·refine (put fun c hc hx => ?_).step fun k => ?_
      ·obtain ⟨e, q1, q2, q3, q4, q5⟩ := h.en c hc (by omega)
       have : e = i := by omega
       subst this
       have := q5 (Or.inr (Nat.le_refl _))
       omega
      ·simp only [K.aa.j9, krd]
       rw [if_pos (by omega), if_pos (by omega), if_pos (by omega), if_pos hneg]
     ·obtain ⟨c, hc⟩ := Int.eq_ofNat_of_zero_le (show 0 ≤ rd last i by omega)
      by_cases hq : rd sl c = i
      ·refine (skp sl h.skip).step fun k => ?_
       simp only [K.aa.j9, krd]
       rw [if_pos (by omega), if_pos (by omega), if_pos (by omega), if_neg hneg, if_pos (by omega), if_pos (by omega), hc, show (rd sl (c : Int) != (i : Int)) = false by rw [hq]; simp]
      ·refine (put fun c' hc' hx => ?_).step fun k => ?_
       ·obtain ⟨e, q1, q2, q3, q4, q5⟩ := h.en c' hc' (by omega)
        have : e = i := by omega
        subst this
        have := q5 (Or.inr (Nat.le_refl _))
        have : c' = c := by omega
        subst this
        exact hq hx
       ·simp only [K.aa.j9, krd]
        rw [if_pos (by omega), if_pos (by omega), if_pos (by omega), if_neg hneg, if_pos (by omega), if_pos (by omega), hc, show (rd sl (c : Int) != (i : Int)) = true from bne_iff_ne.2 hq]
    ·have h0 : t = 0 := by omega
     rw [if_pos h0] at h
     refine (skp sl h).step fun k => ?_
     simp only [K.aa.j9]
     rw [if_neg (by omega)]
   have e8 : ∀ sl b, (b = true → ∃ c : Nat, c < 2 ∧ rd last i = c ∧ sl.length = 2 ∧ EvP (fun k => K.aa.j9 k (a : Int) 2 L rows last (n : Int) (sl.set c i) (t : Int) (i : Int)) P) → (b = false → EvP (fun k => K.aa.j9 k (a : Int) 2 L rows last (n : Int) sl (t : Int) (i : Int)) P) → EvP (fun k => K.aa.j8 k (a : Int) 2 L rows last (n : Int) sl (t : Int) (i : Int) b) P := by
    intro sl b h1 h2
    cases b with
    | true =>
     obtain ⟨c, hc, hl, hsl, hE⟩ := h1 rfl
     refine hE.step fun k => ?_
     simp only [K.aa.j8, krd]
     rw [if_pos trivial, if_pos (by omega), if_pos (by omega), if_pos (by omega), if_pos (by omega), hl, Int.toNat_natCast]
    | false =>
     refine (h2 rfl).step fun k => ?_
     simp only [K.aa.j8]
     rw [if_neg (by decide)]
   by_cases h0 : t = 0
   ·subst h0
    have sk : EvP (fun k => K.aa.j9 k (a : Int) 2 L rows last (n : Int) sl ((0 : Nat) : Int) (i : Int)) P := nine sl (by rw [if_pos rfl]; exact h.skip)
    by_cases hneg : rd last i < 0
    ·refine (e8 sl false (fun h => by cases h) (fun _ => sk)).step fun k => ?_
     simp only [K.aa.l6, krd]
     rw [hu, e1, if_pos (by omega), if_pos (by omega), if_pos (by omega), if_pos (by omega), if_neg nb, if_pos (by omega), if_pos (by omega), if_pos (by omega), if_neg (by omega)]
    ·obtain ⟨c, hc⟩ := Int.eq_ofNat_of_zero_le (show 0 ≤ rd last i by omega)
     refine (e8 sl (decide (rd sl (rd last i) < 0)) (fun hd => ?_) (fun _ => sk)).step fun k => ?_
     ·have hf := of_decide_eq_true hd
      rw [hc] at hf
      exact ⟨c, by omega, hc, h.s2, nine _ (by rw [if_pos rfl]; exact h.stay (by omega) hb (by omega) hc hf)⟩
     ·simp only [K.aa.l6, krd]
      rw [hu, e1, if_pos (by omega), if_pos (by omega), if_pos (by omega), if_pos (by omega), if_neg nb, if_pos (by omega), if_pos (by omega), if_pos (by omega), if_pos (by omega), if_pos (by omega), if_pos (by omega)]
   ·refine (e8 sl false (fun h => by cases h) (fun _ => nine sl (by rw [if_neg h0]; exact h))).step fun k => ?_
    simp only [K.aa.l6, krd]
    rw [hu, e1, if_pos (by omega), if_pos (by omega), if_pos (by omega), if_pos (by omega), if_neg nb, if_neg (by omega)]
  ·refine (ih (i + 1) last sl (by omega) h.skip).step fun k => ?_
   simp only [K.aa.l6, krd]
   rw [hu, e1, if_pos (by omega), if_pos (by omega), if_pos (by omega), if_pos (by omega), if_pos ((OS (by omega) (by omega)).2 hb), cu (by omega)]
end
section
variable {a : Nat} {L : List Int} {P : List (List Int) × Int → Prop}
theorem O2 (hL : L.length ≤ 120) {last sl : List Int} {n : Nat} (hn : n < L.length) (hsl : sl.length = 2) (cont : ∀ rows, Rw 2 (n + 1) rows → EvP (fun k => K.aa.l3 k (a : Int) 2 L rows last ((n + 1 : Nat) : Int)) P) {rows : List (List Int)} (hr : Rw 2 n rows) :
  EvP (fun k => K.aa.l8 k (a : Int) 2 L rows last (n : Int) sl (rows.length : Int) 0) P := by
 obtain ⟨h1, h2⟩ := hr
 match rows, h1, h2 with
 | [r0, r1], _, h2 =>
  have l0 := h2 r0 (by simp)
  have l1 := h2 r1 (by simp)
  refine EvP.step (g := fun k => K.aa.l8 k (a : Int) 2 L [r0 ++ [rd sl ((0 : Nat) : Int)], r1] last (n : Int) sl 2 ((1 : Nat) : Int)) ?_ fun k => ?_
  ·refine EvP.step (g := fun k => K.aa.l8 k (a : Int) 2 L [r0 ++ [rd sl ((0 : Nat) : Int)], r1 ++ [rd sl ((1 : Nat) : Int)]] last (n : Int) sl 2 ((2 : Nat) : Int)) ?_ fun k => ?_
   ·refine (cont [r0 ++ [rd sl ((0 : Nat) : Int)], r1 ++ [rd sl ((1 : Nat) : Int)]] ⟨rfl, fun r hr => ?_⟩).step fun k => ?_
    ·simp at hr
     rcases hr with rfl | rfl <;> simp [l0, l1]
    ·simp only [K.aa.l8]
     rw [if_neg (by decide), cu (by omega)]
   ·simp only [K.aa.l8, krd]
    rw [kp, if_pos (by decide), if_pos (by decide), if_pos (by simp), if_pos (by omega), if_pos (by show r1.length < _; omega), cu (by omega)]; rfl
  ·simp only [K.aa.l8, krd]
   rw [show ((0 : Int)) = ((0 : Nat) : Int) from rfl, kp, if_pos (by simp), if_pos (by decide), if_pos (by simp), if_pos (by omega), if_pos (by show r0.length < _; omega), cu (by omega)]; rfl
theorem O1 (a8 : a ≤ 8) (hL : L.length ≤ 120) (hS : rP a L) (fin : ∀ rows, Rw 2 L.length rows → P (rows, 0)) :
  ∀ (d n : Nat) (rows : List (List Int)) (last : List Int), n + d = L.length → Rw 2 n rows → last.length = a → (∀ j : Nat, j < a → rd last j ≤ 1) → EvP (fun k => K.aa.l3 k (a : Int) 2 L rows last (n : Int)) P := by
 intro d
 induction d with
 | zero =>
  intro n rows last hn hr hl hb
  obtain rfl : n = L.length := by omega
  refine EvP.ok (fin rows hr) fun k => ?_
  simp only [K.aa.l3]
  rw [if_neg (by omega)]
 | succ d ih =>
  intro n rows last hn hr hl hb
  obtain ⟨x, hx, -, -⟩ := hS n (by omega)
  have at5 : ∀ last sl, Pj a x last sl 1 a → EvP (fun k => K.aa.l5 k (a : Int) 2 L rows last (n : Int) sl ((2 : Nat) : Int)) P := fun last sl h =>
   (O2 (a := a) hL (show n < L.length by omega) h.s2 (fun rows hr => ih (n + 1) rows last (by omega) hr h.ll h.lb) hr).step fun k => by
    simp only [K.aa.l5]
    rw [if_neg (by decide)]
  have at51 : ∀ last sl, Pj a x last sl 0 a → EvP (fun k => K.aa.l5 k (a : Int) 2 L rows last (n : Int) sl ((1 : Nat) : Int)) P := fun last sl h =>
   (KU a8 hL hS (show n < L.length by omega) (show 1 < 2 by omega) hx at5 a 0 last sl (by omega) ⟨h.ll, h.lb, h.s2, fun c hc h0 => by
    obtain ⟨e, q1, q2, q3, q4, q5⟩ := h.en c hc h0
    exact ⟨e, q1, q2, q3, fun ht => (by cases ht), fun _ => q5 (Or.inl rfl)⟩, h.ne⟩).step fun k => by
    simp only [K.aa.l5]
    rw [if_pos (by decide)]; rfl
  have at50 : EvP (fun k => K.aa.l5 k (a : Int) 2 L rows last (n : Int) [-1, -1] ((0 : Nat) : Int)) P :=
   (KU a8 hL hS (show n < L.length by omega) (show 0 < 2 by omega) hx at51 a 0 last [-1, -1] (by omega) ⟨hl, hb, rfl, fun c hc h0 => by
    match c, hc, h0 with
    | 0, _, h0 => exact absurd h0 (by decide)
    | 1, _, h0 => exact absurd h0 (by decide), fun c d hc hd hne h0 => by
    match c, hc, h0 with
    | 0, _, h0 => exact absurd h0 (by decide)
    | 1, _, h0 => exact absurd h0 (by decide)⟩).step fun k => by
    simp only [K.aa.l5]
    rw [if_pos (by decide)]; rfl
  have at4 : EvP (fun k => K.aa.l4 k (a : Int) 2 L rows last (n : Int) [] ((0 : Nat) : Int)) P := by
   refine EvP.step (g := fun k => K.aa.l4 k (a : Int) 2 L rows last (n : Int) [-1] ((1 : Nat) : Int)) ?_ fun k => by
    simp only [K.aa.l4]
    rw [if_pos (by decide), if_pos (by decide), cu (by omega)]; rfl
   refine EvP.step (g := fun k => K.aa.l4 k (a : Int) 2 L rows last (n : Int) [-1, -1] ((2 : Nat) : Int)) ?_ fun k => by
    simp only [K.aa.l4]
    rw [if_pos (by decide), if_pos (by decide), cu (by omega)]; rfl
   refine at50.step fun k => ?_
   simp only [K.aa.l4]
   rw [if_neg (by decide)]; rfl
  refine at4.step fun k => ?_
  simp only [K.aa.l3]
  rw [if_pos (by omega)]; rfl
theorem O0 (a8 : a ≤ 8) (hL : L.length ≤ 120) (hS : rP a L) (fin : ∀ rows, Rw 2 L.length rows → P (rows, 0)) {rows : List (List Int)} (hr : Rw 2 0 rows) :
  ∀ (d i : Nat) (last : List Int), i + d = a → last = List.replicate i (-1) → EvP (fun k => K.aa.l2 k (a : Int) 2 L rows last (i : Int)) P := by
 intro d
 induction d with
 | zero =>
  intro i last hi hl
  obtain rfl : i = a := by omega
  refine (O1 a8 hL hS fin L.length 0 rows last (by omega) hr (by rw [hl, List.length_replicate]) (fun j hj => ?_)).step fun k => ?_
  ·rw [hl, eY, List.getD_eq_getElem?_getD, List.getElem?_replicate, if_pos hj]; decide
  ·simp only [K.aa.l2]
   rw [if_neg (by omega)]; rfl
 | succ d ih =>
  intro i last hi hl
  refine (ih (i + 1) (last ++ [-1]) (by omega) (by rw [hl, List.replicate_succ'])).step fun k => ?_
  simp only [K.aa.l2]
  rw [if_pos (by omega), if_pos (by rw [hl, List.length_replicate]; omega), cu (by omega)]
theorem OZ (a8 : a ≤ 8) (hL : L.length ≤ 120) (hS : rP a L) (fin : ∀ rows, Rw 2 L.length rows → P (rows, 0)) : EvP (fun k => K.aa.l1 k (a : Int) 2 L [] [] ((0 : Nat) : Int)) P := by
 refine EvP.step (g := fun k => K.aa.l1 k (a : Int) 2 L [[]] [] ((1 : Nat) : Int)) ?_ fun k => by
  simp only [K.aa.l1]
  rw [if_pos (by decide), if_pos (by decide), cu (by omega)]; rfl
 refine EvP.step (g := fun k => K.aa.l1 k (a : Int) 2 L [[], []] [] ((2 : Nat) : Int)) ?_ fun k => by
  simp only [K.aa.l1]
  rw [if_pos (by decide), if_pos (by decide), cu (by omega)]; rfl
 refine (O0 a8 hL hS fin (rows := [[], []]) ⟨rfl, fun r hr => by simp at hr; rw [hr]; rfl⟩ a 0 [] (by omega) rfl).step fun k => ?_
 simp only [K.aa.l1]
 rw [if_neg (by decide)]; rfl
theorem OY (a8 : a ≤ 8) (hL : L.length ≤ 120) (hS : rP a L) (fin : ∀ rows, Rw 2 L.length rows → P (rows, 0)) :
  ∀ (d i : Nat), i + d = L.length → EvP (fun k => K.aa.l0 k (a : Int) 2 L (i : Int)) P := by
 have hp := fD a8
 intro d
 induction d with
 | zero =>
  intro i hi
  refine (OZ a8 hL hS fin).step fun k => ?_
  simp only [K.aa.l0]
  rw [if_neg (by omega)]; rfl
 | succ d ih =>
  intro i hi
  obtain ⟨x, e1, e2, e3⟩ := hS i (by omega)
  have hu : IntKind.wrap .u64 (a : Int) = (a : Int) := mY (by omega)
  refine (ih (i + 1) (by omega)).jP 256 fun k hk => ?_
  simp only [K.aa.l0, krd]
  rw [if_pos (by omega), if_pos (by omega), hu, if_pos (by omega), e1, QU a a8, w64 (x := ((2 ^ a : Nat) : Int) - 1) (by omega) (by omega)]
  unfold K.bq.f
  rw [if_pos (by omega)]
  simp only [Option.bind_some]
  rw [if_pos (decide_eq_true (by omega)), JJ hk (by omega)]
  simp only [Option.bind_some]
  rw [if_neg (by omega), cu (by omega)]
end
theorem CN {a : Nat} {L : List Int} (a1 : 1 ≤ a) (a8 : a ≤ 8) (h1 : 1 ≤ L.length) (hL : L.length ≤ 120) (hS : rP a L) : Gv (evN fun k => K.aa.f k (a : Int) 2 L) fun r => Rw 2 L.length r.1 := by
 obtain ⟨r, N, hp, hk⟩ := OY (P := fun r => Rw 2 L.length r.1) a8 hL hS (fun rows hr => hr) L.length 0 (by omega)
 refine ⟨r, GM (N := N + 1) fun k hk' => ?_, hp⟩
 obtain ⟨m, rfl⟩ : ∃ m, k = m + 1 := ⟨k - 1, by omega⟩
 unfold K.aa.f K.bq.f
 rw [if_pos (by omega), if_pos (by decide)]
 simp only [Option.bind_some]
 rw [if_pos (decide_eq_true (by omega)), if_pos (by decide), if_neg (by omega)]
 simp only [K.aa.j0]
 rw [if_neg (by simp; omega)]
 exact hk m (by omega)
def Gq (G : List Int) (m : Int) (e : Int) : Prop := ∃ x : Nat, e = x ∧ x < 2 ^ G.length ∧ (j7 x : Int) ≤ m
theorem FJ {G : List Int} {m v : Int} (h : isT G = true) (hc : cnt G ≤ 4000) (h0 : 0 ≤ v) (h1 : v < cnt G) (hv : (fo G m).getD v.toNat false = true) : Gq G m (lZ G m v).1 := by
 obtain ⟨o, hr, h3, h4, h5⟩ := nL h hc h0 h1 hv
 have e : lZ G m v = o := by unfold lZ; rw [hr]; rfl
 rw [e]
 have hm := List.mem_of_find?_eq_some hr
 obtain ⟨x, hx, ho⟩ := List.mem_filterMap.1 hm
 obtain ⟨h6, h7⟩ := List.mem_filter.1 hx
 have h8 := List.mem_range'.1 h6
 refine ⟨x, (Eh h (kN v (cF h)) ho).1, ?_, of_decide_eq_true h7⟩
 obtain ⟨i, hi, rfl⟩ := h8
 omega
theorem tR {G : List Int} {m : Int} (h : isT G = true) (hc : cnt G ≤ 4000) : ∀ (n : Nat) (v : Int) (came out : List Int) (r : List Int × List Int), rI G m v came out → (∀ i : Nat, i < came.length → rd came i < out.length) → (∀ e ∈ out, Gq G m e) → kZ G m n v came out = some r → 1 ≤ r.2.length ∧ ∀ e ∈ r.2, Gq G m e
 | 0, _, _, _, _, _, _, _, e => by cases e
 | n + 1, v, came, out, r, I, hb, ho, e => by
  unfold kZ at e
  have hv0 := I.v0; have hv1 := I.v1; have hcl := I.cl
  by_cases c : 0 ≤ rd came v
  ·rw [if_pos c] at e
   obtain rfl := Option.some.inj e
   have hlt := hb v.toNat (by omega)
   rw [show ((v.toNat : Nat) : Int) = v by omega] at hlt
   exact ⟨by show 1 ≤ (out.drop _).length; rw [List.length_drop]; omega, fun x hx => ho x (List.mem_of_mem_drop hx)⟩
  ·rw [if_neg c] at e
   refine tR h hc n _ _ _ r (I.next h hc c) (fun i hi => ?_) (fun x hx => ?_) e
   ·have hi' : i < came.length := by simpa using hi
    rw [HR (by omega)]
    split
    ·simp; omega
    ·have := hb i hi'
     simp; omega
   ·rcases List.mem_append.1 hx with hx | hx
    ·exact ho x hx
    ·rw [List.mem_singleton.1 hx]
     exact FJ h hc hv0 hv1 I.lv
theorem yr {G : List Int} {m : Int} (h0 : (il G m).2.2 = 0) : 1 ≤ (il G m).2.1.length ∧ ∀ e ∈ (il G m).2.1, Gq G m e := by
 by_cases hf : jn G m = 0
 ·by_cases hs : uZ G m = true
  ·obtain ⟨h1, -, h3⟩ := jo hf
   obtain ⟨r, e, e2, -, -⟩ := tQ hf hs
   rw [e2]
   refine tR h1 h3 _ _ _ _ r (mg h1 h3 hs) (fun i hi => ?_) (fun x hx => by cases hx) e
   rw [eY, List.getD_eq_getElem?_getD, List.getElem?_replicate, if_pos (by simpa using hi)]
   decide
  ·unfold il at h0
   rw [if_pos hf, if_neg hs] at h0
   cases h0
 ·unfold il at h0
  rw [if_neg hf] at h0
  exact absurd h0 hf
theorem HZ {G : List Int} {L : List Int} (h : ∀ e ∈ L, Gq G 2 e) : rP G.length L := by
 intro i hi
 obtain ⟨x, e1, e2, e3⟩ := h _ (fq hi)
 exact ⟨x, e1, e2, by omega⟩
def Rws (L : List (List Int)) : Prop := ∃ m n, 1 ≤ m ∧ m ≤ 3 ∧ 1 ≤ n ∧ n ≤ 120 ∧ Rw m n L
def Lb (L : List (List Int)) : Prop := L.length ≤ 1000 ∧ ∀ r ∈ L, r.length ≤ 1000
theorem LG {k : Nat} (hk : 2097152 ≤ k) {lt : List Int} (l1 : 1 ≤ lt.length) (l8 : lt.length ≤ 8) {ls : List (List Int)} (hr : Rws ls) {s : j3} (S : Src s) {c : Int} (hc : c = 0 → isT lt = true) : Gv (ba.mid k lt ls s c) fun r => Rws r.1 ∧ Src r.2 := by
 unfold ba.mid
 refine Gv.ite (fun c0 => ?_) (fun _ => Gv.ok ⟨hr, S⟩)
 refine Gv.bind (cS S 2) fun y hy => ?_
 refine Gv.ite (fun y0 => ?_) (fun _ => Gv.ok ⟨hr, hy.1⟩)
 rw [nW hk (by omega)]
 simp only [Option.bind_some]
 refine Gv.ite (fun c2 => ?_) (fun _ => Gv.ok ⟨hr, hy.1⟩)
 obtain ⟨p1, p2⟩ := yr c2
 refine Gv.ite (fun h120 => ?_) (fun _ => Gv.ok ⟨hr, hy.1⟩)
 rw [pK]
 simp only [Option.bind_some]
 refine Gv.bind (CN l1 l8 p1 h120 (HZ p2)) fun r hr => Gv.ok ⟨⟨2, _, by omega, by omega, p1, h120, hr⟩, hy.1⟩
theorem Lx {ls : List (List Int)} (hr : Rws ls) {s : j3} (S : Src s) (z : Int) : Gv (ba.fin ls s z) fun r => Lb r.1 ∧ Src r.2 := by
 obtain ⟨m, n, m1, m3, n1, n2, h⟩ := hr
 have hl := h.len
 have lb : Lb ls := ⟨by omega, fun r hr => by have := h.row r hr; omega⟩
 unfold ba.fin
 refine Gv.ite (fun c0 => ?_) (fun _ => Gv.ite (fun c1 => ?_) (fun _ => Gv.ok ⟨lb, S⟩))
 ·refine Gv.pos (by omega) (Gv.ok ⟨⟨by rw [List.length_append, hl]; simp; omega, fun r hr => ?_⟩, S⟩)
  rcases List.mem_append.1 hr with hr | hr
  ·exact lb.2 r hr
  ·rw [List.mem_singleton.1 hr]; decide
 ·have h0 := h.at (show 0 < m by omega)
  refine Gv.pos (by omega) (Gv.pos (by omega) (Gv.bind (fS S [8, -2, 0] (by decide)) fun y hy => Gv.ok ⟨?_, hy.1⟩))
  have := h.set (c := 0) (r := (ls.getD 0 []).set 0 y.1) (by rw [List.length_set]; exact h0)
  exact ⟨by rw [this.len]; omega, fun r hr => by have := this.row r hr; omega⟩
theorem tm {k : Nat} (hk : 2097152 ≤ k) {c : List Int} (hb : ∀ x ∈ c, 0 ≤ x ∧ x ≤ 255) (hl : c.length ≤ 4096) : Gv (ba.f k c) fun r => r.1.length ≤ 1009 ∧ Lb r.2 := by
 unfold ba.f
 refine Gv.bind (DL hk hb hl) fun s hs => ?_
 refine Gv.bind (xn hk hs) fun t ht => ?_
 rw [pK]
 simp only [Option.bind_some]
 have hlen := ht.1.len
 refine Gv.pos (by omega) ?_
 refine Gv.bind (zq ht.1 _) fun d hd => ?_
 obtain ⟨hd1, m, n, m1, m3, n1, n8, hr⟩ := hd
 rw [zH hk (by omega)]
 simp only [Option.bind_some]
 refine Gv.bind (LG hk ht.2.1 ht.2.2 ⟨m, n, m1, m3, n1, by omega, hr⟩ hd1 (fun h0 => ?_)) fun r hr => ?_
 ·by_cases e : isT t.1 = true
  ·exact e
  ·rw [if_neg e] at h0; cases h0
 refine Gv.bind (cS hr.2 24) fun z hz => ?_
 refine Gv.bind (Lx hr.1 hz.1 z.1) fun f hf => ?_
 exact Gv.bind (Lo hk hf.2 ht.2.1 (by omega)) fun b hb => Gv.ok ⟨hb.2, hf.1⟩
theorem nU {k : Nat} (hk : 2097152 ≤ k) {c : List Int} (hb : ∀ x ∈ c, 0 ≤ x ∧ x ≤ 255) (hl : c.length ≤ 4096) : Gv (dG.f k c) fun r => r.1.length ≤ 1009 ∧ Lb r.2 := by
 unfold dG.f
 exact Gv.bind (tm hk hb hl) fun r hr => Gv.ok hr
theorem ta {k : Nat} (hk : 2097152 ≤ k) {c : List Int} (hb : ∀ x ∈ c, 0 ≤ x ∧ x ≤ 255) (hl : c.length ≤ 4096) : Gv (eF.f k c) fun r => Lb r.2.1 := by
 unfold eF.f ka.f
 refine Gv.bind (P := fun r => Lb r.2.1) ?_ fun r hr => Gv.ok hr
 refine Gv.bind (DL hk hb hl) fun s hs => ?_
 refine Gv.bind (tm hk hb hl) fun t ht => ?_
 refine Gv.bind (cS hs 20) fun y hy => ?_
 refine Gv.ite (fun _ => ?_) (fun _ => ?_)
 ·refine Gv.bind (fS hy.1 _ (by simp)) fun a ha => ?_
  exact Gv.bind (qj ha.1 _) fun b hb => Gv.ok ht.2
 ·exact Gv.bind (qj hy.1 _) fun b hb => Gv.ok ht.2
theorem dE (L : List (List Int)) (c : Nat) : cP ([] : List Int) L (c : Int) = L.getD c [] := oK _ _ _
theorem xc {L : List (List Int)} {c : Nat} (h : c < L.length) : L.drop c = L.getD c [] :: L.drop (c + 1) := by
 rw [List.getD_eq_getElem?_getD, List.getElem?_eq_getElem h, Option.getD_some]; exact List.drop_eq_getElem_cons h
def jl (K : Int) (n : Nat) (r : List Int) : Bool := kb K r && decide (r.length = n)
theorem Dt {K : Int} {n : Nat} {r : List Int} (e : kb K r = true) (q : r.length = n) : jl K n r = true := by unfold jl; rw [e, decide_eq_true q]; rfl
theorem zl {K : Int} {n : Nat} {r : List Int} (e : ¬ kb K r = true) : jl K n r = false := by unfold jl; rw [Bool.eq_false_iff.2 e]; rfl
theorem zm {K : Int} {n : Nat} {r : List Int} (q : ¬ r.length = n) : jl K n r = false := by unfold jl; rw [decide_eq_false q, Bool.and_false]
def fc (K : Int) (L : List (List Int)) : Bool := decide (1 ≤ K ∧ K ≤ 8) && (decide (1 ≤ L.length ∧ L.length ≤ 4) && L.all (jl K (L.getD 0 []).length))
structure Ch (K : Nat) (n : Nat) (L : List (List Int)) : Prop where
 k : 1 ≤ K ∧ K ≤ 8
 l : 1 ≤ L.length ∧ L.length ≤ 4
 n1 : 1 ≤ n ∧ n ≤ 120
 row : Rw L.length n L
 el : ∀ c s : Nat, c < L.length → s < n → -1 ≤ rd (L.getD c []) s ∧ rd (L.getD c []) s < K
 hd : (L.getD 0 []).length = n
theorem nh {K : Int} {L : List (List Int)} (h : fc K L = true) : ∃ K' : Nat, K = K' ∧ Ch K' (L.getD 0 []).length L := by
 unfold fc at h
 simp only [Bool.and_eq_true, decide_eq_true_eq, List.all_eq_true] at h
 obtain ⟨h1, h2, h3⟩ := h
 obtain ⟨K', rfl⟩ := Int.eq_ofNat_of_zero_le (show 0 ≤ K by omega)
 have hrow : ∀ c, c < L.length → kb (K' : Int) (L.getD c []) = true ∧ (L.getD c []).length = (L.getD 0 []).length := by
  intro c hc
  have hm : L.getD c [] ∈ L := by
   rw [List.getD_eq_getElem?_getD, List.getElem?_eq_getElem hc]; exact List.getElem_mem _
  have := h3 _ hm
  simp only [jl, Bool.and_eq_true, decide_eq_true_eq] at this
  exact this
 have ht : ∀ c, c < L.length → (1 ≤ (L.getD c []).length ∧ (L.getD c []).length ≤ 120) ∧ ∀ s : Nat, s < (L.getD c []).length → -1 ≤ rd (L.getD c []) s ∧ rd (L.getD c []) s < K' := by
  intro c hc
  have h4 := (hrow c hc).1
  simp only [kb, Bool.and_eq_true, decide_eq_true_eq, List.all_eq_true] at h4
  refine ⟨h4.1, fun s hs => ?_⟩
  have := h4.2 _ (fq hs)
  simp only [qL, decide_eq_true_eq] at this
  rw [w64 (by omega) (by omega)] at this
  omega
 refine ⟨K', rfl, by omega, h2, (ht 0 (by omega)).1, ⟨rfl, fun r hr => ?_⟩, fun c s hc hs => (ht c hc).2 s (by rw [(hrow c hc).2]; exact hs), rfl⟩
 have := h3 r hr
 simp only [jl, Bool.and_eq_true, decide_eq_true_eq] at this
 exact this.2
theorem Fh {k : Nat} {L : List (List Int)} (hk : 2097152 ≤ k) (hL : Lb L) (h1 : 1 ≤ L.length) (K : Int) : cq.f k L (K, L) = some (L.all (jl K (L.getD 0 []).length)) := by
 have hl1 := hL.1
 have key : ∀ (d c n : Nat), c + d = L.length → d < n → ∃ j : Int, ae.l0 k n L (K, L) (L.length : Int) (c : Int) = some j ∧ (0 ≤ j ↔ ¬ (L.drop c).all (jl K (L.getD 0 []).length) = true) := by
  intro d
  induction d with
  | zero =>
   intro c n hc hn
   cases n with
   | zero => omega
   | succ n =>
    refine ⟨-1, ?_, ?_⟩
    ·simp only [ae.l0, ae.s0]
     rw [if_neg (by omega)]
    ·rw [List.drop_eq_nil_of_le (by omega)]; simp
  | succ d ih =>
   intro c n hc hn
   cases n with
   | zero => omega
   | succ n =>
    have hm : L.getD c [] ∈ L := by
     rw [List.getD_eq_getElem?_getD, List.getElem?_eq_getElem (by omega)]; exact List.getElem_mem _
    have hcl : ck.f k (L.getD c []) (K, L) = some (!jl K (L.getD 0 []).length (L.getD c [])) := by
     unfold ck.f fV.f
     rw [Fi hk (by have := hL.2 _ hm; omega)]
     simp only [Option.bind_some]
     by_cases e : kb K (L.getD c []) = true
     ·rw [if_pos e, if_pos (by omega)]
      rw [show cP ([] : List Int) L 0 = L.getD 0 [] from dE L 0]
      simp only [Option.bind_some]
      by_cases q : (L.getD c []).length = (L.getD 0 []).length
      ·rw [Dt e q, decide_eq_true (p := ((L.getD c []).length : Int) = ((L.getD 0 []).length : Int)) (by omega)]; rfl
      ·rw [zm q, decide_eq_false (p := ((L.getD c []).length : Int) = ((L.getD 0 []).length : Int)) (by omega)]; rfl
     ·rw [if_neg e, zl e]; rfl
    simp only [ae.l0, ae.s0]
    rw [if_pos (by omega), if_pos (by omega), if_pos (by omega), dE, hcl, xc (show c < L.length by omega)]
    simp only [Option.bind_some]
    by_cases e : jl K (L.getD 0 []).length (L.getD c []) = true
    ·rw [if_neg (by rw [e]; decide), cu (by omega)]
     obtain ⟨j, h2, h3⟩ := ih (c + 1) n (by omega) (by omega)
     exact ⟨j, h2, by rw [h3, List.all_cons, e, Bool.true_and]⟩
    ·rw [if_pos (by rw [Bool.eq_false_iff.2 e]; rfl)]
     exact ⟨c, rfl, by rw [List.all_cons, Bool.eq_false_iff.2 e]; simp⟩
 obtain ⟨j, h2, h3⟩ := key L.length 0 k (by omega) (by omega)
 unfold cq.f bB.f ae.f ae.g
 have h2 : ae.l0 k k L (K, L) (L.length : Int) 0 = some j := h2
 rw [h2]
 simp only [Option.bind_some]
 rw [List.drop_zero] at h3
 congr 1
 cases e : L.all (jl K (L.getD 0 []).length) with
 | true => rw [e] at h3; simp at h3; simp; omega
 | false => rw [e] at h3; simp at h3; simp; exact h3
theorem fI {k : Nat} {L : List (List Int)} (hk : 2097152 ≤ k) (hL : Lb L) (K : Int) : cY.f k K L = some (fc K L) := by
 unfold cY.f lN.f eU.f fc
 rw [gJ]
 simp only [Option.bind_some]
 by_cases e : 1 ≤ K ∧ K ≤ 8
 ·rw [if_pos (decide_eq_true e), gJ, decide_eq_true e]
  simp only [Option.bind_some, Bool.true_and]
  by_cases e2 : 1 ≤ L.length ∧ L.length ≤ 4
  ·rw [if_pos (decide_eq_true (by omega)), Fh hk hL e2.1, decide_eq_true e2]
   rfl
  ·rw [if_neg (by rw [decide_eq_true_eq]; omega), decide_eq_false e2]; rfl
 ·rw [if_neg (by rw [decide_eq_true_eq]; exact e), decide_eq_false e]; rfl
theorem lQ {k : Nat} {L : List (List Int)} (hk : 2097152 ≤ k) (hL : Lb L) (K : Int) : bO.f k K L = some (fc K L) := by
 have hl1 := hL.1
 have key : 1 ≤ L.length → ∀ (d c n : Nat), c + d = L.length → d < n → bO.l0 k n K L (c : Int) = some ((L.drop c).all (jl K (L.getD 0 []).length)) := by
  intro h1 d
  induction d with
  | zero =>
   intro c n hc hn
   cases n with
   | zero => omega
   | succ n =>
    simp only [bO.l0, bO.s0]
    rw [if_neg (by omega), List.drop_eq_nil_of_le (by omega)]; rfl
  | succ d ih =>
   intro c n hc hn
   cases n with
   | zero => omega
   | succ n =>
    have hm : L.getD c [] ∈ L := by
     rw [List.getD_eq_getElem?_getD, List.getElem?_eq_getElem (by omega)]; exact List.getElem_mem _
    simp only [bO.l0, bO.s0]
    rw [if_pos (by omega), if_pos (by omega), if_pos (by omega), dE, Fx hk (by have := hL.2 _ hm; omega), xc (show c < L.length by omega), List.all_cons]
    simp only [Option.bind_some]
    rw [show cP ([] : List Int) L 0 = L.getD 0 [] from dE L 0]
    by_cases e : kb K (L.getD c []) = true
    ·rw [if_pos e, if_pos (by omega), if_pos (by omega), if_pos (by omega)]
     by_cases e2 : (L.getD c []).length = (L.getD 0 []).length
     ·rw [if_pos (by omega), cu (by omega), ih (c + 1) n (by omega) (by omega), Dt e e2]; rfl
     ·rw [if_neg (by omega), zm e2]; rfl
    ·rw [if_neg e, zl e]; rfl
 unfold bO.f bO.g fc
 rw [jO]
 simp only [Option.bind_some]
 by_cases e : 1 ≤ K ∧ K ≤ 8
 ·rw [if_pos (decide_eq_true e), decide_eq_true e]
  simp only [Bool.true_and]
  by_cases e1 : L.length < 1
  ·rw [if_pos (by omega), decide_eq_false (by omega)]; rfl
  ·rw [if_neg (by omega)]
   by_cases e2 : 4 < L.length
   ·rw [if_pos (by omega), decide_eq_false (by omega)]; rfl
   ·rw [if_neg (by omega), decide_eq_true (by omega)]
    have := key (by omega) L.length 0 k (by omega) (by omega)
    rw [List.drop_zero] at this
    exact this
 ·rw [if_neg (by rw [decide_eq_true_eq]; exact e), decide_eq_false e]; rfl
def has (L : List (List Int)) (s : Nat) (i : Int) : Nat := L.countP fun r => decide (rd r s = i)
def clR (L : List (List Int)) (s : Nat) : Nat → Nat → List (List Int)
 | _, 0 => []
 | i, d + 1 => (if 1 < has L s i then [[(s : Int), (i : Int)]] else []) ++ clR L s (i + 1) d
def clS (K : Nat) (L : List (List Int)) : Nat → Nat → List (List Int)
 | _, 0 => []
 | s, d + 1 => clR L s 0 K ++ clS K L (s + 1) d
def jm (K : Nat) (L : List (List Int)) : List (List Int) := clS K L 0 (L.getD 0 []).length
theorem ot {L : List (List Int)} {c : Nat} (h : c < L.length) (s : Nat) (i : Int) : has (L.drop c) s i = (if rd (L.getD c []) s = i then 1 else 0) + has (L.drop (c + 1)) s i := by
 unfold has
 rw [xc h, List.countP_cons]
 by_cases e : rd (L.getD c []) s = i
 ·rw [if_pos e, if_pos (decide_eq_true e)]; omega
 ·rw [if_neg e, if_neg (by rw [decide_eq_true_eq]; exact e)]; omega
theorem um {k n : Nat} {L : List (List Int)} (hk : 2097152 ≤ k) (hr : Rw L.length n L) (hl : L.length ≤ 1000) {s : Nat} (hs : s < n) (i : Int) : b7.f k L s i = some (has L s i : Int) := by
 have key : ∀ (d c m : Nat) (x : Nat), c + d = L.length → x ≤ c → d < m → b7.l0 k m L s i (x : Int) (c : Int) = some ((x + has (L.drop c) s i : Nat) : Int) := by
  intro d
  induction d with
  | zero =>
   intro c m x hc hx hm
   cases m with
   | zero => omega
   | succ m =>
    simp only [b7.l0, b7.s0]
    rw [if_neg (by omega), List.drop_eq_nil_of_le (by omega)]; rfl
  | succ d ih =>
   intro c m x hc hx hm
   cases m with
   | zero => omega
   | succ m =>
    have h1 := hr.at (show c < L.length by omega)
    simp only [b7.l0, b7.s0]
    rw [if_pos (by omega), if_pos (by omega), if_pos (by omega), if_pos (by omega), dE, if_pos (by omega), ot (show c < L.length by omega)]
    by_cases e : rd (L.getD c []) s = i
    ·rw [if_pos e, if_pos e, cu (by omega), cu (by omega), ih (c + 1) m (x + 1) (by omega) (by omega) (by omega)]
     congr 2; omega
    ·rw [if_neg e, if_neg e, cu (by omega), ih (c + 1) m x (by omega) (by omega) (by omega)]
     congr 2; omega
 unfold b7.f b7.g
 have := key L.length 0 k 0 (by omega) (by omega) (by omega)
 rw [List.drop_zero, Nat.zero_add] at this
 exact this
theorem rk (L : List (List Int)) (s : Nat) : ∀ (d i : Nat), (clR L s i d).length ≤ d
 | 0, i => Nat.le_refl _
 | d + 1, i => by
  have := rk L s d (i + 1)
  simp only [clR]
  rw [List.length_append]
  split <;> simp <;> omega
theorem Dv (K : Nat) (L : List (List Int)) : ∀ (d s : Nat), (clS K L s d).length ≤ d * K
 | 0, s => by simp [clS]
 | d + 1, s => by
  have := Dv K L d (s + 1)
  have := rk L s K 0
  simp only [clS]
  rw [List.length_append, Nat.add_mul, Nat.one_mul]
  omega
theorem jD {k K n : Nat} {L : List (List Int)} (hk : 2097152 ≤ k) (C : Ch K n L) : aE.f k K L = some (jm K L) := by
 have hk8 := C.k; have hl := C.l; have hn := C.n1
 have in1 : ∀ {r0 : Int → (List (List Int)) → (List (List Int)) → Int → Option ((List (List Int)))} {s : Nat} (hs : s < n) (d i m : Nat) (out : List (List Int)), i + d = K → d < m → out.length ≤ s * K + i → aE.l1 k r0 m K L out s i = r0 K L (out ++ clR L s i d) ((s + 1 : Nat) : Int) := by
  intro r0 s hs d
  induction d with
  | zero =>
   intro i m out hi hm ho
   cases m with
   | zero => omega
   | succ m =>
    simp only [aE.l1, aE.s1, clR]
    rw [if_neg (by omega), cu (by omega), List.append_nil]
  | succ d ih =>
   intro i m out hi hm ho
   cases m with
   | zero => omega
   | succ m =>
    have hsk : s * K ≤ 120 * 8 := Nat.mul_le_mul (by omega) (by omega)
    simp only [aE.l1, aE.s1, clR]
    rw [if_pos (by omega), um hk C.row (by omega) hs]
    simp only [Option.bind_some]
    by_cases e : 1 < has L s i
    ·rw [if_pos (by omega), if_pos e, if_pos (by omega), cu (by omega), ih (i + 1) m _ (by omega) (by omega) (by rw [List.length_append]; simp; omega), List.append_assoc]
    ·rw [if_neg (by omega), if_neg e, cu (by omega), ih (i + 1) m _ (by omega) (by omega) (by omega), List.nil_append]
 have in0 : ∀ (d s m : Nat) (out : List (List Int)), s + d = n → d < m → out.length ≤ s * K → aE.l0 k m K L out s = some (out ++ clS K L s d) := by
  intro d
  induction d with
  | zero =>
   intro s m out hs hm ho
   cases m with
   | zero => omega
   | succ m =>
    simp only [aE.l0, aE.s0, clS]
    rw [if_pos (by omega), show cP ([] : List Int) L 0 = L.getD 0 [] from dE L 0, C.hd, if_neg (by omega), List.append_nil]
  | succ d ih =>
   intro s m out hs hm ho
   cases m with
   | zero => omega
   | succ m =>
    have h1 := rk L s K 0
    simp only [aE.l0, aE.s0, clS]
    rw [if_pos (by omega), show cP ([] : List Int) L 0 = L.getD 0 [] from dE L 0, C.hd, if_pos (by omega)]
    rw [show (0 : Int) = ((0 : Nat) : Int) from rfl, in1 (show s < n by omega) K 0 k out (by omega) (by omega) (by omega), ih (s + 1) m _ (by omega) (by omega) (by rw [List.length_append, Nat.add_mul, Nat.one_mul]; omega), List.append_assoc]
 unfold aE.f aE.g jm
 rw [C.hd]
 have := in0 n 0 k [] (by omega) (by omega) (by simp)
 exact this
theorem js {k K n : Nat} {L : List (List Int)} (hk : 2097152 ≤ k) (C : Ch K n L) : aD.f k K L = some (jm K L) := by
 have hk8 := C.k; have hl := C.l; have hn := C.n1
 have in2 : ∀ {r0 : Int → (List (List Int)) → (List (List Int)) → Int → Int → Option ((List (List Int)))} {r1 : Int → (List (List Int)) → (List (List Int)) → Int → Int → Int → Int → Int → Option ((List (List Int)))} {s i : Nat} (hs : s < n) (hi : i < K) {out : List (List Int)} (ho : out.length ≤ 2000) (d c m x : Nat), c + d = L.length → x ≤ c → d < m →
   aD.l2 k r0 r1 m K L out s i x (n : Int) s (K : Int) i L (L.length : Int) c = r1 K L (out ++ (if 1 < x + has (L.drop c) s i then [[(s : Int), (i : Int)]] else [])) s (n : Int) s (K : Int) ((i + 1 : Nat) : Int) := by
  intro r0 r1 s i hs hi out ho d
  induction d with
  | zero =>
   intro c m x hc hx hm
   cases m with
   | zero => omega
   | succ m =>
    simp only [aD.l2, aD.s2]
    rw [if_neg (by omega), List.drop_eq_nil_of_le (by omega)]
    show (if 1 < (x : Int) then _ else _) = _
    by_cases e : 1 < x
    ·rw [if_pos (by omega), if_pos (by omega), if_pos (by show 1 < x + 0; omega), cu (by omega)]
    ·rw [if_neg (by omega), if_neg (by show ¬ 1 < x + 0; omega), cu (by omega), List.append_nil]
  | succ d ih =>
   intro c m x hc hx hm
   cases m with
   | zero => omega
   | succ m =>
    have h1 := C.row.at (show c < L.length by omega)
    simp only [aD.l2, aD.s2]
    rw [if_pos (by omega), if_pos (by omega), if_pos (by omega), if_pos (by omega), dE, if_pos (by omega), ot (show c < L.length by omega)]
    by_cases e : rd (L.getD c []) s = i
    ·rw [if_pos e, if_pos e, cu (by omega), cu (by omega), ih (c + 1) m (x + 1) (by omega) (by omega) (by omega), Nat.add_assoc]
    ·rw [if_neg e, if_neg e, cu (by omega), ih (c + 1) m x (by omega) (by omega) (by omega), Nat.zero_add]
 have in1 : ∀ {r0 : Int → (List (List Int)) → (List (List Int)) → Int → Int → Option ((List (List Int)))} {s : Nat} (hs : s < n) (d i m : Nat) (out : List (List Int)), i + d = K → d < m → out.length ≤ s * K + i → aD.l1 k r0 m K L out s (n : Int) s (K : Int) i = r0 K L (out ++ clR L s i d) (n : Int) ((s + 1 : Nat) : Int) := by
  intro r0 s hs d
  induction d with
  | zero =>
   intro i m out hi hm ho
   cases m with
   | zero => omega
   | succ m =>
    simp only [aD.l1, aD.s1, clR]
    rw [if_neg (by omega), cu (by omega), List.append_nil]
  | succ d ih =>
   intro i m out hi hm ho
   cases m with
   | zero => omega
   | succ m =>
    have hsk : s * K ≤ 120 * 8 := Nat.mul_le_mul (by omega) (by omega)
    simp only [aD.l1, aD.s1, clR]
    rw [if_pos (by omega)]
    have := in2 (r0 := r0) (r1 := aD.l1 k r0 m) hs (show i < K by omega) (out := out) (by omega) L.length 0 k 0 (by omega) (by omega) (by omega)
    rw [List.drop_zero, Nat.zero_add] at this
    refine Eq.trans this ?_
    rw [ih (i + 1) m _ (by omega) (by omega) (by rw [List.length_append]; split <;> simp <;> omega), List.append_assoc]
 have in0 : ∀ (d s m : Nat) (out : List (List Int)), s + d = n → d < m → out.length ≤ s * K → aD.l0 k m K L out (n : Int) s = some (out ++ clS K L s d) := by
  intro d
  induction d with
  | zero =>
   intro s m out hs hm ho
   cases m with
   | zero => omega
   | succ m =>
    simp only [aD.l0, aD.s0, clS]
    rw [if_neg (by omega), List.append_nil]
  | succ d ih =>
   intro s m out hs hm ho
   cases m with
   | zero => omega
   | succ m =>
    have h1 := rk L s K 0
    simp only [aD.l0, aD.s0, clS]
    rw [if_pos (by omega)]
    rw [show (0 : Int) = ((0 : Nat) : Int) from rfl, in1 (show s < n by omega) K 0 k out (by omega) (by omega) (by omega), ih (s + 1) m _ (by omega) (by omega) (by rw [List.length_append, Nat.add_mul, Nat.one_mul]; omega), List.append_assoc]
 unfold aD.f aD.g jm
 rw [if_pos (by omega), show cP ([] : List Int) L 0 = L.getD 0 [] from dE L 0, C.hd]
 exact in0 n 0 k [] (by omega) (by omega) (by simp)
theorem vf {k : Nat} (hk : 2097152 ≤ k) {l : List Int} (hl : l.length ≤ 1048576) : bL.f k l l = some true := by
 have key : ∀ (d i n : Nat), l.length - i = d → i ≤ l.length → d < n → bL.l0 k n l l i = some true := by
  intro d
  induction d with
  | zero =>
   intro i n hd hi hn
   cases n with
   | zero => omega
   | succ n =>
    simp only [bL.l0, bL.s0]
    rw [if_neg (by omega)]
  | succ d ih =>
   intro i n hd hi hn
   cases n with
   | zero => omega
   | succ n =>
    simp only [bL.l0, bL.s0]
    rw [cu (by omega), if_pos (by omega), if_pos (by omega), if_pos (by omega), if_pos (by omega), if_pos (by omega), if_pos trivial]
    exact ih (i + 1) n (by omega) (by omega) (by omega)
 unfold bL.f bL.g
 rw [if_pos rfl]
 exact key l.length 0 k (by omega) (by omega) (by omega)
theorem uf {k : Nat} (hk : 2097152 ≤ k) {L : List (List Int)} (hl : L.length ≤ 1048576) (hr : ∀ r ∈ L, r.length ≤ 1048576) : cd.f k L L = some true := by
 have key : ∀ (d i n : Nat), i + d = L.length → d < n → cd.l0 k n L L i = some true := by
  intro d
  induction d with
  | zero =>
   intro i n hi hn
   cases n with
   | zero => omega
   | succ n =>
    simp only [cd.l0, cd.s0]
    rw [if_neg (by omega)]
  | succ d ih =>
   intro i n hi hn
   cases n with
   | zero => omega
   | succ n =>
    have hm : L.getD i [] ∈ L := by
     rw [List.getD_eq_getElem?_getD, List.getElem?_eq_getElem (by omega)]; exact List.getElem_mem _
    simp only [cd.l0, cd.s0]
    rw [if_pos (by omega), if_pos (by omega), if_pos (by omega), if_pos (by omega), if_pos (by omega), dE, vf hk (hr _ hm), Option.bind_some, if_pos rfl, cu (by omega)]
    exact ih (i + 1) n (by omega) (by omega)
 unfold cd.f cd.g
 rw [if_pos rfl]
 exact key L.length 0 k (by omega) (by omega)
def iD (L : List (List Int)) (n : Nat) (i : Int) : List Int := (List.range n).map fun s => if 0 < has L s i then i else -1
theorem mr (L : List (List Int)) (n : Nat) (i : Int) : (iD L n i).length = n := by simp [iD]
theorem Ki (L : List (List Int)) {n s : Nat} {i : Int} (h : s < n) : rd (iD L n i) (s : Int) = if 0 < has L s i then i else -1 := by
 rw [wg (by rw [mr]; exact h)]
 simp [iD]
def mx (L : List (List Int)) (c s n : Nat) (i : Int) : List Int := (List.range n).map fun u => if 0 < has (L.take (if u < s then c + 1 else c)) u i then i else -1
theorem BU (L : List (List Int)) (c s n : Nat) (i : Int) : (mx L c s n i).length = n := by simp [mx]
theorem zD {L : List (List Int)} {c : Nat} (h : c < L.length) (s : Nat) (i : Int) : has (L.take (c + 1)) s i = has (L.take c) s i + if rd (L.getD c []) s = i then 1 else 0 := by
 unfold has
 rw [List.getD_eq_getElem?_getD, List.getElem?_eq_getElem h, Option.getD_some, List.take_succ_eq_append_getElem h, List.countP_append, List.countP_singleton]
 simp only [decide_eq_true_eq]
theorem LL {L : List (List Int)} {c s n : Nat} {i : Int} (h : c < L.length) (e : rd (L.getD c []) s = i) : (mx L c s n i).set s i = mx L c (s + 1) n i := by
 apply List.ext_getElem (by simp [mx])
 intro u h1 h2
 have hu : u < n := by rw [BU] at h2; exact h2
 rw [List.getElem_set]
 simp only [mx, List.getElem_map, List.getElem_range]
 by_cases c1 : s = u
 ·subst c1
  have := zD h s i
  rw [if_pos e] at this
  rw [if_pos rfl, if_pos (show s < s + 1 by omega), this, if_pos (by omega)]
 ·rw [if_neg c1]
  by_cases c2 : u < s
  ·rw [if_pos c2, if_pos (show u < s + 1 by omega)]
  ·rw [if_neg c2, if_neg (show ¬ u < s + 1 by omega)]
theorem JS {L : List (List Int)} {c s n : Nat} {i : Int} (h : c < L.length) (e : ¬ rd (L.getD c []) s = i) : mx L c s n i = mx L c (s + 1) n i := by
 apply List.ext_getElem (by simp [mx])
 intro u h1 h2
 simp only [mx, List.getElem_map, List.getElem_range]
 by_cases c1 : s = u
 ·subst c1
  have := zD h s i
  rw [if_neg e] at this
  rw [if_neg (show ¬ s < s by omega), if_pos (show s < s + 1 by omega), this, Nat.add_zero]
 ·by_cases c2 : u < s
  ·rw [if_pos c2, if_pos (show u < s + 1 by omega)]
  ·rw [if_neg c2, if_neg (show ¬ u < s + 1 by omega)]
theorem LK (L : List (List Int)) (c n : Nat) (i : Int) : mx L c n n i = mx L (c + 1) 0 n i := by
 apply List.ext_getElem (by simp [mx])
 intro u h1 h2
 have hu : u < n := by rw [BU] at h2; exact h2
 simp only [mx, List.getElem_map, List.getElem_range]
 rw [if_pos hu, if_neg (show ¬ u < 0 by omega)]
theorem G9 (L : List (List Int)) (n : Nat) (i : Int) : List.replicate n (-1) = mx L 0 0 n i := by
 apply List.ext_getElem (by simp [mx])
 intro u h1 h2
 simp [mx, has]
theorem LJ (L : List (List Int)) (n : Nat) (i : Int) : mx L L.length 0 n i = iD L n i := by
 apply List.ext_getElem (by simp [mx, iD])
 intro u h1 h2
 simp [mx, iD]
theorem CZ {k K n : Nat} {L : List (List Int)} (hk : 2097152 ≤ k) (C : Ch K n L) (i : Int) : aH.f k L i = some (iD L n i) := by
 have hl := C.l; have hn := C.n1
 have in1 : ∀ {r0 : Int → (List Int) → (List (List Int)) → Int → Int → Option ((List Int))} {c : Nat} (hc : c < L.length) (d s m : Nat), s + d = n → d < m → aH.l1 k r0 m i (mx L c s n i) L (L.length : Int) c (L.getD c []) (n : Int) s = r0 i (mx L (c + 1) 0 n i) L (L.length : Int) ((c + 1 : Nat) : Int) := by
  intro r0 c hc d
  have h1 := C.row.at hc
  induction d with
  | zero =>
   intro s m hs hm
   obtain rfl : s = n := by omega
   cases m with
   | zero => omega
   | succ m =>
    simp only [aH.l1, aH.s1]
    rw [if_neg (by omega), cu (by omega), LK]
  | succ d ih =>
   intro s m hs hm
   cases m with
   | zero => omega
   | succ m =>
    simp only [aH.l1, aH.s1]
    rw [if_pos (by omega), if_pos (by omega), if_pos (by omega), cu (by omega)]
    by_cases e : rd (L.getD c []) s = i
    ·rw [if_pos e, if_pos (by omega), if_pos (by rw [BU]; omega), Int.toNat_natCast, LL hc e]
     exact ih (s + 1) m (by omega) (by omega)
    ·rw [if_neg e, JS hc e]
     exact ih (s + 1) m (by omega) (by omega)
 have in0 : ∀ (d c m : Nat), c + d = L.length → d < m → aH.l0 k m i (mx L c 0 n i) L (L.length : Int) c = some (iD L n i) := by
  intro d
  induction d with
  | zero =>
   intro c m hc hm
   obtain rfl : c = L.length := by omega
   cases m with
   | zero => omega
   | succ m =>
    simp only [aH.l0, aH.s0]
    rw [if_neg (by omega), LJ]
  | succ d ih =>
   intro c m hc hm
   cases m with
   | zero => omega
   | succ m =>
    have h1 := C.row.at (show c < L.length by omega)
    have := in1 (r0 := aH.l0 k m) (show c < L.length by omega) n 0 k (by omega) (by omega)
    simp only [aH.l0, aH.s0]
    rw [if_pos (by omega), if_pos (by omega), if_pos (by omega), dE, h1]
    refine Eq.trans this ?_
    exact ih (c + 1) m (by omega) (by omega)
 have hrep : cz.f [-1] (n : Int) = some (List.replicate n (-1)) := by
  unfold cz.f
  exact if_pos (by omega)
 unfold aH.f aH.g
 rw [if_pos (by omega), show cP ([] : List Int) L 0 = L.getD 0 [] from dE L 0, C.hd, hrep, Option.bind_some, G9 L n i]
 exact in0 L.length 0 k (by omega) (by omega)
def gw (L : List (List Int)) (i : Int) : Int := grt (wait (iD L (L.getD 0 []).length i) i)
theorem EC {k K n : Nat} {L : List (List Int)} (hk : 2097152 ≤ k) (C : Ch K n L) (i : Int) : bQ.f k L i = some (gw L i) := by
 have hl := C.l; have hn := C.n1
 have key : ∀ (d s m : Nat), s + d = n → d < m → bQ.l0 k m L i (iD L s i) s = some (gw L i) := by
  intro d
  induction d with
  | zero =>
   intro s m hs hm
   obtain rfl : s = n := by omega
   cases m with
   | zero => omega
   | succ m =>
    simp only [bQ.l0, bQ.s0]
    rw [if_pos (by omega), show cP ([] : List Int) L 0 = L.getD 0 [] from dE L 0, C.hd, if_neg (by omega), q9 hk (by rw [mr]; omega), Option.bind_some]
    unfold gw
    rw [C.hd]
  | succ d ih =>
   intro s m hs hm
   cases m with
   | zero => omega
   | succ m =>
    have e : iD L (s + 1) i = iD L s i ++ [if 0 < has L s i then i else -1] := by simp [iD, List.range_succ]
    have next := ih (s + 1) m (by omega) (by omega)
    have tl := mr L s i
    simp only [bQ.l0, bQ.s0]
    rw [if_pos (by omega), show cP ([] : List Int) L 0 = L.getD 0 [] from dE L 0, C.hd, if_pos (by omega), um hk C.row (by omega) (show s < n by omega), Option.bind_some, cu (by omega)]
    by_cases c : 0 < has L s i
    ·rw [if_pos c] at e
     rw [if_pos (by omega), if_pos (by omega), ← e]
     exact next
    ·rw [if_neg c] at e
     rw [if_neg (by omega), if_pos (by omega), ← e]
     exact next
 unfold bQ.f bQ.g
 exact key n 0 k (by omega) (by omega)
theorem KL {k K n : Nat} {L : List (List Int)} (hk : 2097152 ≤ k) (C : Ch K n L) (i : Int) : ((aH.f k L i).bind fun t6 => (bk.f k t6 i).bind fun t7 => bA.f k t7) = some (gw L i) := by
 have hn := C.n1
 have h1 : (iD L n i).length ≤ 1048576 := by rw [mr]; omega
 have h2 := AB (cs := iD L n i) i
 rw [CZ hk C, Option.bind_some, xg hk h1, Option.bind_some, qP hk (by omega)]
 unfold gw
 rw [C.hd]
theorem KH {α β γ δ : Type} (a : Option α) (f : α → Option β) (g : β → Option γ) (h : γ → Option δ) : (a.bind fun x => (f x).bind fun y => (g y).bind fun z => h z) = (a.bind fun x => (f x).bind fun y => g y).bind h := by
 cases a with
 | none => rfl
 | some a =>
  simp only [Option.bind_some]
  cases f a with
  | none => rfl
  | some b => rfl
def wtT (K : Int) (L : List (List Int)) (i : Int) : Int × Int := if fc K L = true then (if 0 ≤ i ∧ i ≤ wrap64 (K - 1) then (gw L i, 0) else (0, 2)) else (0, 2)
theorem kX {k : Nat} {L : List (List Int)} (hk : 2097152 ≤ k) (hL : Lb L) (K i : Int) : dL.f k K L i = some (wtT K L i) := by
 unfold dL.f wtT
 rw [fI hk hL, Option.bind_some]
 by_cases e : fc K L = true
 ·obtain ⟨K', rfl, C⟩ := nh e
  rw [if_pos e, if_pos e, gJ, Option.bind_some]
  by_cases e2 : 0 ≤ i ∧ i ≤ wrap64 ((K' : Int) - 1)
  ·rw [if_pos (decide_eq_true e2), if_pos e2, KH, KL hk C]; rfl
  ·rw [if_neg (by rw [decide_eq_true_eq]; exact e2), if_neg e2]
 ·rw [if_neg e, if_neg e]
theorem re {k : Nat} {L : List (List Int)} (hk : 2097152 ≤ k) (hL : Lb L) (K i : Int) : eG.f k K L i = some (wtT K L i) := by
 unfold eG.f wtT
 rw [lQ hk hL, Option.bind_some]
 by_cases e : fc K L = true
 ·obtain ⟨K', rfl, C⟩ := nh e
  rw [if_pos e, if_pos e, jO, Option.bind_some]
  by_cases e2 : 0 ≤ i ∧ i ≤ wrap64 ((K' : Int) - 1)
  ·rw [if_pos (decide_eq_true e2), if_pos e2, EC hk C]; rfl
  ·rw [if_neg (by rw [decide_eq_true_eq]; exact e2), if_neg e2]
 ·rw [if_neg e, if_neg e]
def okW (G : List Int) (L : List (List Int)) (i : Nat) : Bool := decide (gw L i ≠ 0 ∧ gw L i ≤ rd G i)
def m6 (G : List Int) (L : List (List Int)) : Nat → Nat → Bool
 | _, 0 => true
 | i, d + 1 => okW G L i && m6 G L (i + 1) d
def svT (G : List Int) (L : List (List Int)) : Bool × Int := if isT G = true then (if fc (G.length : Int) L = true then (if 0 < (jm G.length L).length then (false, 5) else (m6 G L 0 G.length, 0)) else (false, 2)) else (false, 1)
theorem Hh {G : List Int} {L : List (List Int)} {i : Nat} (h : gw L i = 0) : okW G L i = false := decide_eq_false fun e => e.1 h
theorem KR {G : List Int} {L : List (List Int)} {i : Nat} (h : rd G i < gw L i) : okW G L i = false := decide_eq_false fun e => by omega
theorem KS {G : List Int} {L : List (List Int)} {i : Nat} (h : gw L i ≠ 0) (h2 : ¬ rd G i < gw L i) : okW G L i = true := decide_eq_true ⟨h, by omega⟩
theorem qQ {k : Nat} {G : List Int} {L : List (List Int)} (hk : 2097152 ≤ k) (hG : G.length ≤ 1048576) (hL : Lb L) : aZ.f k G L = some (svT G L) := by
 have key : Ch G.length (L.getD 0 []).length L → ∀ (d i m : Nat), i + d = G.length → d < m → aZ.l0 k m L G (G.length : Int) i = some (m6 G L i d, 0) := by
  intro C d
  induction d with
  | zero =>
   intro i m hi hm
   cases m with
   | zero => omega
   | succ m =>
    simp only [aZ.l0, aZ.s0]
    rw [if_neg (by omega)]; rfl
  | succ d ih =>
   intro i m hi hm
   cases m with
   | zero => omega
   | succ m =>
    simp only [aZ.l0, aZ.s0, m6]
    rw [if_pos (by omega), if_pos (by omega), if_pos (by omega), KH, KL hk C, Option.bind_some, cu (by omega)]
    by_cases c : gw L (i : Int) = 0
    ·rw [if_pos c, Hh c]; rfl
    ·rw [if_neg c]
     by_cases c2 : rd G i < gw L (i : Int)
     ·rw [if_pos c2, KR c2]; rfl
     ·rw [if_neg c2, KS c c2, Bool.true_and]
      exact ih (i + 1) m (by omega) (by omega)
 unfold aZ.f aZ.g svT
 rw [xt, Option.bind_some, fI hk hL, Option.bind_some, qK hk hG, Option.bind_some]
 by_cases e : isT G = true
 ·have hg := cB e
  rw [if_pos e, if_pos e, show jI (G.length : Int) 1 = (G.length : Int) by unfold jI; split <;> omega]
  by_cases e2 : fc (G.length : Int) L = true
  ·obtain ⟨K', q, C⟩ := nh e2
   obtain rfl : G.length = K' := by omega
   rw [if_pos e2, if_pos e2, if_pos rfl, Option.bind_some, js hk C, Option.bind_some]
   by_cases e3 : 0 < (jm G.length L).length
   ·rw [if_pos (by omega), if_pos e3]
   ·rw [if_neg (by omega), if_neg e3]
    exact key C G.length 0 k (by omega) (by omega)
  ·rw [if_neg e2, if_neg e2, if_neg (by decide)]
 ·rw [if_neg e, if_neg e, if_neg (by decide)]
theorem rb {k : Nat} {G : List Int} {L : List (List Int)} (hk : 2097152 ≤ k) (hG : G.length ≤ 1048576) (hL : Lb L) : a5.f k G L = some (svT G L) := by
 have key : Ch G.length (L.getD 0 []).length L → ∀ (d i m : Nat), i + d = G.length → d < m → a5.l0 k m L G i = some (m6 G L i d, 0) := by
  intro C d
  induction d with
  | zero =>
   intro i m hi hm
   cases m with
   | zero => omega
   | succ m =>
    simp only [a5.l0, a5.s0]
    rw [pK, Option.bind_some, if_neg (by omega)]; rfl
  | succ d ih =>
   intro i m hi hm
   cases m with
   | zero => omega
   | succ m =>
    simp only [a5.l0, a5.s0, m6]
    rw [pK, Option.bind_some, if_pos (by omega), EC hk C, Option.bind_some, cu (by omega)]
    by_cases c : gw L (i : Int) = 0
    ·rw [if_pos c, Hh c]; rfl
    ·rw [if_neg c, if_pos (by omega), if_pos (by omega)]
     by_cases c2 : rd G i < gw L (i : Int)
     ·rw [if_pos c2, KR c2]; rfl
     ·rw [if_neg c2, KS c c2, Bool.true_and]
      exact ih (i + 1) m (by omega) (by omega)
 unfold a5.f a5.g svT
 rw [xm hk hG, Option.bind_some]
 by_cases e : isT G = true
 ·rw [if_pos e, if_neg (by rw [e]; decide), pK, Option.bind_some, lQ hk hL, Option.bind_some]
  by_cases e2 : fc (G.length : Int) L = true
  ·obtain ⟨K', q, C⟩ := nh e2
   obtain rfl : G.length = K' := by omega
   rw [if_pos e2, if_neg (by rw [e2]; decide), Option.bind_some, jD hk C, Option.bind_some]
   by_cases e3 : 0 < (jm G.length L).length
   ·rw [if_pos (decide_eq_true (by omega)), if_pos e3]
   ·rw [if_neg (by rw [decide_eq_true_eq]; omega), if_neg e3]
    exact key C G.length 0 k (by omega) (by omega)
  ·rw [if_neg e2, if_pos (by rw [Bool.eq_false_iff.2 e2]; decide)]
 ·rw [if_neg e, if_pos (by rw [Bool.eq_false_iff.2 e]; decide)]
def clT (K : Int) (L : List (List Int)) : List (List Int) × Int := if fc K L = true then (jm K.toNat L, 0) else ([], 2)
theorem pI {k : Nat} {L : List (List Int)} (hk : 2097152 ≤ k) (hL : Lb L) (K : Int) : gF.f k K L = some (clT K L) := by
 unfold gF.f clT
 rw [fI hk hL, Option.bind_some]
 by_cases e : fc K L = true
 ·obtain ⟨K', rfl, C⟩ := nh e
  rw [if_pos e, if_pos e, js hk C]; rfl
 ·rw [if_neg e, if_neg e]
theorem p8 {k : Nat} {L : List (List Int)} (hk : 2097152 ≤ k) (hL : Lb L) (K : Int) : gG.f k K L = some (clT K L) := by
 unfold gG.f clT
 rw [lQ hk hL, Option.bind_some]
 by_cases e : fc K L = true
 ·obtain ⟨K', rfl, C⟩ := nh e
  rw [if_pos e, if_pos e, jD hk C]; rfl
 ·rw [if_neg e, if_neg e]
def plR (L : List (List Int)) (s : Nat) (i : Int) : Nat → Nat → List Int
 | _, 0 => []
 | c, d + 1 => (if rd (L.getD c []) s = i then [(c : Int)] else []) ++ plR L s i (c + 1) d
def plS (L : List (List Int)) (i : Int) : Nat → Nat → List Int
 | _, 0 => []
 | s, d + 1 => plR L s i 0 L.length ++ plS L i (s + 1) d
theorem yq (L : List (List Int)) (s : Nat) (i : Int) : ∀ (d c : Nat), (plR L s i c d).length ≤ d
 | 0, c => Nat.le_refl _
 | d + 1, c => by
  have := yq L s i d (c + 1)
  simp only [plR]
  rw [List.length_append]
  split <;> simp <;> omega
theorem El {L : List (List Int)} {s : Nat} {i : Int} : ∀ {d c : Nat} {x : Int}, x ∈ plR L s i c d → 0 ≤ x ∧ x < ((c + d : Nat) : Int)
 | 0, c, x, h => by cases h
 | d + 1, c, x, h => by
  simp only [plR] at h
  rcases List.mem_append.1 h with h | h
  ·split at h
   ·simp only [List.mem_singleton] at h; omega
   ·cases h
  ·have := El h; omega
theorem Em {L : List (List Int)} {i : Int} : ∀ {d s : Nat} {x : Int}, x ∈ plS L i s d → 0 ≤ x ∧ x < (L.length : Int)
 | 0, s, x, h => by cases h
 | d + 1, s, x, h => by
  simp only [plS] at h
  rcases List.mem_append.1 h with h | h
  ·have := El h; omega
  ·exact Em h
theorem vG {k n : Nat} {L : List (List Int)} (hr : Rw L.length n L) (hl : L.length ≤ 1000) {s : Nat} (hs : s < n) {i : Int} : ∀ (d c m : Nat), c + d = L.length → d < m → has (L.drop c) s i ≤ 1 →
  ∃ j : Int, aj.l0 k m L ((s : Int), i) (L.length : Int) (c : Int) = some j ∧ ((j < 0 ∧ plR L s i c d = []) ∨ (0 ≤ j ∧ plR L s i c d = [j]))
 | 0, c, m, hc, hm, hh => by
  cases m with
  | zero => omega
  | succ m =>
   refine ⟨-1, ?_, .inl ⟨by omega, rfl⟩⟩
   simp only [aj.l0, aj.s0]
   rw [if_neg (by omega)]
 | d + 1, c, m, hc, hm, hh => by
  cases m with
  | zero => omega
  | succ m =>
   have h1 := hr.at (show c < L.length by omega)
   rw [ot (show c < L.length by omega)] at hh
   have hcl : fC.f (L.getD c []) (s : Int) i = some (decide (rd (L.getD c []) s = i)) := by
    unfold fC.f
    rw [if_pos (by omega), if_pos (by omega)]
   simp only [aj.l0, aj.s0, plR]
   rw [if_pos (by omega), if_pos (by omega), if_pos (by omega), dE, hcl, Option.bind_some, cu (by omega)]
   by_cases e : rd (L.getD c []) s = i
   ·rw [if_pos e] at hh
    rw [if_pos (decide_eq_true e), if_pos e]
    refine ⟨c, rfl, .inr ⟨by omega, ?_⟩⟩
    have z : ∀ (d c : Nat), c + d = L.length → has (L.drop c) s i = 0 → plR L s i c d = [] := by
     intro d
     induction d with
     | zero => intro c _ _; rfl
     | succ d ih =>
      intro c hc hz
      rw [ot (show c < L.length by omega)] at hz
      by_cases e : rd (L.getD c []) s = i
      ·rw [if_pos e] at hz; omega
      ·simp only [plR]
       rw [if_neg e, ih (c + 1) (by omega) (by omega)]; rfl
    rw [z d (c + 1) (by omega) (by omega)]; rfl
   ·rw [if_neg e] at hh
    rw [if_neg (by rw [decide_eq_true_eq]; exact e), if_neg e, List.nil_append]
    exact vG hr hl hs d (c + 1) m (by omega) (by omega) (by omega)
theorem Du {L : List (List Int)} {s : Nat} : ∀ {d i : Nat}, clR L s i d = [] → ∀ t : Nat, i ≤ t → t < i + d → has L s t ≤ 1
 | 0, i, _, t, h1, h2 => by omega
 | d + 1, i, h, t, h1, h2 => by
  simp only [clR] at h
  obtain ⟨h3, h4⟩ := List.append_eq_nil_iff.1 h
  by_cases e : t = i
  ·subst e
   by_cases c : 1 < has L s t
   ·rw [if_pos c] at h3; cases h3
   ·omega
  ·exact Du h4 t (by omega) (by omega)
theorem Dw {K : Nat} {L : List (List Int)} : ∀ {d s : Nat}, clS K L s d = [] → ∀ u : Nat, s ≤ u → u < s + d → ∀ t : Nat, t < K → has L u t ≤ 1
 | 0, s, _, u, h1, h2, t, ht => by omega
 | d + 1, s, h, u, h1, h2, t, ht => by
  simp only [clS] at h
  obtain ⟨h3, h4⟩ := List.append_eq_nil_iff.1 h
  by_cases e : u = s
  ·subst e; exact Du h3 t (by omega) (by omega)
  ·exact Dw h4 u (by omega) (by omega) t ht
def gN (f : Nat → Nat) : Nat → Nat
 | 0 => 0
 | d + 1 => gN f d + f d
theorem wH {f g : Nat → Nat} {n : Nat} (h0 : g 0 = f (n - 1)) (h : ∀ j, 1 ≤ j → j < n → g j = f (j - 1)) : ∀ d, 1 ≤ d → d ≤ n → gN g d = f (n - 1) + gN f (d - 1)
 | 0, h1, _ => by omega
 | 1, _, _ => by simp [gN, h0]
 | d + 2, _, h2 => by
  have := wH h0 h (d + 1) (by omega) (by omega)
  show gN g (d + 1) + g (d + 1) = _
  rw [this, h (d + 1) (by omega) (by omega)]
  show f (n - 1) + gN f d + f d = f (n - 1) + (gN f d + f d)
  omega
theorem Kg {f g : Nat → Nat} {n : Nat} (h0 : g 0 = f (n - 1)) (h : ∀ j, 1 ≤ j → j < n → g j = f (j - 1)) : gN g n = gN f n := by
 cases n with
 | zero => rfl
 | succ n =>
  rw [wH h0 h (n + 1) (by omega) (Nat.le_refl _)]
  show f n + gN f n = gN f n + f n
  omega
theorem yK {f : Nat → Nat} (h : ∀ j, f j ≤ 1) : ∀ d, gN f d ≤ d
 | 0 => Nat.le_refl _
 | d + 1 => by have := yK h d; have := h d; show gN f d + f d ≤ d + 1; omega
theorem wJ {f : Nat → Nat} : ∀ {d : Nat}, (∀ j, j < d → f j = 0) → gN f d = 0
 | 0, _ => rfl
 | d + 1, h => by show gN f d + f d = 0; rw [wJ fun j hj => h j (by omega), h d (by omega)]
def fF (P : List Int) (j : Nat) : Nat := if rd P j = rd P (((j + 1) % P.length : Nat) : Int) then 0 else 1
def fB (P : List Int) (j : Nat) : Nat := if rd P j = rd P (((j + P.length - 1) % P.length : Nat) : Int) then 0 else 1
theorem OO (P : List Int) (j : Nat) : fF P j ≤ 1 := by unfold fF; split <;> omega
theorem ON (P : List Int) (j : Nat) : fB P j ≤ 1 := by unfold fB; split <;> omega
theorem eqc {a b : Int} : (if a = b then 0 else 1 : Nat) = if b = a then 0 else 1 := by
 by_cases e : a = b
 ·rw [if_pos e, if_pos e.symm]
 ·rw [if_neg e, if_neg fun h => e h.symm]
theorem Lt (P : List Int) : gN (fB P) P.length = gN (fF P) P.length := by
 by_cases h : P.length = 0
 ·rw [h]; rfl
 ·refine Kg ?_ fun j h1 h2 => ?_
  ·unfold fB fF
   rw [Nat.zero_add, Nat.mod_eq_of_lt (show P.length - 1 < P.length by omega), show P.length - 1 + 1 = P.length by omega, Nat.mod_self]
   exact eqc
  ·unfold fB fF
   rw [show j + P.length - 1 = (j - 1) + P.length by omega, Nat.add_mod_right, Nat.mod_eq_of_lt (show j - 1 < P.length by omega), show j - 1 + 1 = j by omega, Nat.mod_eq_of_lt h2]
   exact eqc
theorem Ay (a n : Nat) : Int.tmod (a : Int) (n : Int) = ((a % n : Nat) : Int) := by
 rw [Int.tmod_eq_emod_of_nonneg (by omega)]
 exact (Int.natCast_emod _ _).symm
theorem wD {k : Nat} {P : List Int} (hP : P.length ≤ 1000) : ∀ (d j m : Nat), j + d = P.length → d < m → aw.l2 k m P (gN (fF P) j : Nat) j = some (((gN (fF P) P.length : Nat) : Int), (0 : Int))
 | 0, j, m, hj, hm => by
  obtain rfl : j = P.length := by omega
  cases m with
  | zero => omega
  | succ m =>
   simp only [aw.l2, aw.s2]
   rw [if_neg (by omega)]
 | d + 1, j, m, hj, hm => by
  cases m with
  | zero => omega
  | succ m =>
   have next := wD (k := k) hP d (j + 1) m (by omega) (by omega)
   have hb := yK (OO P) j
   have hmod := Nat.mod_lt (j + 1) (show 0 < P.length by omega)
   simp only [aw.l2, aw.s2]
   rw [cu (show j ≤ 9223372036854775806 by omega), Ay, if_pos (by omega), if_pos (by omega), if_pos (by omega), if_neg (by omega), if_pos (by omega), if_pos (by omega), cu (by omega)]
   have es : gN (fF P) (j + 1) = gN (fF P) j + fF P j := rfl
   by_cases e : rd P j = rd P (((j + 1) % P.length : Nat) : Int)
   ·rw [if_pos e]
    rw [es, show fF P j = 0 from if_pos e] at next
    exact next
   ·rw [if_neg e]
    rw [es, show fF P j = 1 from if_neg e] at next
    exact next
theorem vK {k : Nat} {P : List Int} (hP : P.length ≤ 1000) : ∀ (d j m : Nat), j + d = P.length → d < m → aK.l1 k m P (gN (fB P) j : Nat) (P.length : Int) j = some (((gN (fB P) P.length : Nat) : Int), (0 : Int))
 | 0, j, m, hj, hm => by
  obtain rfl : j = P.length := by omega
  cases m with
  | zero => omega
  | succ m =>
   simp only [aK.l1, aK.s1]
   rw [if_neg (by omega)]
 | d + 1, j, m, hj, hm => by
  cases m with
  | zero => omega
  | succ m =>
   have next := vK (k := k) hP d (j + 1) m (by omega) (by omega)
   have hb := yK (ON P) j
   have hmod := Nat.mod_lt (j + P.length - 1) (show 0 < P.length by omega)
   have e0 : wrap64 ((j : Int) + (P.length : Int)) = ((j + P.length : Nat) : Int) := by rw [w64 (by omega) (by omega)]; omega
   have e1 : wrap64 (((j + P.length : Nat) : Int) - 1) = ((j + P.length - 1 : Nat) : Int) := by rw [w64 (by omega) (by omega)]; omega
   simp only [aK.l1, aK.s1]
   rw [e0, e1, Ay, if_pos (by omega), if_pos (by omega), if_pos (by omega), if_neg (by omega), if_pos (by omega), if_pos (by omega), cu (show j ≤ 9223372036854775806 by omega), cu (by omega)]
   have es : gN (fB P) (j + 1) = gN (fB P) j + fB P j := rfl
   by_cases e : rd P j = rd P (((j + P.length - 1) % P.length : Nat) : Int)
   ·rw [if_pos e]
    rw [es, show fB P j = 0 from if_pos e] at next
    exact next
   ·rw [if_neg e]
    rw [es, show fB P j = 1 from if_neg e] at next
    exact next
def hnd (L : List (List Int)) (i : Int) : Nat := gN (fF (plS L i 0 (L.getD 0 []).length)) (plS L i 0 (L.getD 0 []).length).length
def hdT (K : Int) (L : List (List Int)) (i : Int) : Int × Int := if fc K L = true then (if 0 ≤ i ∧ i ≤ wrap64 (K - 1) then (if 0 < (jm K.toNat L).length then (0, 5) else ((hnd L i : Nat), 0)) else (0, 2)) else (0, 2)
theorem p9 {k : Nat} {L : List (List Int)} (hk : 2097152 ≤ k) (hL : Lb L) (K i : Int) : aw.f k K L i = some (hdT K L i) := by
 unfold aw.f aw.g hdT
 rw [lQ hk hL, Option.bind_some]
 by_cases e : fc K L = true
 ·obtain ⟨K', rfl, C⟩ := nh e
  rw [if_pos e, if_pos e, jO, Option.bind_some]
  by_cases e2 : 0 ≤ i ∧ i ≤ wrap64 ((K' : Int) - 1)
  ·rw [if_neg (by rw [decide_eq_true e2]; decide), if_pos e2, jD hk C, Option.bind_some, Int.toNat_natCast]
   by_cases e3 : 0 < (jm K' L).length
   ·rw [if_pos (decide_eq_true (by omega)), if_pos e3]
   ·rw [if_neg (by rw [decide_eq_true_eq]; omega), if_neg e3]
    have hl := C.l; have hn := C.n1
    have hsl : ∀ s : Nat, s ≤ (L.getD 0 []).length → s * L.length ≤ 480 := fun s hs => Nat.mul_le_mul (show s ≤ 120 by omega) (show L.length ≤ 4 by omega)
    have in1 : ∀ {r0 : (List (List Int)) → Int → (List Int) → Int → Option (Int × Int)} {s : Nat} (hs : s < (L.getD 0 []).length) (d c m : Nat) (P : List Int), c + d = L.length → d < m → P.length ≤ 480 + c → aw.l1 k r0 m L i P s c = r0 L i (P ++ plR L s i c d) ((s + 1 : Nat) : Int) := by
     intro r0 s hs d
     induction d with
     | zero =>
      intro c m P hc hm hp
      cases m with
      | zero => omega
      | succ m =>
       simp only [aw.l1, aw.s1, plR]
       rw [if_neg (by omega), cu (by omega), List.append_nil]
     | succ d ih =>
      intro c m P hc hm hp
      cases m with
      | zero => omega
      | succ m =>
       have h1 := C.row.at (show c < L.length by omega)
       simp only [aw.l1, aw.s1, plR]
       rw [if_pos (by omega), if_pos (by omega), if_pos (by omega), if_pos (by omega), dE, if_pos (by omega), cu (show c ≤ 9223372036854775806 by omega)]
       by_cases e : rd (L.getD c []) s = i
       ·rw [if_pos e, if_pos e, if_pos (by omega), ih (c + 1) m _ (by omega) (by omega) (by rw [List.length_append]; simp; omega), List.append_assoc]
       ·rw [if_neg e, if_neg e, ih (c + 1) m _ (by omega) (by omega) (by omega), List.nil_append]
    have in0 : ∀ (d s m : Nat) (P : List Int), s + d = (L.getD 0 []).length → d < m → P.length ≤ s * L.length → aw.l0 k m L i P s = some (((gN (fF (P ++ plS L i s d)) (P ++ plS L i s d).length : Nat) : Int), (0 : Int)) := by
     intro d
     induction d with
     | zero =>
      intro s m P hs hm hp
      have := hsl s (by omega)
      cases m with
      | zero => omega
      | succ m =>
       simp only [aw.l0, aw.s0, plS]
       rw [if_pos (by omega), show cP ([] : List Int) L 0 = L.getD 0 [] from dE L 0, if_neg (by omega), List.append_nil]
       exact wD (k := k) (by omega) P.length 0 k (by omega) (by omega)
     | succ d ih =>
      intro s m P hs hm hp
      have := hsl s (by omega)
      have := yq L s i L.length 0
      cases m with
      | zero => omega
      | succ m =>
       simp only [aw.l0, aw.s0, plS]
       rw [if_pos (by omega), show cP ([] : List Int) L 0 = L.getD 0 [] from dE L 0, if_pos (by omega)]
       refine Eq.trans (in1 (r0 := aw.l0 k m) (show s < (L.getD 0 []).length by omega) L.length 0 k P (by omega) (by omega) (by omega)) ?_
       rw [ih (s + 1) m _ (by omega) (by omega) (by rw [List.length_append, Nat.add_mul, Nat.one_mul]; omega), List.append_assoc]
    have := in0 (L.getD 0 []).length 0 k [] (by omega) (by omega) (by simp)
    rw [List.nil_append] at this
    exact this
  ·rw [if_pos (by rw [decide_eq_false e2]; decide), if_neg e2]
 ·rw [if_neg e, if_neg e]
theorem pJ {k : Nat} {L : List (List Int)} (hk : 2097152 ≤ k) (hL : Lb L) (K i : Int) : aK.f k K L i = some (hdT K L i) := by
 unfold aK.f aK.g hdT
 rw [fI hk hL, Option.bind_some]
 by_cases e : fc K L = true
 ·obtain ⟨K', rfl, C⟩ := nh e
  rw [if_pos e, if_pos e, gJ, Option.bind_some]
  by_cases e2 : 0 ≤ i ∧ i ≤ wrap64 ((K' : Int) - 1)
  ·rw [if_neg (by rw [decide_eq_true e2]; decide), if_pos e2, js hk C, Option.bind_some, Int.toNat_natCast]
   by_cases e3 : 0 < (jm K' L).length
   ·rw [if_pos (decide_eq_true (by omega)), if_pos e3]
   ·have hl := C.l; have hn := C.n1; have hk8 := C.k
    rw [if_neg (by rw [decide_eq_true_eq]; omega), if_neg e3, if_pos (by omega), show cP ([] : List Int) L 0 = L.getD 0 [] from dE L 0]
    have hnil : clS K' L 0 (L.getD 0 []).length = [] := List.eq_nil_of_length_eq_zero (by unfold jm at e3; omega)
    rw [w64 (x := (K' : Int) - 1) (by omega) (by omega)] at e2
    obtain ⟨i', rfl⟩ := Int.eq_ofNat_of_zero_le e2.1
    have hsl : ∀ s : Nat, s ≤ (L.getD 0 []).length → s * L.length ≤ 480 := fun s hs => Nat.mul_le_mul (show s ≤ 120 by omega) (show L.length ≤ 4 by omega)
    have in0 : ∀ (d s m : Nat) (P : List Int), s + d = (L.getD 0 []).length → d < m → P.length ≤ s * L.length → aK.l0 k m L (i' : Int) P ((L.getD 0 []).length : Int) s = some (((gN (fF (P ++ plS L i' s d)) (P ++ plS L i' s d).length : Nat) : Int), (0 : Int)) := by
     intro d
     induction d with
     | zero =>
      intro s m P hs hm hp
      have := hsl s (by omega)
      cases m with
      | zero => omega
      | succ m =>
       simp only [aK.l0, aK.s0, plS]
       rw [if_neg (by omega), List.append_nil, ← Lt]
       exact vK (k := k) (by omega) P.length 0 k (by omega) (by omega)
     | succ d ih =>
      intro s m P hs hm hp
      have := hsl s (by omega)
      have hpl := yq L s i' L.length 0
      cases m with
      | zero => omega
      | succ m =>
       have hh := Dw hnil s (by omega) (by omega) i' (by omega)
       obtain ⟨j, h1, h2⟩ := vG (k := k) C.row (by omega) (show s < (L.getD 0 []).length by omega) (i := (i' : Int)) L.length 0 k (by omega) (by omega) (by rw [List.drop_zero]; exact hh)
       have h1 : aj.f k L ((s : Int), (i' : Int)) = some j := h1
       simp only [aK.l0, aK.s0, plS]
       rw [if_pos (by omega), h1, Option.bind_some, cu (by omega)]
       rcases h2 with ⟨h2, h3⟩ | ⟨h2, h3⟩
       ·rw [if_neg (by omega), h3, List.nil_append]
        exact ih (s + 1) m P (by omega) (by omega) (by rw [Nat.add_mul, Nat.one_mul]; omega)
       ·rw [if_pos h2, if_pos (by omega), h3, ← List.append_assoc]
        exact ih (s + 1) m _ (by omega) (by omega) (by rw [List.length_append, Nat.add_mul, Nat.one_mul]; simp; omega)
    have := in0 (L.getD 0 []).length 0 k [] (by omega) (by omega) (by simp)
    rw [List.nil_append] at this
    exact this
  ·rw [if_pos (by rw [decide_eq_false e2]; decide), if_neg e2]
 ·rw [if_neg e, if_neg e]
theorem JF {K i : Int} {L : List (List Int)} (h : L.length = 1) : (hdT K L i).1 = 0 := by
 have hz : hnd L i = 0 := by
  unfold hnd
  refine wJ fun j hj => ?_
  have hb : ∀ u : Nat, u < (plS L i 0 (L.getD 0 []).length).length → rd (plS L i 0 (L.getD 0 []).length) u = 0 := fun u hu => by
   have := Em (fq hu); omega
  unfold fF
  rw [hb j hj, hb _ (Nat.mod_lt _ (by omega)), if_pos rfl]
 unfold hdT
 rw [hz]
 split
 ·split
  ·split <;> rfl
  ·rfl
 ·rfl
def sc (n i : Nat) : Nat := (i + 1) % n
theorem HX {n i : Nat} (h : 1 ≤ n) : sc n i < n := Nat.mod_lt _ h
theorem Pt {n i : Nat} (h : i < n) : sc n i = if i + 1 < n then i + 1 else 0 := by
 unfold sc
 by_cases c : i + 1 < n
 ·rw [if_pos c, Nat.mod_eq_of_lt c]
 ·rw [if_neg c, show i + 1 = n by omega, Nat.mod_self]
def LC : List Int → Int
 | [] => 0
 | f :: Q => fK f Q
theorem tP {cs : List Int} {t : Int} {i : Nat} : ∀ (d : Nat), ∃ R, places cs t (i + d) = places cs t i ++ R ∧ ∀ x ∈ R, (i : Int) ≤ x
 | 0 => ⟨[], by simp, by simp⟩
 | d + 1 => by
  obtain ⟨R, h1, h2⟩ := tP (cs := cs) (t := t) (i := i) d
  show ∃ R, (if rd cs ((i + d : Nat) : Int) = t then places cs t (i + d) ++ [((i + d : Nat) : Int)] else places cs t (i + d)) = places cs t i ++ R ∧ ∀ x ∈ R, (i : Int) ≤ x
  by_cases c : rd cs ((i + d : Nat) : Int) = t
  ·rw [if_pos c]
   refine ⟨R ++ [((i + d : Nat) : Int)], by rw [h1, List.append_assoc], fun x hx => ?_⟩
   rcases List.mem_append.1 hx with hx | hx
   ·exact h2 x hx
   ·simp only [List.mem_singleton] at hx; omega
  ·rw [if_neg c]; exact ⟨R, h1, h2⟩
theorem DA : ∀ (Q R : List Int) (f q : Int), q - fK f Q ∈ dif f (Q ++ q :: R)
 | [], R, f, q => by simp [dif, fK]
 | b :: Q, R, f, q => List.mem_cons_of_mem _ (DA Q R b q)
def left (cs : List Int) (t g : Int) (j : Nat) : Int := g - (if (places cs t (j + 1)).length = 0 then j + cs.length - LC (places cs t cs.length) else j - LC (places cs t (j + 1)))
theorem G3 {cs : List Int} {t g : Int} {j : Nat} (hok : okT cs t g = true) (hj : j < cs.length) : 1 ≤ left cs t g j ∧ left cs t g j ≤ g := by
 obtain ⟨o1, o2⟩ := of_decide_eq_true hok
 have o3 := (GV.1 o2).2
 have hb := fW cs t cs.length
 obtain ⟨R, h1, h2⟩ := tP (cs := cs) (t := t) (i := j + 1) (cs.length - (j + 1))
 rw [show j + 1 + (cs.length - (j + 1)) = cs.length by omega] at h1
 have hbj := fW cs t (j + 1)
 unfold wait at o1 o3
 unfold left
 cases hP : places cs t (j + 1) with
 | nil =>
  rw [hP, List.nil_append] at h1
  rw [if_pos List.length_nil]
  cases R with
  | nil => rw [h1] at o1; exact absurd o1 (by simp [wts])
  | cons f Q =>
   rw [h1] at o3 hb
   have q1 := o3 ((cs.length : Int) - fK f Q + f) (List.mem_append_right _ (by simp))
   have q2 := h2 f (by simp)
   have q3 := hb _ (ki Q f)
   rw [h1]
   show 1 ≤ g - ((j : Int) + cs.length - fK f Q) ∧ g - ((j : Int) + cs.length - fK f Q) ≤ g
   omega
 | cons f Q =>
  rw [hP] at h1 hbj
  rw [if_neg (by simp)]
  have q3 := hbj _ (ki Q f)
  have q4 := hbj f (by simp)
  show 1 ≤ g - ((j : Int) - fK f Q) ∧ g - ((j : Int) - fK f Q) ≤ g
  cases R with
  | nil =>
   rw [List.append_nil] at h1
   rw [h1] at o3
   have q1 := o3 ((cs.length : Int) - fK f Q + f) (List.mem_append_right _ (by simp))
   omega
  | cons q R =>
   rw [h1] at o3
   have q1 := o3 (q - fK f Q) (List.mem_append_left _ (DA Q R f q))
   have q2 := h2 q (by simp)
   omega
theorem left_at {cs : List Int} {t g : Int} {j : Nat} (h : rd cs j = t) : left cs t g j = g := by
 have e : places cs t (j + 1) = places cs t j ++ [(j : Int)] := if_pos h
 have e2 : LC (places cs t j ++ [(j : Int)]) = j := by
  cases places cs t j with
  | nil => rfl
  | cons f Q => exact pL Q f j
 unfold left
 rw [e, if_neg (by simp), e2]; omega
theorem FC {cs : List Int} {t g : Int} {j : Nat} (hok : okT cs t g = true) (hj : j < cs.length) : left cs t g (sc cs.length j) = if rd cs (sc cs.length j : Nat) = t then g else left cs t g j - 1 := by
 by_cases c : rd cs (sc cs.length j : Nat) = t
 ·rw [if_pos c]; exact left_at c
 ·rw [if_neg c]
  rw [Pt hj] at c ⊢
  by_cases c2 : j + 1 < cs.length
  ·rw [if_pos c2] at c ⊢
   have e : places cs t (j + 1 + 1) = places cs t (j + 1) := if_neg c
   unfold left
   rw [e]
   split
   ·push_cast; omega
   ·push_cast; omega
  ·rw [if_neg c2] at c ⊢
   have e : places cs t (0 + 1) = [] := if_neg c
   have ej : j + 1 = cs.length := by omega
   obtain ⟨o1, _⟩ := of_decide_eq_true hok
   unfold wait at o1
   rw [yP] at o1
   unfold left
   rw [e, ej, if_pos List.length_nil, if_neg (by omega)]
   omega
theorem getD_set_ne {L : List Bool} {i j : Nat} {b : Bool} (h : i ≠ j) : (L.set i b).getD j false = L.getD j false := by
 rw [List.getD_eq_getElem?_getD, List.getD_eq_getElem?_getD, List.getElem?_set_ne h]
theorem rG {g : List Bool → Nat → Bool} {X : Nat → Prop} (hg : ∀ L, (∀ v, X v → L.getD v false = true) → ∀ v, X v → g L v = true) : ∀ (d i : Nat) (L : List Bool) (ch : Bool), (∀ v, X v → L.getD v false = true) → ∀ v, X v → (swp g d i L ch).1.getD v false = true
 | 0, i, L, ch, h => h
 | d + 1, i, L, ch, h => by
  by_cases hb : L.getD i false = true
  ·by_cases hgg : g L i = true
   ·rw [mq hb hgg]; exact rG hg d (i + 1) L ch h
   ·rw [o6 hb hgg]
    refine rG hg d (i + 1) _ true fun v hv => ?_
    rw [getD_set_ne (fun e => hgg (by rw [e]; exact hg L h v hv))]
    exact h v hv
  ·rw [o7 _ _ _ _ _ hb]; exact rG hg d (i + 1) L ch h
theorem DI {g : List Bool → Nat → Bool} {X : Nat → Prop} (hg : ∀ L, (∀ v, X v → L.getD v false = true) → ∀ v, X v → g L v = true) : ∀ (n : Nat) (L L' : List Bool) (ch : Bool), j5 g n L ch = some L' → (∀ v, X v → L.getD v false = true) → ∀ v, X v → L'.getD v false = true
 | 0, _, _, _, h, _ => by cases h
 | n + 1, L, L', false, h, hx => by
  obtain rfl : L = L' := by simpa [j5] using h
  exact hx
 | n + 1, L, L', true, h, hx => by
  have h' : j5 g n (swp g L.length 0 L false).1 (swp g L.length 0 L false).2 = some L' := by simpa [j5] using h
  exact DI hg n _ L' _ h' (rG hg _ _ _ _ hx)
def mk (p : Nat → Bool) : Nat → Nat
 | 0 => 0
 | d + 1 => mk p d ||| (if p d = true then 2 ^ d else 0)
theorem KP (p : Nat → Bool) : ∀ d, mk p d < 2 ^ d
 | 0 => Nat.one_pos
 | d + 1 => by
  have h := KP p d
  have h2 : 2 ^ d < 2 ^ (d + 1) := Nat.pow_lt_pow_right (by omega) (by omega)
  unfold mk
  refine Nat.or_lt_two_pow (by omega) ?_
  split <;> omega
theorem BS (p : Nat → Bool) : ∀ d i, (mk p d).testBit i = (decide (i < d) && p i)
 | 0, i => by simp [mk]
 | d + 1, i => by
  unfold mk
  rw [Nat.testBit_or, BS p d i]
  by_cases e : p d = true
  ·rw [if_pos e, Nat.testBit_two_pow]
   by_cases c : d = i
   ·subst c; simp [e]
   ·rw [decide_eq_false c, Bool.or_false, show decide (i < d) = decide (i < d + 1) from decide_eq_decide.2 (by omega)]
  ·rw [if_neg e, Nat.zero_testBit, Bool.or_false]
   by_cases c : d = i
   ·subst c; simp [e]
   ·rw [show decide (i < d) = decide (i < d + 1) from decide_eq_decide.2 (by omega)]
def hasB (L : List (List Int)) (s : Nat) (i : Nat) : Bool := decide (0 < has L s (i : Int))
def yM (L : List (List Int)) (n s : Nat) : Nat := mk (hasB L s) n
theorem GJ (L : List (List Int)) (s e : Nat) : (L.countP fun r => decide (0 ≤ rd r s ∧ rd r s < ((e + 1 : Nat) : Int))) = (L.countP fun r => decide (0 ≤ rd r s ∧ rd r s < (e : Int))) + has L s (e : Int) := by
 unfold has
 induction L with
 | nil => rfl
 | cons r L ih =>
  rw [List.countP_cons, List.countP_cons, List.countP_cons, ih]
  simp only [decide_eq_true_eq]
  by_cases c : rd r s = (e : Int)
  ·rw [if_pos (by omega), if_neg (by omega), if_pos c]; omega
  ·rw [if_neg c]
   by_cases c2 : 0 ≤ rd r s ∧ rd r s < (e : Int)
   ·rw [if_pos (by omega), if_pos c2]; omega
   ·rw [if_neg (by omega), if_neg c2]; omega
theorem Az (L : List (List Int)) (n s : Nat) : ∀ e : Nat, ((List.range e).filter fun i => (yM L n s).testBit i).length ≤ L.countP fun r => decide (0 ≤ rd r s ∧ rd r s < (e : Int))
 | 0 => by simp
 | e + 1 => by
  have h := Az L n s e
  rw [List.range_succ, List.filter_append, List.length_append, GJ]
  refine Nat.add_le_add h ?_
  by_cases c : (yM L n s).testBit e = true
  ·have h2 : (yM L n s).testBit e = (decide (e < n) && hasB L s e) := BS _ _ _
   rw [h2, Bool.and_eq_true] at c
   have h3 : 0 < has L s (e : Int) := of_decide_eq_true c.2
   have := List.length_filter_le (fun i => (yM L n s).testBit i) [e]
   simp only [List.length_singleton] at this
   omega
  ·rw [List.filter_cons, if_neg c, List.filter_nil]; simp
theorem F4 (L : List (List Int)) (n s : Nat) : j7 (yM L n s) ≤ L.length := Nat.le_trans (Az L n s 8) List.countP_le_length
theorem wF {x : Nat} : ∀ {j : Nat} {G S T : List Int}, S.length = G.length → T.length = G.length → (∀ t : Nat, t < G.length → (x.testBit (j + t) = true → rd T t = rd G t) ∧ (x.testBit (j + t) = false → 2 ≤ rd S t ∧ rd T t = rd S t - 1)) → eH x j G S = some T
 | j, [], [], [], _, _, _ => rfl
 | j, g :: G, s :: S, u :: T, h1, h2, h => by
  have ih := wF (x := x) (j := j + 1) (G := G) (S := S) (T := T) (by simpa using h1) (by simpa using h2) (fun t ht => by
   have := h (t + 1) (by simpa using ht)
   rw [kS, kS, kS, show j + (t + 1) = j + 1 + t by omega] at this
   exact this)
  have h0 := h 0 (by simp)
  have z : ∀ (a : Int) (l : List Int), rd (a :: l) ((0 : Nat) : Int) = a := fun a l => rfl
  rw [z, z, z, Nat.add_zero] at h0
  unfold eH
  cases e : x.testBit j with
  | true => rw [if_pos rfl, ih, ← h0.1 e]; rfl
  | false =>
   obtain ⟨a1, a2⟩ := h0.2 e
   rw [if_neg (by decide), if_neg (by omega), ih, a2]; rfl
 | j, [], _ :: _, _, h, _, _ => by simp at h
 | j, [], [], _ :: _, _, h, _ => by simp at h
 | j, _ :: _, [], _, h, _, _ => by simp at h
 | j, _ :: _, _ :: _, [], _, h, _ => by simp at h
theorem GU {G T : List Int} {m : Int} {L : List Bool} {v x : Nat} (hx : x < 2 ^ G.length) (hm : (j7 x : Int) ≤ m) (hs : iM G (ofN G (v : Int)) x = some T) (hL : L.getD (num G T).toNat false = true) : gb G m L v = true := by
 unfold gb iF
 rw [List.find?_isSome]
 refine ⟨((x : Int), num G T), List.mem_filterMap.2 ⟨x, List.mem_filter.2 ⟨List.mem_range'.2 ⟨x, hx, by omega⟩, decide_eq_true hm⟩, ?_⟩, hL⟩
 unfold opE
 rw [hs]; rfl
theorem FA {G : List Int} {m : Int} (h : isT G = true) (hc : cnt G ≤ 4000) {X : Nat → Prop} (hX : ∀ v, X v → (v : Int) < cnt G) (hg : ∀ v, X v → ∃ x T, x < 2 ^ G.length ∧ (j7 x : Int) ≤ m ∧ iM G (ofN G (v : Int)) x = some T ∧ X (num G T).toNat) : ∀ v, X v → (fo G m).getD v false = true := by
 obtain ⟨h1, _⟩ := kj (m := m) (k := 4003) h hc (Nat.le_refl _)
 refine DI (g := gb G m) (X := X) (fun L hL v hv => ?_) 4003 _ _ true h1 (fun v hv => ?_)
 ·obtain ⟨x, T, hx, hm, hs, hxt⟩ := hg v hv
  exact GU hx hm hs (hL _ hxt)
 ·have := hX v hv
  rw [List.getD_eq_getElem?_getD, List.getElem?_replicate, if_pos (by omega)]; rfl
theorem Jv {G : List Int} {n K : Nat} {L : List (List Int)} (h : isT G = true) (hc : cnt G ≤ 4000) (C : Ch K n L) (hok : ∀ t : Nat, t < G.length → okT (iD L n t) t (rd G t) = true) : uZ G (L.length : Int) = true := by
 have hn := C.n1
 have hG := cF h
 have hcp := dO hG
 have hlen : ∀ t : Nat, (iD L n (t : Int)).length = n := fun t => mr L n t
 have lb : ∀ (t : Nat) (j : Nat), t < G.length → j < n → 1 ≤ left (iD L n t) t (rd G t) j ∧ left (iD L n t) t (rd G t) j ≤ rd G t := fun t j ht hj => G3 (hok t ht) (by rw [hlen]; exact hj)
 have ln : ∀ (t : Nat) (j : Nat), t < G.length → j < n → left (iD L n t) t (rd G t) (sc n j) = if 0 < has L (sc n j) t then rd G t else left (iD L n t) t (rd G t) j - 1 := fun t j ht hj => by
  have := FC (hok t ht) (show j < (iD L n (t : Int)).length by rw [hlen]; exact hj)
  rw [hlen, Ki L (HX hn.1)] at this
  rw [this]
  by_cases c : 0 < has L (sc n j) t
  ·rw [if_pos c, if_pos rfl, if_pos c]
  ·rw [if_neg c, if_neg (by omega), if_neg c]
 have key := FA (m := (L.length : Int)) (X := fun v => (v : Int) < cnt G ∧ ∃ j, j < n ∧ ∀ t : Nat, t < G.length → left (iD L n t) t (rd G t) j ≤ rd (ofN G (v : Int)) t) h hc (fun v hv => hv.1) (fun v hv => by
  obtain ⟨hv1, j, hj, hd⟩ := hv
  have hst := kN (v : Int) hG
  have hsl := hst.length
  have hbit : ∀ t : Nat, t < G.length → (yM L G.length (sc n j)).testBit t = decide (0 < has L (sc n j) (t : Int)) := fun t ht => by
   have h2 : (yM L G.length (sc n j)).testBit t = (decide (t < G.length) && hasB L (sc n j) t) := BS _ _ _
   rw [h2, decide_eq_true ht, Bool.true_and]; rfl
  let T : List Int := (List.range G.length).map fun t : Nat => if 0 < has L (sc n j) (t : Int) then rd G t else rd (ofN G (v : Int)) t - 1
  have hTl : T.length = G.length := by simp [T]
  have hTr : ∀ t : Nat, t < G.length → rd T t = if 0 < has L (sc n j) (t : Int) then rd G t else rd (ofN G (v : Int)) t - 1 := fun t ht => by
   rw [eY, List.getD_eq_getElem?_getD]
   simp only [T]
   rw [List.getElem?_map, List.getElem?_range ht]; rfl
  have hstep : iM G (ofN G (v : Int)) (yM L G.length (sc n j)) = some T := by
   unfold iM
   refine wF hsl hTl fun t ht => ?_
   rw [Nat.zero_add, hbit t ht, hTr t ht]
   have a1 := lb t (sc n j) ht (HX hn.1)
   have a2 := ln t j ht hj
   have a3 := hd t ht
   refine ⟨fun e => if_pos (of_decide_eq_true e), fun e => ?_⟩
   have e := of_decide_eq_false e
   rw [if_neg e] at a2 ⊢
   omega
  have hT := o4 hG hst hstep
  obtain ⟨n1, n2⟩ := jR hG hT
  refine ⟨yM L G.length (sc n j), T, KP _ _, by have := F4 L G.length (sc n j); omega, hstep, by omega, sc n j, HX hn.1, fun t ht => ?_⟩
  rw [show ((num G T).toNat : Int) = num G T by omega, ym hG hT, hTr t ht, ln t j ht hj]
  have a3 := hd t ht
  split <;> omega)
 unfold uZ
 refine key _ ⟨by omega, 0, by omega, fun t ht => ?_⟩
 rw [show ((cnt G - 1).toNat : Int) = cnt G - 1 by omega, vU h]
 exact (lb t 0 ht (by omega)).2
theorem JW {G : List Int} {K n : Nat} {L : List (List Int)} (C : Ch K n L) {t : Nat} (h : okW G L t = true) : okT (iD L n t) t (rd G t) = true := by
 obtain ⟨h1, h2⟩ := of_decide_eq_true h
 unfold gw at h1 h2
 rw [C.hd] at h1 h2
 refine decide_eq_true ⟨?_, h2⟩
 cases hw : wait (iD L n (t : Int)) (t : Int) with
 | nil => rw [hw] at h1; exact absurd rfl h1
 | cons a l => simp
theorem Ar {G : List Int} {L : List (List Int)} : ∀ {d i : Nat}, m6 G L i d = true ↔ ∀ t : Nat, i ≤ t → t < i + d → okW G L t = true
 | 0, i => by simp only [m6, true_iff]; intro t h1 h2; omega
 | d + 1, i => by
  simp only [m6, Bool.and_eq_true]
  rw [Ar (d := d)]
  constructor
  ·rintro ⟨h1, h2⟩ t h3 h4
   by_cases e : t = i
   ·rw [e]; exact h1
   ·exact h2 t (by omega) (by omega)
  ·intro h
   exact ⟨h i (by omega) (by omega), fun t h1 h2 => h t (by omega) (by omega)⟩
theorem Ih {G : List Int} {L : List (List Int)} (h : (svT G L).2 = 0) : isT G = true ∧ fc (G.length : Int) L = true ∧ svT G L = (m6 G L 0 G.length, 0) := by
 unfold svT at h ⊢
 by_cases e : isT G = true
 ·rw [if_pos e] at h ⊢
  by_cases e2 : fc (G.length : Int) L = true
  ·rw [if_pos e2] at h ⊢
   by_cases e3 : 0 < (jm G.length L).length
   ·rw [if_pos e3] at h; cases h
   ·rw [if_neg e3]; exact ⟨e, e2, rfl⟩
  ·rw [if_neg e2] at h; cases h
 ·rw [if_neg e] at h; cases h
theorem Nt {G : List Int} {L : List (List Int)} (h : (svT G L).2 ≠ 0) : (svT G L).1 = false := by
 unfold svT at h ⊢
 split
 ·split
  ·split
   ·rfl
   ·rename_i a b c; rw [if_pos a, if_pos b, if_neg c] at h; exact absurd rfl h
  ·rfl
 ·rfl
theorem GH {k : Nat} {G : List Int} {L : List (List Int)} (hk : 2097152 ≤ k) (hG : G.length ≤ 1048576) (hL : Lb L) (h : (svT G L).2 = 0) : bh.l0 k k G L (svT G L).1 true 0 = some true := by
 obtain ⟨e, e2, e3⟩ := Ih h
 rw [e3]
 obtain ⟨K', q, C⟩ := nh e2
 obtain rfl : G.length = K' := by omega
 have hg := cB e
 have key : ∀ (d i n : Nat) (a : Bool), i + d = G.length → d < n → bh.l0 k n G L (m6 G L 0 G.length) a i = bh.l0 k (n - d) G L (m6 G L 0 G.length) (a && m6 G L i d) (G.length : Nat) := by
  intro d
  induction d with
  | zero =>
   intro i n a hi hn
   obtain rfl : i = G.length := by omega
   simp only [m6, Bool.and_true, Nat.sub_zero]
  | succ d ih =>
   intro i n a hi hn
   cases n with
   | zero => omega
   | succ n =>
    have hw : wtT (G.length : Int) L (i : Int) = (gw L i, 0) := by
     unfold wtT
     rw [if_pos e2, if_pos (by rw [w64 (by omega) (by omega)]; omega)]
    rw [show n + 1 - (d + 1) = n - d by omega]
    have next := fun b => ih (i + 1) n b (by omega) (by omega)
    simp only [m6]
    conv => lhs; simp only [bh.l0, bh.s0]
    rw [if_pos (by omega), kX hk hL, hw, Option.bind_some, if_pos rfl, cu (by omega)]
    have hnn : 0 ≤ gw L (i : Int) := BG _
    cases a with
    | true =>
     rw [if_pos rfl, Bool.true_and]
     by_cases c : 0 < gw L (i : Int)
     ·rw [if_pos c, if_pos (by omega), if_pos (by omega), next]
      have : okW G L i = decide (gw L (i : Int) ≤ rd G i) := by
       unfold okW
       rw [decide_eq_decide]; omega
      rw [this]
     ·rw [if_neg c, next, Hh (by omega)]
    | false =>
     rw [if_neg (by decide), next, Bool.false_and, Bool.false_and]
 have h0 := key G.length 0 k true (by omega) (by omega)
 rw [Int.natCast_zero] at h0
 rw [h0, Bool.true_and]
 obtain ⟨m, hm⟩ : ∃ m, k - G.length = m + 1 := ⟨k - G.length - 1, by omega⟩
 rw [hm]
 simp only [bh.l0, bh.s0]
 rw [if_neg (by omega), if_pos trivial]
 by_cases s : m6 G L 0 G.length = true
 ·rw [if_pos s, ou hk hG, Option.bind_some]
  unfold Bx
  by_cases c8 : jn G (L.length : Int) = 0
  ·obtain ⟨-, -, hc⟩ := jo c8
   rw [if_pos c8, if_pos rfl, Jv e hc C fun t ht => JW C (Ar.1 s t (by omega) (by omega))]
  ·rw [if_neg c8, if_neg c8]
 ·rw [if_neg s]
theorem law_FnChannels {k : Nat} {l : List Int} (hk : 2097152 ≤ k) (hb : ∀ x ∈ l, 0 ≤ x ∧ x ≤ 255) : bh.f k l = some true := by
 unfold bh.f bh.g tq.f
 rw [Option.bind_some]
 by_cases hbig : 4096 < (l.length : Int)
 ·rw [if_pos (decide_eq_true hbig)]
 rw [if_neg (by simpa using hbig)]
 obtain ⟨⟨G, L⟩, e1, hG, hL⟩ := nU hk hb (show l.length ≤ 4096 by omega)
 obtain ⟨⟨K, Y, i⟩, e2, hY⟩ := ta hk hb (show l.length ≤ 4096 by omega)
 simp only at hG hL hY
 have fin : (if (svT G L).2 = 0 then bh.l0 k k G L (svT G L).1 true 0 else some (!decide ((svT G L).1 = true))) = some true := by
  by_cases c : (svT G L).2 = 0
  ·rw [if_pos c]; exact GH hk (by omega) hL c
  ·rw [if_neg c, Nt c]; rfl
 have hcl : cd.f k (clT K Y).1 (clT K Y).1 = some true := by
  unfold clT
  by_cases e : fc K Y = true
  ·obtain ⟨K', rfl, C⟩ := nh e
   rw [if_pos e]
   have h1 := Dv K' Y (Y.getD 0 []).length 0
   have hk8 := C.k; have hn := C.n1
   have h2 : (Y.getD 0 []).length * K' ≤ 120 * 8 := Nat.mul_le_mul (by omega) (by omega)
   refine uf hk (by rw [Int.toNat_natCast]; show (clS K' Y 0 (Y.getD 0 []).length).length ≤ 1048576; omega) fun r hr => ?_
   rw [Int.toNat_natCast] at hr
   have hr : r ∈ clS K' Y 0 (Y.getD 0 []).length := hr
   have hR : ∀ (s d i : Nat), r ∈ clR Y s i d → r.length = 2 := by
    intro s d
    induction d with
    | zero => intro i h; cases h
    | succ d ih =>
     intro i h
     simp only [clR] at h
     rcases List.mem_append.1 h with h | h
     ·split at h
      ·rw [List.mem_singleton.1 h]; rfl
      ·cases h
     ·exact ih _ h
   have hS : ∀ (d s : Nat), r ∈ clS K' Y s d → r.length = 2 := by
    intro d
    induction d with
    | zero => intro i h; cases h
    | succ d ih =>
     intro s h
     simp only [clS] at h
     rcases List.mem_append.1 h with h | h
     ·exact hR _ _ _ h
     ·exact ih _ h
   have := hS _ _ hr
   omega
  ·rw [if_neg e]; exact uf hk (by simp) (by simp)
 unfold gY.f g5.f
 simp only [e1, e2, Option.bind_some, qQ hk (show G.length ≤ 1048576 by omega) hL, rb hk (show G.length ≤ 1048576 by omega) hL, pJ hk hY, p9 hk hY, kX hk hY, re hk hY, pI hk hY, p8 hk hY, hcl, fI hk hY, lQ hk hY, if_true]
 by_cases w0 : (wtT K Y i).2 = 0
 ·rw [if_pos w0]
  have hch : fc K Y = true ∧ 0 ≤ i ∧ i ≤ wrap64 (K - 1) := by
   unfold wtT at w0
   by_cases e : fc K Y = true
   ·rw [if_pos e] at w0
    by_cases e2 : 0 ≤ i ∧ i ≤ wrap64 (K - 1)
    ·exact ⟨e, e2⟩
    ·rw [if_neg e2] at w0; cases w0
   ·rw [if_neg e] at w0; cases w0
  have hc0 : clT K Y = (jm K.toNat Y, 0) := if_pos hch.1
  have hh : decide ((hdT K Y i).2 = 0) = decide (((clT K Y).1.length : Int) = 0) := by
   unfold hdT
   rw [hc0, if_pos hch.1, if_pos hch.2]
   by_cases c : 0 < (jm K.toNat Y).length
   ·rw [if_pos c, decide_eq_false (by decide), decide_eq_false (by simp only; omega)]
   ·rw [if_neg c, decide_eq_true rfl, decide_eq_true (by simp only; omega)]
  rw [if_pos (by rw [hc0]), if_pos hh]
  by_cases y1 : (Y.length : Int) = 1
  ·rw [if_pos y1, if_pos (JF (by omega))]; exact fin
  ·rw [if_neg y1]; exact fin
 ·rw [if_neg w0]; exact fin
end Go.Proofs.Ytcbhhbkghbnljaa.Vf
