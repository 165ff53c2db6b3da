/- The reference's PutSets: what the walk gives. Conditions: as each theorem states. My own. -/
import Derived.Test.YtcbhhbkghbnljaaGreatDoorPa
section
set_option linter.unusedVariables false
set_option linter.unusedSimpArgs false
noncomputable section
namespace Go.Proofs.YtcbhhbkghbnljaaGreatDoor.Vf
open Go Go.V Go.RowKit Go.Proofs
def freeS : List Int → Nat
 | [] => 0
 | a :: r => if a < 0 then 0 else freeS r + 1
theorem freeS_lt : ∀ {sl : List Int} {c : Nat}, c < freeS sl → c < sl.length ∧ 0 ≤ V.rd sl c
 | [], c, h => by cases h
 | a :: r, c, h => by
  unfold freeS at h
  by_cases ha : a < 0
  ·rw [if_pos ha] at h; cases h
  ·rw [if_neg ha] at h
   cases c with
   | zero => exact ⟨by simp, by rw [rd_n]; show 0 ≤ a; omega⟩
   | succ c =>
    obtain ⟨h1, h2⟩ := freeS_lt (sl := r) (c := c) (by omega)
    rw [rd_n] at h2 ⊢
    exact ⟨by simp; omega, h2⟩
theorem freeS_at : ∀ {sl : List Int}, freeS sl < sl.length → V.rd sl (freeS sl) < 0
 | [], h => by cases h
 | a :: r, h => by
  unfold freeS at h ⊢
  by_cases ha : a < 0
  ·rw [if_pos ha]; exact ha
  ·rw [if_neg ha] at h ⊢
   have := freeS_at (sl := r) (by simp at h; omega)
   rw [rd_n] at this ⊢
   exact this
def stepA0 (la : List Int) (s : Int) (i : Nat) (sl : List Int) : List Int :=
 if bitS s i = false then sl else if 0 ≤ V.rd la i ∧ V.rd sl (V.rd la i) < 0 then sl.set (V.rd la i).toNat i else sl
def pasA0 (la : List Int) (s : Int) (sl : List Int) : Nat → List Int
 | 0 => sl
 | i + 1 => stepA0 la s i (pasA0 la s sl i)
def stepA1 (s : Int) (i : Nat) (p : List Int × List Int) : List Int × List Int :=
 if bitS s i = false then p else if V.rd p.2 i < 0 ∨ V.rd p.1 (V.rd p.2 i) ≠ i then (p.1.set (freeS p.1) i, p.2.set i (freeS p.1)) else p
def pasA1 (s : Int) (p : List Int × List Int) : Nat → List Int × List Int
 | 0 => p
 | i + 1 => stepA1 s i (pasA1 s p i)
def turnQ (K M : Nat) (la : List Int) (s : Int) : Nat → List Int × List Int
 | 0 => (List.replicate M (-1), la)
 | 1 => (pasA0 la s (List.replicate M (-1)) K, la)
 | _ => pasA1 s (pasA0 la s (List.replicate M (-1)) K, la) K
def lbA (K M : Nat) (l : List Int) : Nat → List Int
 | 0 => List.replicate K (-1)
 | n + 1 => (turnQ K M (lbA K M l n) (V.rd l n) 2).2
def slB (K M : Nat) (l : List Int) (n : Nat) : List Int := (turnQ K M (lbA K M l n) (V.rd l n) 2).1
def rowB (K M : Nat) (l : List Int) (n c : Nat) : List Int := (List.range n).map fun j => V.rd (slB K M l j) c
theorem rowB_len (K M : Nat) (l : List Int) (n c : Nat) : (rowB K M l n c).length = n := by simp [rowB]
theorem rowB_succ (K M : Nat) (l : List Int) (n c : Nat) : rowB K M l (n + 1) c = rowB K M l n c ++ [V.rd (slB K M l n) c] := by simp [rowB, List.range_succ]
def putB (K M : Nat) (l : List Int) : List (List Int) := (List.range M).map fun c => rowB K M l l.length c
def FreeB (K M : Nat) (l : List Int) : Prop := ∀ n, n < l.length → ∀ i, i < K → bitS (V.rd l n) i = true → freeS (pasA1 (V.rd l n) (pasA0 (lbA K M l n) (V.rd l n) (List.replicate M (-1)) K, lbA K M l n) i).1 < M ∨
 ¬ (V.rd (pasA1 (V.rd l n) (pasA0 (lbA K M l n) (V.rd l n) (List.replicate M (-1)) K, lbA K M l n) i).2 i < 0 ∨ V.rd (pasA1 (V.rd l n) (pasA0 (lbA K M l n) (V.rd l n) (List.replicate M (-1)) K, lbA K M l n) i).1 (V.rd (pasA1 (V.rd l n) (pasA0 (lbA K M l n) (V.rd l n) (List.replicate M (-1)) K, lbA K M l n) i).2 i) ≠ i)
theorem stepA0_ok {K M : Nat} {la sl : List Int} {s : Int} {i : Nat} (hi : i < K) (h : OkL K M sl) : OkL K M (stepA0 la s i sl) := by
 unfold stepA0
 by_cases c1 : bitS s i = false
 ·rw [if_pos c1]; exact h
 ·rw [if_neg c1]
  by_cases c2 : 0 ≤ V.rd la i ∧ V.rd sl (V.rd la i) < 0
  ·rw [if_pos c2]; exact h.set (by omega)
  ·rw [if_neg c2]; exact h
theorem pasA0_ok {K M : Nat} {la sl : List Int} {s : Int} (h : OkL K M sl) : ∀ i, i ≤ K → OkL K M (pasA0 la s sl i)
 | 0, _ => h
 | i + 1, hi => stepA0_ok (by omega) (pasA0_ok h i (by omega))
theorem stepA1_ok {K M : Nat} {p : List Int × List Int} {s : Int} {i : Nat} (hi : i < K) (h1 : OkL K M p.1) (h2 : OkL M K p.2) (hf : bitS s i = true → freeS p.1 < M ∨ ¬ (V.rd p.2 i < 0 ∨ V.rd p.1 (V.rd p.2 i) ≠ i)) : OkL K M (stepA1 s i p).1 ∧ OkL M K (stepA1 s i p).2 := by
 unfold stepA1
 by_cases c1 : bitS s i = false
 ·rw [if_pos c1]; exact ⟨h1, h2⟩
 ·rw [if_neg c1]
  by_cases c2 : V.rd p.2 i < 0 ∨ V.rd p.1 (V.rd p.2 i) ≠ i
  ·rw [if_pos c2]
   have hf := hf (by simpa using c1)
   rcases hf with hf | hf
   ·exact ⟨h1.set (by omega), h2.set (by omega)⟩
   ·exact absurd c2 hf
  ·rw [if_neg c2]; exact ⟨h1, h2⟩
theorem pasA1_ok {K M : Nat} {p : List Int × List Int} {s : Int} (h1 : OkL K M p.1) (h2 : OkL M K p.2) (hf : ∀ i, i < K → bitS s i = true → freeS (pasA1 s p i).1 < M ∨ ¬ (V.rd (pasA1 s p i).2 i < 0 ∨ V.rd (pasA1 s p i).1 (V.rd (pasA1 s p i).2 i) ≠ i)) : ∀ i, i ≤ K → OkL K M (pasA1 s p i).1 ∧ OkL M K (pasA1 s p i).2
 | 0, _ => ⟨h1, h2⟩
 | i + 1, hi => by
  obtain ⟨q1, q2⟩ := pasA1_ok h1 h2 hf i (by omega)
  exact stepA1_ok (by omega) q1 q2 (hf i (by omega))
theorem lbA_ok {K M : Nat} {l : List Int} (hF : FreeB K M l) : ∀ n, n ≤ l.length → OkL M K (lbA K M l n)
 | 0, _ => .rep _ _ (by omega)
 | n + 1, hn => (pasA1_ok (pasA0_ok (.rep _ _ (by omega)) K (Nat.le_refl _)) (lbA_ok hF n (by omega)) (hF n (by omega)) K (Nat.le_refl _)).2
theorem pW.ext {B : Nat} {w W W' w1 : World} {ks : List (Nat × Obj)} {n i : Nat} {e : Nat → Value} {l : Nat → List Int} {v : Value} {x : Int} (h : pW B W ks n e l) (hw : Below B w W) (hwB : w.heap.size = B) (h1 : i ≠ 0) (h2 : i < 3) (hW : Below W.heap.size W W')
  (ho : w1.ownsRow B 2 1 v ((l i).length + 1) ((l i).map (Value.int .i64) ++ [Value.int .i64 x])) (hg : W'.grownBy w1 (e i).ownBlock) (hn : v.ownBlock = (e i).ownBlock ∨ v.ownBlock = some W'.heap.size) :
  pW B w1 ks n (up e i v) (up l i (l i ++ [x])) ∧ Below B w w1 := by
 have hB : B ≤ W.heap.size := by have := hw.size; omega
 have hi := h.r.rows i h1
 have hs := hW.size
 have keep : ∀ q, q < W.heap.size → blockOf (e i) ≠ some q → w1.heap[q]? = W.heap[q]? := fun q hq hne => (hg.block q (by omega) fun hx => hne ((own_bl hi).1 hx.symm)).trans (hW.block q hq)
 have hv1 : bOw w1 B v (l i ++ [x]) := by unfold bOw; rw [List.length_append, List.map_append]; exact ho
 have hv : ∀ q, blockOf v = some q → blockOf (e i) = some q ∨ W.heap.size ≤ q := fun q hq => by
  have hq := (own_bl ho).2 hq
  rcases hn with h1 | h1
  ·exact .inl ((own_bl hi).1 (h1 ▸ hq))
  ·rw [h1] at hq; have := Option.some.inj hq; exact .inr (by omega)
 refine ⟨⟨h.r.turn h1 h.ob hv1 keep hv, h.o.turn h1 h2 fun q hq => keep q (h.ob q hq) (h.r.dis 0 i q (Ne.symm h1) hq)⟩, hg.os.trans (hW.os.trans hw.os), hg.tape.trans (hW.tape.trans hw.tape), hg.output.trans (hW.output.trans hw.output), by have := hg.size; have := hw.size; omega, fun r hr => ?_⟩
 refine (keep r (by omega) fun hx => ?_).trans (hw.block r hr)
 have := (own_lt hi hx).2; omega
theorem pW.push {B : Nat} {w W w1 : World} {ks : List (Nat × Obj)} {n : Nat} {e : Nat → Value} {l : Nat → List Int} {v : Value} (h : pW B W ks n e l) (hw : Below B w W) (hwB : w.heap.size = B) (hl : l (n + 3) = [])
  (ho : w1.ownsRow B 24 1 v (n + 1) (((List.range n).map fun i => e (i + 3)) ++ [Value.slice (some ⟨W.heap.size, 0, none⟩) 0 0])) (hg : ((W.alloc (.cells #[] 2)).alloc (.cells #[Value.slice (some ⟨W.heap.size, 0, none⟩) 0 0] 24)).grownBy w1 (e 0).ownBlock)
  (hn : v.ownBlock = (e 0).ownBlock ∨ v.ownBlock = some ((W.alloc (.cells #[] 2)).alloc (.cells #[Value.slice (some ⟨W.heap.size, 0, none⟩) 0 0] 24)).heap.size) :
  pW B w1 ks (n + 1) (up (up e (n + 3) (.slice (some ⟨W.heap.size, 0, none⟩) 0 0)) 0 v) l ∧ Below B w w1 := by
 have hB : B ≤ W.heap.size := by have := hw.size; omega
 have sz : ((W.alloc (.cells #[] 2)).alloc (.cells #[Value.slice (some ⟨W.heap.size, 0, none⟩) 0 0] 24)).heap.size = W.heap.size + 2 := by simp
 have hb2 := two_below W (.cells #[] 2) (.cells #[Value.slice (some ⟨W.heap.size, 0, none⟩) 0 0] 24)
 -- the new inner row first
 have h1 : pW B ((W.alloc (.cells #[] 2)).alloc (.cells #[Value.slice (some ⟨W.heap.size, 0, none⟩) 0 0] 24)) ks n (up e (n + 3) (.slice (some ⟨W.heap.size, 0, none⟩) 0 0)) l := by
  have hv : bOw ((W.alloc (.cells #[] 2)).alloc (.cells #[Value.slice (some ⟨W.heap.size, 0, none⟩) 0 0] 24)) B (.slice (some ⟨W.heap.size, 0, none⟩) 0 0) [] :=
   ⟨rfl, .inr ⟨W.heap.size, 0, #[], rfl, hB, (heap_alloc_old _ _ (by simp)).trans (heap_alloc_new W _), Nat.le_refl _, by decide, rfl, rfl⟩⟩
  have hr := h.r.turn (i := n + 3) (by omega) h.ob hv (fun q hq _ => hb2.block q hq) (fun q hq => .inr (Nat.le_of_eq (by simpa [blockOf] using hq)))
  have el : up l (n + 3) [] = l := by funext k; unfold up; split <;> simp_all
  rw [el] at hr
  refine ⟨hr, ?_⟩
  have e1 : ((List.range n).map fun j => up e (n + 3) (.slice (some ⟨W.heap.size, 0, none⟩) 0 0) (j + 3)) = (List.range n).map fun j => e (j + 3) := List.map_congr_left fun j hj => up_ne _ _ (by have := List.mem_range.1 hj; omega)
  unfold pO
  rw [e1, up_ne _ _ (by omega)]
  exact ownsRow_same h.o fun q hq => hb2.block q (h.ob q hq)
 have e0 : up e (n + 3) (.slice (some ⟨W.heap.size, 0, none⟩) 0 0) 0 = e 0 := up_ne _ _ (by omega)
 have hv0 : ∀ q, blockOf v = some q → blockOf (e 0) = some q ∨ W.heap.size + 2 ≤ q := fun q hq => by
  have hq := (own_bl ho).2 hq
  rcases hn with h1 | h1
  ·exact .inl ((own_bl h.o).1 (h1 ▸ hq))
  ·rw [h1, sz] at hq; have := Option.some.inj hq; exact .inr (by omega)
 have keep : ∀ q, q < W.heap.size + 2 → blockOf (e 0) ≠ some q → w1.heap[q]? = ((W.alloc (.cells #[] 2)).alloc (.cells #[Value.slice (some ⟨W.heap.size, 0, none⟩) 0 0] 24)).heap[q]? := fun q hq hne => hg.block q (by omega) fun hx => hne ((own_bl h.o).1 hx.symm)
 have lt : ∀ j q, j ≠ 0 → blockOf (up e (n + 3) (.slice (some ⟨W.heap.size, 0, none⟩) 0 0) j) = some q → q < W.heap.size + 2 := fun j q hj hq => by have := (own_lt (h1.r.rows j hj) hq).1; omega
 refine ⟨⟨⟨fun j hj => ?_, fun j j' q hne hq hq' => ?_, fun j p hp hq => ?_, fun p hp => ?_⟩, ?_⟩, hg.os.trans (hb2.os.trans hw.os), hg.tape.trans (hb2.tape.trans hw.tape), hg.output.trans (hb2.output.trans hw.output), by have := hg.size; have := hw.size; omega, fun r hr => ?_⟩
 ·rw [up_ne _ _ hj]
  exact ownsRow_same (h1.r.rows j hj) fun q hq => keep q (lt j q hj hq) fun hx => h1.r.dis j 0 q hj hq (by rw [e0]; exact hx)
 ·by_cases c : j = 0 <;> by_cases c' : j' = 0
  ·omega
  ·subst c; rw [up_eq] at hq; rw [up_ne _ _ c'] at hq'
   rcases hv0 q hq with h2 | h2
   ·exact h1.r.dis j' 0 q c' hq' (by rw [e0]; exact h2)
   ·have := lt j' q c' hq'; omega
  ·subst c'; rw [up_eq] at hq'; rw [up_ne _ _ c] at hq
   rcases hv0 q hq' with h2 | h2
   ·exact h1.r.dis j 0 q c hq (by rw [e0]; exact h2)
   ·have := lt j q c hq; omega
  ·rw [up_ne _ _ c] at hq; rw [up_ne _ _ c'] at hq'
   exact h1.r.dis j j' q hne hq hq'
 ·by_cases c : j = 0
  ·subst c; rw [up_eq] at hq
   rcases hv0 _ hq with h2 | h2
   ·exact h.r.kn 0 p hp h2
   ·have := n_lt (h.r.kp p hp); omega
  ·rw [up_ne _ _ c] at hq; exact h1.r.kn j p hp hq
 ·exact (keep _ (by have := n_lt (h.r.kp p hp); omega) (h.r.kn 0 p hp)).trans (h1.r.kp p hp)
 ·unfold pO
  rw [up_eq, List.range_succ, List.map_append]
  have e1 : ((List.range n).map fun j => up (up e (n + 3) (.slice (some ⟨W.heap.size, 0, none⟩) 0 0)) 0 v (j + 3)) = (List.range n).map fun j => e (j + 3) := List.map_congr_left fun j hj => by rw [up_ne _ _ (by omega), up_ne _ _ (by have := List.mem_range.1 hj; omega)]
  rw [e1]
  have e2 : ([n].map fun j => up (up e (n + 3) (Value.slice (some ⟨W.heap.size, 0, none⟩) 0 0)) 0 v (j + 3)) = [Value.slice (some ⟨W.heap.size, 0, none⟩) 0 0] := by
   show [up (up e (n + 3) (Value.slice (some ⟨W.heap.size, 0, none⟩) 0 0)) 0 v (n + 3)] = _; rw [up_ne _ _ (by omega), up_eq]
  rw [e2]
  exact ho
 ·refine (keep r (by have := hw.size; omega) fun hx => ?_).trans ((hb2.block r (by omega)).trans (hw.block r hr))
  have := (own_lt h.o hx).2; omega
theorem pW.start0 {B : Nat} {W : World} {M : Nat} (hB : B ≤ W.heap.size) :
  pW B ((W.alloc (.cells #[] 24)).alloc (.cells #[] 2)) [] 0 (fun i => if i = 0 then .slice (some ⟨W.heap.size, 0, none⟩) 0 0 else if i = 1 then .slice (some ⟨W.heap.size + 1, 0, none⟩) 0 0 else nilV) (lS M [] [] (fun _ => [])) := by
 have e0 : lS M [] [] (fun _ => []) = fun _ => [] := by
  funext i; unfold lS
  split
  ·rfl
  ·split
   ·rfl
   ·split <;> rfl
 rw [e0]
 have hn := heap_alloc_new (W.alloc (.cells #[] 24)) (.cells #[] 2)
 rw [show (W.alloc (.cells #[] 24)).heap.size = W.heap.size + 1 by simp] at hn
 refine ⟨⟨fun i hi => ?_, fun i j q hne hq hq' => ?_, (fun _ _ h => by cases h), (fun _ h => by cases h)⟩, rfl, .inr ⟨W.heap.size, 0, #[], rfl, hB, (heap_alloc_old _ _ (by simp)).trans (heap_alloc_new W _), Nat.le_refl _, by decide, rfl, rfl⟩⟩
 ·simp only [if_neg hi]
  by_cases h1 : i = 1
  ·rw [if_pos h1]; exact ⟨rfl, .inr ⟨W.heap.size + 1, 0, #[], rfl, by omega, hn, Nat.le_refl _, by decide, rfl, rfl⟩⟩
  ·rw [if_neg h1]; exact ⟨rfl, .inl ⟨rfl, rfl⟩⟩
 ·have key : ∀ i q, blockOf (if i = 0 then Value.slice (some ⟨W.heap.size, 0, none⟩) 0 0 else if i = 1 then Value.slice (some ⟨W.heap.size + 1, 0, none⟩) 0 0 else nilV) = some q → (i = 0 ∧ q = W.heap.size) ∨ (i = 1 ∧ q = W.heap.size + 1) := by
   intro i q h
   by_cases h0 : i = 0
   ·rw [if_pos h0] at h
    have : W.heap.size = q := by simpa [blockOf] using h
    exact .inl ⟨h0, this.symm⟩
   ·rw [if_neg h0] at h
    by_cases h1 : i = 1
    ·rw [if_pos h1] at h
     have : W.heap.size + 1 = q := by simpa [blockOf] using h
     exact .inr ⟨h1, this.symm⟩
    ·rw [if_neg h1] at h; cases h
  have := key i q hq
  have := key j q hq'
  omega
end Go.Proofs.YtcbhhbkghbnljaaGreatDoor.Vf
end
section
set_option linter.unusedVariables false
set_option linter.unusedSimpArgs false
set_option maxRecDepth 100000
noncomputable section
namespace Go.Proofs.YtcbhhbkghbnljaaGreatDoor.Vf
open Go Go.V Go.RowKit Go.Proofs
def badO (k K : Nat) (M x : Int) : Option Bool := if 0 ≤ x ∧ x ≤ 2 ^ K - 1 then (spec_l08Size.f k x).bind fun n => some (decide (M < n)) else some true
def chkL (k K : Nat) (M : Int) : List Int → Option Bool
 | [] => some false
 | x :: r => (badO k K M x).bind fun b => if b = true then some true else chkL k K M r
def spec_PutSets.f (k : Nat) (a0 a1 : Int) (l : List Int) : Option (List (List Int) × Int) :=
 (spec_l01In.f a0 1 8).bind fun t1 => if t1 = false then some ([], 2) else (spec_l01In.f a1 1 4).bind fun t2 => if t2 = false then some ([], 2) else if (l.length : Int) < 1 then some ([], 2) else if (120 : Int) < l.length then some ([], 2) else
  if (1 ≤ a0 ∧ a0 ≤ 8) ∧ 1 ≤ a1 ∧ a1 ≤ 4 then (chkL k a0.toNat a1 l).bind fun b => if b = true then some ([], 2) else @ite _ (FreeB a0.toNat a1.toNat l) (Classical.propDecidable _) (some (putB a0.toNat a1.toNat l, 0)) none else none
theorem chkL_in {k K : Nat} {M : Int} : ∀ {l : List Int}, chkL k K M l = some false → ∀ x ∈ l, 0 ≤ x ∧ x ≤ 2 ^ K - 1
 | [], _, x, hx => by cases hx
 | y :: l, h, x, hx => by
  unfold chkL at h
  obtain ⟨b, e, h⟩ := Option.bind_eq_some_iff.1 h
  cases b with
  | true => rw [if_pos rfl] at h; cases h
  | false =>
   rw [if_neg (by decide)] at h
   rcases List.mem_cons.1 hx with rfl | hx
   ·unfold badO at e
    split at e
    ·rename_i hh; exact hh
    ·cases e
   ·exact chkL_in h x hx
theorem l01InP_f (a b c : Int) : spec_l01In.f a b c = some (decide (b ≤ a ∧ a ≤ c)) := by
 unfold spec_l01In.f
 by_cases h : b ≤ a
 ·rw [if_pos h]; simp [h]
 ·rw [if_neg h]; simp [h]
set_option maxHeartbeats 4000000 in
theorem spec_put_no (k : Nat) {w : World} {N : Nat → Prop} {v : Value} {l : List Int} {a0 a1 : Int} (hl : bRL w N v l) (hg : GB w.heap.size w)
  (hy : spec_l01In.f a0 1 8 = some false ∨ (spec_l01In.f a0 1 8 = some true ∧ (spec_l01In.f a1 1 4 = some false ∨ (spec_l01In.f a1 1 4 = some true ∧ ((l.length : Int) < 1 ∨ (¬ (l.length : Int) < 1 ∧ (120 : Int) < l.length)))))) :
  Calls Tryz.prog 37 #[.int .i64 a0, .int .i64 a1, v] w fun e w' => e = .returned (.tuple #[nilV, .int .i64 2]) ∧ Below w.heap.size w w' := by
 obtain ⟨A, cap, rfl⟩ : ∃ A cap, v = .slice A (l : List Int).length cap := by
  obtain ⟨A, cap, ev, -, -, -⟩ := hl
  exact ⟨A, cap, (List.cons.inj ev).1⟩
 have HG : Aside0 (∀ W, Below w.heap.size w W → GB w.heap.size W) := ⟨fun W hW => hg.below hW⟩
 have HZ : Aside0 (∀ {A C : World}, Below w.heap.size w A → Below A.heap.size A C → Below w.heap.size w C) := ⟨fun h1 h2 => h1.trans (h2.mono h1.size)⟩
 have HB0 : Aside0 (Below w.heap.size w w) := ⟨Below.refl _ _⟩
 rcases hy with e1 | ⟨e1, hy⟩
 ·have H1 : Aside0 (∀ W, Below w.heap.size w W → Calls Tryz.prog 53 #[.int .i64 a0, .int .i64 1, .int .i64 8] W fun e w' => e = .returned (.bool false) ∧ Below W.heap.size W w') := ⟨fun W hW => c_III_b (M53 k) (HG.out W hW) e1⟩
  clear e1 hg
  go_enter Tryz.func37, Tryz.ntmps37
  go_wp2_with (first
   | (go_at_call 53; refine (H1.out _ HB0.out).mono ?_; rintro e w1 ⟨rfl, hb1⟩))
  go_returns
  exact ⟨rfl, hb1⟩
 ·have H1 : Aside0 (∀ W, Below w.heap.size w W → Calls Tryz.prog 53 #[.int .i64 a0, .int .i64 1, .int .i64 8] W fun e w' => e = .returned (.bool true) ∧ Below W.heap.size W w') := ⟨fun W hW => c_III_b (M53 k) (HG.out W hW) e1⟩
  rcases hy with e2 | ⟨e2, hy⟩
  ·have H2 : Aside0 (∀ W, Below w.heap.size w W → Calls Tryz.prog 53 #[.int .i64 a1, .int .i64 1, .int .i64 4] W fun e w' => e = .returned (.bool false) ∧ Below W.heap.size W w') := ⟨fun W hW => c_III_b (M53 k) (HG.out W hW) e2⟩
   clear e1 e2 hg
   go_enter Tryz.func37, Tryz.ntmps37
   go_wp2_with (first
    | (go_at_call 53; first | (have hb2 := hb1; refine (H2.out _ hb1).mono ?_; rintro e w2 ⟨rfl, hb2⟩; have hb2 := HZ.out hb1 hb2) | (refine (H1.out _ HB0.out).mono ?_; rintro e w1 ⟨rfl, hb1⟩)))
   go_returns
   exact ⟨rfl, hb2⟩
  ·have H2 : Aside0 (∀ W, Below w.heap.size w W → Calls Tryz.prog 53 #[.int .i64 a1, .int .i64 1, .int .i64 4] W fun e w' => e = .returned (.bool true) ∧ Below W.heap.size W w') := ⟨fun W hW => c_III_b (M53 k) (HG.out W hW) e2⟩
   clear e1 e2 hg
   rcases hy with e3 | ⟨e3, e4⟩
   ·have h3 : decide (1 ≤ (l.length : Int)) = false := decide_eq_false (by omega)
    have h5 : ¬ 1 ≤ (l.length : Int) := by omega
    go_enter Tryz.func37, Tryz.ntmps37
    go_wp2_with (first
     | (go_at_call 53; first | (have hb2 := hb1; refine (H2.out _ hb1).mono ?_; rintro e w2 ⟨rfl, hb2⟩; have hb2 := HZ.out hb1 hb2) | (refine (H1.out _ HB0.out).mono ?_; rintro e w1 ⟨rfl, hb1⟩)))
    all_goals first
     | (exfalso; omega)
     | (go_returns; exact ⟨rfl, hb2⟩)
   ·have h5 : 1 ≤ (l.length : Int) := by omega
    have h3 : decide (1 ≤ (l.length : Int)) = true := decide_eq_true h5
    have h4 : ¬ (l.length : Int) ≤ 120 := by omega
    have h6 : decide ((l.length : Int) ≤ 120) = false := decide_eq_false h4
    go_enter Tryz.func37, Tryz.ntmps37
    go_wp2_with (first
     | (go_at_call 53; first | (have hb2 := hb1; refine (H2.out _ hb1).mono ?_; rintro e w2 ⟨rfl, hb2⟩; have hb2 := HZ.out hb1 hb2) | (refine (H1.out _ HB0.out).mono ?_; rintro e w1 ⟨rfl, hb1⟩)))
    all_goals first
     | (exfalso; omega)
     | (go_returns; exact ⟨rfl, hb2⟩)
end Go.Proofs.YtcbhhbkghbnljaaGreatDoor.Vf
end
section
set_option linter.unusedVariables false
set_option linter.unusedSimpArgs false
set_option maxRecDepth 100000
noncomputable section
namespace Go.Proofs.YtcbhhbkghbnljaaGreatDoor.Vf
open Go Go.V Go.RowKit Go.Proofs
theorem w2k : ∀ K : Nat, K < 9 → wrap64 (wrap64 (2 ^ K) - 1) = 2 ^ K - 1 := by decide +kernel
set_option maxHeartbeats 4000000 in
theorem spec_put_bad (k : Nat) {w : World} {N : Nat → Prop} {v : Value} {l : List Int} {K M : Nat} (hl : bRL w N v l) (hg : GB w.heap.size w)
  (hK : 1 ≤ K ∧ K ≤ 8) (hM : 1 ≤ M ∧ M ≤ 4) (hn : 1 ≤ l.length ∧ l.length ≤ 120) (hy : chkL k K M l = some true) :
  Calls Tryz.prog 37 #[.int .i64 K, .int .i64 M, v] w fun e w' => e = .returned (.tuple #[nilV, .int .i64 2]) ∧ Below w.heap.size w w' := by
 have hl0 : l ≠ [] := by rintro rfl; simp at hn
 obtain ⟨A, cA, rfl, hcA, helA⟩ := hl.sl hl0
 have HG : Aside0 (∀ W, Below w.heap.size w W → GB w.heap.size W) := ⟨fun W hW => hg.below hW⟩
 have HE : Aside0 (∀ W (i : Nat), Below w.heap.size w W → i < l.length → W.cell? (A.add i) = some (.int .i64 (V.rd l i))) := ⟨fun W i hW hi => (hW.cell (World.block_lt_of_cell? w _ (helA i hi))).trans (helA i hi)⟩
 have HZ : Aside0 (∀ {A C : World}, Below w.heap.size w A → Below A.heap.size A C → Below w.heap.size w C) := ⟨fun h1 h2 => h1.trans (h2.mono h1.size)⟩
 have HB0 : Aside0 (Below w.heap.size w w) := ⟨Below.refl _ _⟩
 have H1 : Aside0 (∀ W, Below w.heap.size w W → Calls Tryz.prog 53 #[.int .i64 K, .int .i64 1, .int .i64 8] W fun e w' => e = .returned (.bool true) ∧ Below W.heap.size W w') := ⟨fun W hW => c_III_b (M53 k) (HG.out W hW) (by show spec_l01In.f K 1 8 = _; rw [l01InP_f, decide_eq_true (by omega)])⟩
 have H2 : Aside0 (∀ W, Below w.heap.size w W → Calls Tryz.prog 53 #[.int .i64 M, .int .i64 1, .int .i64 4] W fun e w' => e = .returned (.bool true) ∧ Below W.heap.size W w') := ⟨fun W hW => c_III_b (M53 k) (HG.out W hW) (by show spec_l01In.f M 1 4 = _; rw [l01InP_f, decide_eq_true (by omega)])⟩
 have h5 : 1 ≤ (l.length : Int) := by omega
 have h6 : (l.length : Int) ≤ 120 := by omega
 have HY := Aside0.mk hy
 clear hl hg helA hy
 go_enter Tryz.func37, Tryz.ntmps37
 go_wp2_with (first
  | (go_at_call 53; first | (have hb2 := hb1; refine (H2.out _ hb1).mono ?_; rintro e w2 ⟨rfl, hb2⟩; have hb2 := HZ.out hb1 hb2) | (refine (H1.out _ HB0.out).mono ?_; rintro e w1 ⟨rfl, hb1⟩)))
 all_goals first
  | (exfalso; omega)
  | skip
 go_loopg [8] l.length (fun gg s8 wr => ∃ n : Nat, n ≤ l.length ∧ l.length - n ≤ gg ∧ s8 = .int .i64 n ∧ Aside0 (chkL k K M (l.drop n) = some true) ∧ Aside0 (Below w.heap.size w wr))
 case atStart => exact ⟨0, Nat.zero_le _, by omega, rfl, ⟨by rw [List.drop_zero]; exact HY.out⟩, ⟨hb2⟩⟩
 case round =>
  obtain ⟨n, hn1, hgg, rfl, HC, HBw⟩ := hrel
  have hlt : n < l.length := by
   rcases Nat.lt_or_ge n l.length with h | h
   ·exact h
   ·have hc := HC.out
    rw [List.drop_eq_nil_of_le h] at hc; cases hc
  have hltz : decide ((n : Int) < (l.length : Int)) = true := decide_eq_true (by omega)
  have hset := HE.out wr n HBw.out hlt
  have hc := HC.out
  rw [List.drop_eq_getElem_cons hlt] at hc
  have e1 : l[n] = V.rd l n := by rw [rd_n, List.getD_eq_getElem?_getD, List.getElem?_eq_getElem hlt]; rfl
  rw [e1] at hc
  unfold chkL badO at hc
  have hw := w2k K (by omega)
  by_cases hin : 0 ≤ V.rd l n ∧ V.rd l n ≤ 2 ^ K - 1
  ·rw [if_pos hin] at hc
   have H53 : Aside0 (∀ W, Below w.heap.size w W → Calls Tryz.prog 53 #[.int .i64 (V.rd l n), .int .i64 0, .int .i64 (2 ^ K - 1)] W fun e w' => e = .returned (.bool true) ∧ Below W.heap.size W w') := ⟨fun W hW => c_III_b (M53 k) (HG.out W hW) (by show spec_l01In.f (V.rd l n) 0 (2 ^ K - 1) = _; rw [l01InP_f, decide_eq_true hin])⟩
   obtain ⟨b, eb, hc⟩ := Option.bind_eq_some_iff.1 hc
   obtain ⟨z, ez, eb⟩ := Option.bind_eq_some_iff.1 eb
   have H91 : Aside0 (∀ W, Below w.heap.size w W → Calls Tryz.prog 91 #[.int .i64 (V.rd l n)] W fun e w' => e = .returned (.int .i64 z) ∧ Below W.heap.size W w') := ⟨fun W hW => c_I_i (M91 k) (HG.out W hW) ez⟩
   have eb := Option.some.inj eb
   cases b with
   | true =>
    have hz : (M : Int) < z := of_decide_eq_true eb
    clear ez hc eb
    go_wp2_with (first
     | (go_at_call 53; refine (H53.out _ HBw.out).mono ?_; rintro e w3 ⟨rfl, hb3⟩; have hb3 := HZ.out HBw.out hb3; have hset3 := HE.out w3 n hb3 hlt)
     | (go_at_call 91; refine (H91.out _ hb3).mono ?_; rintro e w4 ⟨rfl, hb4⟩; have hb4 := HZ.out hb3 hb4))
    all_goals first
     | (exfalso; omega)
     | (go_returns; exact ⟨rfl, hb4⟩)
   | false =>
    have hz : ¬ (M : Int) < z := of_decide_eq_false eb
    have HC2 : Aside0 (chkL k K M (l.drop (n + 1)) = some true) := ⟨(if_neg (by decide)).symm.trans hc⟩
    clear ez hc eb
    go_wp2_with (first
     | (go_at_call 53; refine (H53.out _ HBw.out).mono ?_; rintro e w3 ⟨rfl, hb3⟩; have hb3 := HZ.out HBw.out hb3; have hset3 := HE.out w3 n hb3 hlt)
     | (go_at_call 91; refine (H91.out _ hb3).mono ?_; rintro e w4 ⟨rfl, hb4⟩; have hb4 := HZ.out hb3 hb4))
    all_goals first
     | (exfalso; omega)
     | skip
    go_roundg (l.length - (n + 1))
    case measure => omega
    case rel => exact ⟨n + 1, by omega, Nat.le_refl _, (by first | go_num | (unfold wrap64; omega)), HC2, ⟨hb4⟩⟩
  ·have H53 : Aside0 (∀ W, Below w.heap.size w W → Calls Tryz.prog 53 #[.int .i64 (V.rd l n), .int .i64 0, .int .i64 (2 ^ K - 1)] W fun e w' => e = .returned (.bool false) ∧ Below W.heap.size W w') := ⟨fun W hW => c_III_b (M53 k) (HG.out W hW) (by show spec_l01In.f (V.rd l n) 0 (2 ^ K - 1) = _; rw [l01InP_f, decide_eq_false hin])⟩
   clear hc
   go_wp2_with (first
    | (go_at_call 53; refine (H53.out _ HBw.out).mono ?_; rintro e w3 ⟨rfl, hb3⟩))
   all_goals first
    | (exfalso; omega)
    | (go_returns; exact ⟨rfl, HZ.out HBw.out hb3⟩)
end Go.Proofs.YtcbhhbkghbnljaaGreatDoor.Vf
end
section
set_option linter.unusedVariables false
set_option linter.unusedSimpArgs false
set_option maxRecDepth 100000
noncomputable section
namespace Go.Proofs.YtcbhhbkghbnljaaGreatDoor.Vf
open Go Go.V Go.RowKit Go.Proofs
theorem chkL_all {k K : Nat} {M : Int} : ∀ {l : List Int}, chkL k K M l = some false → ∀ x ∈ l, (0 ≤ x ∧ x ≤ 2 ^ K - 1) ∧ ∃ z, spec_l08Size.f k x = some z ∧ ¬ M < z
 | [], _, x, hx => by cases hx
 | y :: l, h, x, hx => by
  unfold chkL at h
  obtain ⟨b, e, h⟩ := Option.bind_eq_some_iff.1 h
  cases b with
  | true => rw [if_pos rfl] at h; cases h
  | false =>
   rw [if_neg (by decide)] at h
   rcases List.mem_cons.1 hx with rfl | hx
   ·unfold badO at e
    split at e
    ·rename_i hh
     obtain ⟨z, ez, e⟩ := Option.bind_eq_some_iff.1 e
     exact ⟨hh, z, ez, of_decide_eq_false (Option.some.inj e)⟩
    ·cases e
   ·exact chkL_all h x hx
theorem info24 : ∃ i0 : TypeInfo, Tryz.prog.info? 24 = some i0 ∧ i0.zero = some nilV ∧ i0.size = 1 ∧ i0.bytes = 24 := by
 have hinfo : (Tryz.prog.info? 24).map (fun i => (i.zero, i.size, i.bytes)) = some (some nilV, 1, 24) := by kernel_rfl
 obtain ⟨i0, h1, h2⟩ := Option.map_eq_some_iff.1 hinfo
 simp only [Prod.mk.injEq] at h2
 exact ⟨i0, h1, h2.1, h2.2.1, h2.2.2⟩
theorem und54 : Tryz.prog.underlying 54 = some (.slice 24) := by kernel_rfl
theorem p256 : ∀ K : Nat, K < 9 → (2 : Int) ^ K - 1 < 256 := by decide +kernel
set_option maxHeartbeats 8000000 in
theorem spec_put_yes (k : Nat) {w : World} {N : Nat → Prop} {v : Value} {l : List Int} {K M : Nat} (hl : bRL w N v l) (hg : GB w.heap.size w)
  (hK : 1 ≤ K ∧ K ≤ 8) (hM : 1 ≤ M ∧ M ≤ 4) (hn : 1 ≤ l.length ∧ l.length ≤ 120) (hy : chkL k K M l = some false) (hF : FreeB K M l) :
  Calls Tryz.prog 37 #[.int .i64 K, .int .i64 M, v] w fun e w' => ∃ u, e = .returned (.tuple #[u, .int .i64 0]) ∧ pRes w.heap.size w' u (putB K M l) ∧ Below w.heap.size w w' := by
 have hl0 : l ≠ [] := by rintro rfl; simp at hn
 obtain ⟨A, cA, rfl, hcA, helA⟩ := hl.sl hl0
 have HG : Aside0 (∀ W, Below w.heap.size w W → GB w.heap.size W) := ⟨fun W hW => hg.below hW⟩
 have HE : Aside0 (∀ W (i : Nat), Below w.heap.size w W → i < l.length → W.cell? (A.add i) = some (.int .i64 (V.rd l i))) := ⟨fun W i hW hi => (hW.cell (World.block_lt_of_cell? w _ (helA i hi))).trans (helA i hi)⟩
 have HZ : Aside0 (∀ {A C : World}, Below w.heap.size w A → Below A.heap.size A C → Below w.heap.size w C) := ⟨fun h1 h2 => h1.trans (h2.mono h1.size)⟩
 have HB0 : Aside0 (Below w.heap.size w w) := ⟨Below.refl _ _⟩
 have H1 : Aside0 (∀ W, Below w.heap.size w W → Calls Tryz.prog 53 #[.int .i64 K, .int .i64 1, .int .i64 8] W fun e w' => e = .returned (.bool true) ∧ Below W.heap.size W w') := ⟨fun W hW => c_III_b (M53 k) (HG.out W hW) (by show spec_l01In.f K 1 8 = _; rw [l01InP_f, decide_eq_true (by omega)])⟩
 have H2 : Aside0 (∀ W, Below w.heap.size w W → Calls Tryz.prog 53 #[.int .i64 M, .int .i64 1, .int .i64 4] W fun e w' => e = .returned (.bool true) ∧ Below W.heap.size W w') := ⟨fun W hW => c_III_b (M53 k) (HG.out W hW) (by show spec_l01In.f M 1 4 = _; rw [l01InP_f, decide_eq_true (by omega)])⟩
 have h5 : 1 ≤ (l.length : Int) := by omega
 have h6 : (l.length : Int) ≤ 120 := by omega
 have hall := chkL_all hy
 have HFr := Aside0.mk hF
 have hs256 : Aside0 (∀ n : Nat, n < l.length → 0 ≤ V.rd l n ∧ V.rd l n < 256) := ⟨fun n h => by have := (hall _ (rd_m h)).1; have := p256 K (by omega); omega⟩
 clear hl hg helA hy hF
 go_enter Tryz.func37, Tryz.ntmps37
 go_wp2_with (first
  | (go_at_call 53; first | (have hb2 := hb1; refine (H2.out _ hb1).mono ?_; rintro e w2 ⟨rfl, hb2⟩; have hb2 := HZ.out hb1 hb2) | (refine (H1.out _ HB0.out).mono ?_; rintro e w1 ⟨rfl, hb1⟩)))
 all_goals first
  | (exfalso; omega)
  | skip
 go_loopg [8] l.length (fun gg s8 wr => ∃ n : Nat, n ≤ l.length ∧ l.length - n ≤ gg ∧ s8 = .int .i64 n ∧ Aside0 (Below w.heap.size w wr))
 case atStart => exact ⟨0, Nat.zero_le _, by omega, rfl, ⟨hb2⟩⟩
 case round =>
  obtain ⟨n, hn1, hgg, rfl, HBw⟩ := hrel
  by_cases hlt : n < l.length
  ·have hltz : decide ((n : Int) < (l.length : Int)) = true := decide_eq_true (by omega)
   have hset := HE.out wr n HBw.out hlt
   obtain ⟨hin, z, ez, hz⟩ := hall _ (rd_m hlt)
   have hw := w2k K (by omega)
   have H53 : Aside0 (∀ W, Below w.heap.size w W → Calls Tryz.prog 53 #[.int .i64 (V.rd l n), .int .i64 0, .int .i64 (2 ^ K - 1)] W fun e w' => e = .returned (.bool true) ∧ Below W.heap.size W w') := ⟨fun W hW => c_III_b (M53 k) (HG.out W hW) (by show spec_l01In.f (V.rd l n) 0 (2 ^ K - 1) = _; rw [l01InP_f, decide_eq_true hin])⟩
   have H91 : Aside0 (∀ W, Below w.heap.size w W → Calls Tryz.prog 91 #[.int .i64 (V.rd l n)] W fun e w' => e = .returned (.int .i64 z) ∧ Below W.heap.size W w') := ⟨fun W hW => c_I_i (M91 k) (HG.out W hW) ez⟩
   clear ez hin
   go_wp2_with (first
    | (go_at_call 53; refine (H53.out _ HBw.out).mono ?_; rintro e w3 ⟨rfl, hb3⟩; have hb3 := HZ.out HBw.out hb3; have hset3 := HE.out w3 n hb3 hlt)
    | (go_at_call 91; refine (H91.out _ hb3).mono ?_; rintro e w4 ⟨rfl, hb4⟩; have hb4 := HZ.out hb3 hb4))
   all_goals first
    | (exfalso; omega)
    | skip
   go_roundg (l.length - (n + 1))
   case measure => omega
   case rel => exact ⟨n + 1, by omega, Nat.le_refl _, (by first | go_num | (unfold wrap64; omega)), ⟨hb4⟩⟩
  ·have hltz : decide ((n : Int) < (l.length : Int)) = false := decide_eq_false (by omega)
   clear hall hgg
   have HP0 := Aside0.mk (pW.start0 (B := w.heap.size) (W := wr) (M := M) HBw.out.size)
   have hb10 : Below w.heap.size w ((wr.alloc (.cells #[] 24)).alloc (.cells #[] 2)) := HZ.out HBw.out (two_below wr _ _)
   have HI2 : Aside0 (∃ i0 : TypeInfo, Tryz.prog.info? 2 = some i0 ∧ i0.zero = some (.int .i64 0) ∧ i0.size = 1 ∧ i0.bytes = 8) := ⟨info2⟩
   have HI24 : Aside0 (∃ i0 : TypeInfo, Tryz.prog.info? 24 = some i0 ∧ i0.zero = some nilV ∧ i0.size = 1 ∧ i0.bytes = 24) := ⟨info24⟩
   go_wp2
   go_loopg [9, 11] M (fun gg s9 s11 wq => ∃ (c : Nat) (e : Nat → Value) (g0 c0 : Nat), c ≤ M ∧ M - c ≤ gg ∧ s9 = .slice (some ⟨g0, 0, none⟩) c c0 ∧ s11 = .int .i64 c ∧ e 0 = .slice (some ⟨g0, 0, none⟩) c c0 ∧ e 1 = .slice (some ⟨wr.heap.size + 1, 0, none⟩) 0 0 ∧ Aside0 (pW w.heap.size wq [] c e (lS M [] [] (fun _ => []))) ∧ Aside0 (Below w.heap.size w wq))
   case atStart => exact ⟨0, (fun i => if i = 0 then Value.slice (some ⟨wr.heap.size, 0, none⟩) 0 0 else if i = 1 then Value.slice (some ⟨wr.heap.size + 1, 0, none⟩) 0 0 else nilV), wr.heap.size, 0, Nat.zero_le _, by omega, rfl, rfl, rfl, rfl, HP0, ⟨hb10⟩⟩
   case round =>
    obtain ⟨c, e, g0, c0, hcM, hgg, rfl, rfl, he0, he1, HP, HBc⟩ := hrel
    by_cases hclt : c < M
    ·have hltc : decide ((c : Int) < (M : Int)) = true := decide_eq_true (by omega)
     have HPo : Aside0 (∀ W, Below wr.heap.size wr W → W.ownsRow w.heap.size 24 1 (.slice (some ⟨g0, 0, none⟩) c c0) c ((List.range c).map fun i => e (i + 3))) := ⟨fun W hW => by have p := (HP.out.later hW).o; unfold pO at p; rw [he0] at p; exact p⟩
     have HAP : Aside0 (∀ w3 v3, w3.ownsRow w.heap.size 24 1 v3 (c + 1) (((List.range c).map fun i => e (i + 3)) ++ [Value.slice (some ⟨wr.heap.size, 0, none⟩) 0 0]) → ((wr.alloc (.cells #[] 2)).alloc (.cells #[Value.slice (some ⟨wr.heap.size, 0, none⟩) 0 0] 24)).grownBy w3 (Value.slice (some ⟨g0, 0, none⟩) c c0).ownBlock →
       (v3.ownBlock = (Value.slice (some ⟨g0, 0, none⟩) c c0).ownBlock ∨ v3.ownBlock = some ((wr.alloc (.cells #[] 2)).alloc (.cells #[Value.slice (some ⟨wr.heap.size, 0, none⟩) 0 0] 24)).heap.size) →
       ∃ e' : Nat → Value, e' 0 = v3 ∧ e' 1 = e 1 ∧ Aside0 (pW w.heap.size w3 [] (c + 1) e' (lS M [] [] (fun _ => []))) ∧ Aside0 (Below w.heap.size w w3)) := ⟨fun w3 v3 h1 h2 h3 => by
      obtain ⟨q1, q2⟩ := HP.out.push (w := w) (v := v3) HBc.out rfl (lS_3 hclt) h1 (by rw [he0]; exact h2) (by rw [he0]; exact h3)
      exact ⟨_, up_eq _ _ _, by rw [up_ne _ _ (by omega), up_ne _ _ (by omega)], ⟨q1⟩, ⟨q2⟩⟩⟩
     obtain ⟨i0, hi0, hz0, hs0, hy0⟩ := HI24.out
     have HI0 := Aside0.mk hi0
     have HZ0 := Aside0.mk hz0
     have HS0 := Aside0.mk hs0
     have HY0 := Aside0.mk hy0
     have HWb : Aside0 (Below wr.heap.size wr ((wr.alloc (.cells #[] 2)).alloc (.cells #[Value.slice (some ⟨wr.heap.size, 0, none⟩) 0 0] 24))) := ⟨two_below wr _ _⟩
     have HM1 : Aside0 (c + 1 ≤ maxLen ∧ (c + 1) * 24 ≤ 140737488355328) := ⟨by unfold maxLen; omega⟩
     have HBs : Aside0 (w.heap.size ≤ ((wr.alloc (.cells #[] 2)).alloc (.cells #[Value.slice (some ⟨wr.heap.size, 0, none⟩) 0 0] 24)).heap.size) := ⟨by have := HBc.out.size; simp; omega⟩
     clear hi0 hz0 hs0 hy0
     go_wp2_with (first
      | (at_builtin; go_loud (refine wpList_append_own_at _ rfl _ _ 54 rfl w.heap.size 24 i0 nilV 1 24 und54 HI0.out HZ0.out HS0.out HY0.out rfl (by decide) (.slice (some ⟨g0, 0, none⟩) c c0) c ((List.range c).map fun i => e (i + 3)) rfl (HPo.out _ HWb.out) ⟨wr.heap.size + 1, 0, none⟩ 1 1 [Value.slice (some ⟨wr.heap.size, 0, none⟩) 0 0] rfl rfl (fun j u hu => news1 (t := 24) j u (by exact two_new wr (.cells #[] 2) #[Value.slice (some ⟨wr.heap.size, 0, none⟩) 0 0] 24) hu) (fun u hu => by rw [List.mem_singleton.1 hu]; rfl) HM1.out.1 HM1.out.2 HBs.out ?_; intro v3 w3 hown3 hgr3 _ hbl3; obtain ⟨rv3, cv3, rfl⟩ := own_shape hown3; obtain ⟨e', q0, q1, hP3, hB3⟩ := HAP.out _ _ hown3 hgr3 hbl3; clear hown3 hgr3 hbl3)))
     go_roundg (M - (c + 1))
     case measure => omega
     case rel => exact ⟨c + 1, e', _, _, by omega, Nat.le_refl _, rfl, (by first | go_num | (unfold wrap64; omega)), q0, q1.trans he1, hP3, hB3⟩
    ·have hltc : decide ((c : Int) < (M : Int)) = false := decide_eq_false (by omega)
     obtain rfl : M = c := by omega
     go_wp2
     go_loopg [10, 12] K (fun gg s10 s12 wq => ∃ (i : Nat) (e : Nat → Value) (g1 c1 : Nat), i ≤ K ∧ K - i ≤ gg ∧ s10 = .slice (some ⟨g1, 0, none⟩) i c1 ∧ s12 = .int .i64 i ∧ e 0 = .slice (some ⟨g0, 0, none⟩) M c0 ∧ e 1 = .slice (some ⟨g1, 0, none⟩) i c1 ∧ Aside0 (pW w.heap.size wq [] M e (lS M (List.replicate i (-1)) [] (fun _ => []))) ∧ Aside0 (Below w.heap.size w wq))
     case atStart => exact ⟨0, e, _, _, Nat.zero_le _, by omega, rfl, rfl, he0, he1, HP, HBc⟩
     case round =>
      obtain ⟨i, e, g1, c1, hiK, hgg, rfl, rfl, he0, he1, HP, HB⟩ := hrel
      by_cases hilt : i < K
      ·have hlti : decide ((i : Int) < (K : Int)) = true := decide_eq_true (by omega)
       have HPo : Aside0 (∀ W, Below wr.heap.size wr W → W.ownsRow w.heap.size 2 1 (.slice (some ⟨g1, 0, none⟩) i c1) i ((List.replicate i (-1)).map (Value.int .i64))) := ⟨fun W hW => by
        have p := (HP.out.later hW).r.rows 1 (by omega)
        unfold bOw at p
        rw [he1, lS_1, List.length_replicate] at p
        exact p⟩
       have HAP : Aside0 (∀ w3 v3, w3.ownsRow w.heap.size 2 1 v3 (i + 1) ((List.replicate i (-1)).map (Value.int .i64) ++ [Value.int .i64 (-1)]) → (wr.alloc (.cells #[Value.int .i64 (-1)] 2)).grownBy w3 (Value.slice (some ⟨g1, 0, none⟩) i c1).ownBlock →
         (v3.ownBlock = (Value.slice (some ⟨g1, 0, none⟩) i c1).ownBlock ∨ v3.ownBlock = some (wr.alloc (.cells #[Value.int .i64 (-1)] 2)).heap.size) →
         ∃ e' : Nat → Value, e' 1 = v3 ∧ (∀ j, j ≠ 1 → e' j = e j) ∧ Aside0 (pW w.heap.size w3 [] M e' (lS M (List.replicate (i + 1) (-1)) [] (fun _ => []))) ∧ Aside0 (Below w.heap.size w w3)) := ⟨fun w3 v3 h1 h2 h3 => by
        obtain ⟨q1, q2⟩ := HP.out.ext (w := w) (i := 1) (v := v3) (x := -1) HB.out rfl (by omega) (by omega) ((Below.refl _ _).alloc (Nat.le_refl _) _) (by rw [lS_1, List.length_replicate]; exact h1) (by rw [he1]; exact h2) (by rw [he1]; exact h3)
        rw [lS_up1, lS_1, ← List.replicate_succ'] at q1
        exact ⟨_, up_eq _ _ _, fun j hj => up_ne _ _ hj, ⟨q1⟩, ⟨q2⟩⟩⟩
       obtain ⟨i0, hi0, hz0, hs0, hy0⟩ := HI2.out
       have HI0 := Aside0.mk hi0
       have HZ0 := Aside0.mk hz0
       have HS0 := Aside0.mk hs0
       have HY0 := Aside0.mk hy0
       have HWb : Aside0 (Below wr.heap.size wr (wr.alloc (.cells #[Value.int .i64 (-1)] 2))) := ⟨(Below.refl _ _).alloc (Nat.le_refl _) _⟩
       have HM1 : Aside0 (i + 1 ≤ maxLen ∧ (i + 1) * 8 ≤ 140737488355328) := ⟨by unfold maxLen; omega⟩
       have HBs : Aside0 (w.heap.size ≤ (wr.alloc (.cells #[Value.int .i64 (-1)] 2)).heap.size) := ⟨by have := HB.out.size; simp; omega⟩
       clear hi0 hz0 hs0 hy0
       go_wp2_with (first
        | (at_builtin; go_loud (refine wpList_append_own_at _ rfl _ _ 24 rfl w.heap.size 2 i0 (.int .i64 0) 1 8 und24 HI0.out HZ0.out HS0.out HY0.out rfl (by decide) (.slice (some ⟨g1, 0, none⟩) i c1) i ((List.replicate i (-1)).map (Value.int .i64)) rfl (HPo.out _ HWb.out) ⟨wr.heap.size, 0, none⟩ 1 1 [Value.int .i64 (-1)] rfl rfl (fun j u hu => news1 (t := 2) j u (by exact heap_alloc_new wr _) hu) (fun u hu => by rw [List.mem_singleton.1 hu]; rfl) HM1.out.1 HM1.out.2 HBs.out ?_; intro v3 w3 hown3 hgr3 _ hbl3; obtain ⟨rv3, cv3, rfl⟩ := own_shape hown3; obtain ⟨e', q0, q1, hP3, hB3⟩ := HAP.out _ _ hown3 hgr3 hbl3; clear hown3 hgr3 hbl3)))
       go_roundg (K - (i + 1))
       case measure => omega
       case rel => exact ⟨i + 1, e', _, _, by omega, Nat.le_refl _, rfl, (by first | go_num | (unfold wrap64; omega)), (q1 0 (by omega)).trans he0, q0, hP3, hB3⟩
      ·have hlti : decide ((i : Int) < (K : Int)) = false := decide_eq_false (by omega)
       obtain rfl : K = i := by omega
       have HPk : Aside0 (pW w.heap.size wr [] M e (lS M (lbA K M l 0) [] (rowB K M l 0))) := HP
       clear HP
       go_wp2
       go_loopg [13] l.length (fun gg s13 wq => ∃ (n : Nat) (e : Nat → Value) (sl : List Int), n ≤ l.length ∧ l.length - n ≤ gg ∧ s13 = .int .i64 n ∧ e 0 = .slice (some ⟨g0, 0, none⟩) M c0 ∧ e 1 = .slice (some ⟨g1, 0, none⟩) K c1 ∧ Aside0 (pW w.heap.size wq [] M e (lS M (lbA K M l n) sl (rowB K M l n))) ∧ Aside0 (Below w.heap.size w wq))
       case atStart => exact ⟨0, e, _, Nat.zero_le _, by omega, rfl, he0, he1, HPk, HB⟩
       case round =>
        obtain ⟨n, e, sl, hn1, hgg, rfl, he0, he1, HP, HB⟩ := hrel
        by_cases hlt : n < l.length
        ·have hltn : decide ((n : Int) < (l.length : Int)) = true := decide_eq_true (by omega)
         have HP2 : Aside0 (pW w.heap.size (wr.alloc (.cells #[] 2)) [] M (up e 2 (.slice (some ⟨wr.heap.size, 0, none⟩) 0 0)) (lS M (lbA K M l n) (List.replicate 0 (-1)) (rowB K M l n))) := ⟨by
          have p := HP.out.fresh (i := 2) (v := .slice (some ⟨wr.heap.size, 0, none⟩) 0 0) (x := []) (by omega) (by omega) HB.out.size ((Below.refl _ _).alloc (Nat.le_refl _) (.cells #[] 2)) ⟨rfl, .inr ⟨wr.heap.size, 0, #[], rfl, Nat.le_refl _, heap_alloc_new wr _, Nat.le_refl _, by decide, rfl, rfl⟩⟩
          rw [lS_up2] at p
          exact p⟩
         have hb11 : Below w.heap.size w (wr.alloc (.cells #[] 2)) := HZ.out HB.out ((Below.refl _ _).alloc (Nat.le_refl _) _)
         have hs9 := hs256.out n hlt
         have HLa := Aside0.mk (lbA_ok HFr.out n (by omega))
         have hF9 := Aside0.mk (HFr.out n hlt)
         go_wp2
         go_loopg [14, 15] M (fun gg s14 s15 wq => ∃ (i : Nat) (e : Nat → Value) (g2 c2 : Nat), i ≤ M ∧ M - i ≤ gg ∧ s14 = .slice (some ⟨g2, 0, none⟩) i c2 ∧ s15 = .int .i64 i ∧ e 0 = .slice (some ⟨g0, 0, none⟩) M c0 ∧ e 1 = .slice (some ⟨g1, 0, none⟩) K c1 ∧ e 2 = .slice (some ⟨g2, 0, none⟩) i c2 ∧ Aside0 (pW w.heap.size wq [] M e (lS M (lbA K M l n) (List.replicate i (-1)) (rowB K M l n))) ∧ Aside0 (Below w.heap.size w wq))
         case atStart => exact ⟨0, _, _, _, Nat.zero_le _, by omega, rfl, rfl, by rw [up_ne _ _ (by omega)]; exact he0, by rw [up_ne _ _ (by omega)]; exact he1, up_eq _ _ _, HP2, ⟨hb11⟩⟩
         case round =>
          obtain ⟨i, e, g2, c2, hiM, hgg, rfl, rfl, he0, he1, he2, HP, HB⟩ := hrel
          by_cases hilt : i < M
          ·have hlti : decide ((i : Int) < (M : Int)) = true := decide_eq_true (by omega)
           have HPo : Aside0 (∀ W, Below wr.heap.size wr W → W.ownsRow w.heap.size 2 1 (.slice (some ⟨g2, 0, none⟩) i c2) i ((List.replicate i (-1)).map (Value.int .i64))) := ⟨fun W hW => by
            have p := (HP.out.later hW).r.rows 2 (by omega)
            unfold bOw at p
            rw [he2, lS_2, List.length_replicate] at p
            exact p⟩
           have HAP : Aside0 (∀ w3 v3, w3.ownsRow w.heap.size 2 1 v3 (i + 1) ((List.replicate i (-1)).map (Value.int .i64) ++ [Value.int .i64 (-1)]) → (wr.alloc (.cells #[Value.int .i64 (-1)] 2)).grownBy w3 (Value.slice (some ⟨g2, 0, none⟩) i c2).ownBlock →
             (v3.ownBlock = (Value.slice (some ⟨g2, 0, none⟩) i c2).ownBlock ∨ v3.ownBlock = some (wr.alloc (.cells #[Value.int .i64 (-1)] 2)).heap.size) →
             ∃ e' : Nat → Value, e' 2 = v3 ∧ (∀ j, j ≠ 2 → e' j = e j) ∧ Aside0 (pW w.heap.size w3 [] M e' (lS M (lbA K M l n) (List.replicate (i + 1) (-1)) (rowB K M l n))) ∧ Aside0 (Below w.heap.size w w3)) := ⟨fun w3 v3 h1 h2 h3 => by
            obtain ⟨q1, q2⟩ := HP.out.ext (w := w) (i := 2) (v := v3) (x := -1) HB.out rfl (by omega) (by omega) ((Below.refl _ _).alloc (Nat.le_refl _) _) (by rw [lS_2, List.length_replicate]; exact h1) (by rw [he2]; exact h2) (by rw [he2]; exact h3)
            rw [lS_up2, lS_2, ← List.replicate_succ'] at q1
            exact ⟨_, up_eq _ _ _, fun j hj => up_ne _ _ hj, ⟨q1⟩, ⟨q2⟩⟩⟩
           obtain ⟨i0, hi0, hz0, hs0, hy0⟩ := HI2.out
           have HI0 := Aside0.mk hi0
           have HZ0 := Aside0.mk hz0
           have HS0 := Aside0.mk hs0
           have HY0 := Aside0.mk hy0
           have HWb : Aside0 (Below wr.heap.size wr (wr.alloc (.cells #[Value.int .i64 (-1)] 2))) := ⟨(Below.refl _ _).alloc (Nat.le_refl _) _⟩
           have HM1 : Aside0 (i + 1 ≤ maxLen ∧ (i + 1) * 8 ≤ 140737488355328) := ⟨by unfold maxLen; omega⟩
           have HBs : Aside0 (w.heap.size ≤ (wr.alloc (.cells #[Value.int .i64 (-1)] 2)).heap.size) := ⟨by have := HB.out.size; simp; omega⟩
           clear hi0 hz0 hs0 hy0
           go_wp2_with (first
            | (at_builtin; go_loud (refine wpList_append_own_at _ rfl _ _ 24 rfl w.heap.size 2 i0 (.int .i64 0) 1 8 und24 HI0.out HZ0.out HS0.out HY0.out rfl (by decide) (.slice (some ⟨g2, 0, none⟩) i c2) i ((List.replicate i (-1)).map (Value.int .i64)) rfl (HPo.out _ HWb.out) ⟨wr.heap.size, 0, none⟩ 1 1 [Value.int .i64 (-1)] rfl rfl (fun j u hu => news1 (t := 2) j u (by exact heap_alloc_new wr _) hu) (fun u hu => by rw [List.mem_singleton.1 hu]; rfl) HM1.out.1 HM1.out.2 HBs.out ?_; intro v3 w3 hown3 hgr3 _ hbl3; obtain ⟨rv3, cv3, rfl⟩ := own_shape hown3; obtain ⟨e', q0, q1, hP3, hB3⟩ := HAP.out _ _ hown3 hgr3 hbl3; clear hown3 hgr3 hbl3)))
           go_roundg (M - (i + 1))
           case measure => omega
           case rel => exact ⟨i + 1, e', _, _, by omega, Nat.le_refl _, rfl, (by first | go_num | (unfold wrap64; omega)), (q1 0 (by omega)).trans he0, (q1 1 (by omega)).trans he1, q0, hP3, hB3⟩
          ·have hlti : decide ((i : Int) < (M : Int)) = false := decide_eq_false (by omega)
           obtain rfl : M = i := by omega
           have HPt : Aside0 (pW w.heap.size wr [] M e (lS M (turnQ K M (lbA K M l n) (V.rd l n) 0).2 (turnQ K M (lbA K M l n) (V.rd l n) 0).1 (rowB K M l n))) := HP
           clear HP HP2
           go_wp2
           go_loopg [16] 2 (fun gg s16 wq => ∃ j : Nat, j ≤ 2 ∧ 2 - j ≤ gg ∧ s16 = .int .i64 j ∧ Aside0 (pW w.heap.size wq [] M e (lS M (turnQ K M (lbA K M l n) (V.rd l n) j).2 (turnQ K M (lbA K M l n) (V.rd l n) j).1 (rowB K M l n))) ∧ Aside0 (Below w.heap.size w wq))
           case atStart => exact ⟨0, by omega, by omega, rfl, HPt, HB⟩
           case round =>
            obtain ⟨j, hj2, hgg, rfl, HP, HB⟩ := hrel
            by_cases hj0 : j = 0
            ·subst hj0
             go_wp2
             go_loopg [17] K (fun gg s17 wq => ∃ i : Nat, i ≤ K ∧ K - i ≤ gg ∧ s17 = .int .i64 i ∧ Aside0 (pW w.heap.size wq [] M e (lS M (lbA K M l n) (pasA0 (lbA K M l n) (V.rd l n) (List.replicate M (-1)) i) (rowB K M l n))) ∧ Aside0 (Below w.heap.size w wq))
             case atStart => exact ⟨0, by omega, by omega, rfl, HP, HB⟩
             case round =>
              obtain ⟨i, hiK, hgg, rfl, HPi, HB⟩ := hrel
              by_cases hilt : i < K
              ·have hlti : decide ((i : Int) < (K : Int)) = true := decide_eq_true (by omega)
               have hbit := bit_is hs9 (show i < 8 by omega)
               have hset := HE.out wr n HB.out hlt
               have hnx : pasA0 (lbA K M l n) (V.rd l n) (List.replicate M (-1)) (i + 1) = stepA0 (lbA K M l n) (V.rd l n) i (pasA0 (lbA K M l n) (V.rd l n) (List.replicate M (-1)) i) := rfl
               have hok : OkL K M (pasA0 (lbA K M l n) (V.rd l n) (List.replicate M (-1)) i) := pasA0_ok (.rep _ _ (by omega)) i (by omega)
               generalize pasA0 (lbA K M l n) (V.rd l n) (List.replicate M (-1)) i = sl at HPi hnx hok
               have hp22 := HPi.out
               have hb22 := HB.out
               have r1 := hp22.r.rows 1 (by omega)
               have r2 := hp22.r.rows 2 (by omega)
               rw [he1, lS_1] at r1
               rw [he2, lS_2] at r2
               have hq2 := (r1.cell (i := i) (by rw [HLa.out.len]; exact hilt)).1
               obtain ⟨hz1, hz2⟩ := HLa.out.rd hilt
               by_cases hb : bitS (V.rd l n) i = true
               ·rw [hb] at hbit
                have hbit : decide (Go.bits .and .i64 (V.rd l n / 2 ^ i) 1 = 0) = false := hbit
                have hbit2 : (Go.bits .and .i64 (V.rd l n / 2 ^ i) 1 == 0) = false := hbit
                have hns : stepA0 (lbA K M l n) (V.rd l n) i sl = if 0 ≤ V.rd (lbA K M l n) i ∧ V.rd sl (V.rd (lbA K M l n) i) < 0 then sl.set (V.rd (lbA K M l n) i).toNat i else sl := by unfold stepA0; rw [if_neg (by rw [hb]; decide)]
                by_cases h0 : 0 ≤ V.rd (lbA K M l n) i
                ·obtain ⟨c, hc⟩ := Int.eq_ofNat_of_zero_le h0
                 have hcM : c < M := by omega
                 rw [hc] at hns hq2
                 obtain ⟨hq3, hq4⟩ := r2.cell (i := c) (by rw [hok.len]; exact hcM)
                 by_cases hv : V.rd sl (c : Int) < 0
                 ·rw [if_pos ⟨by omega, hv⟩, Int.toNat_natCast] at hns
                  rw [hns] at hnx
                  have HE9 := Aside0.mk hnx
                  clear hns hnx
                  go_wp2
                  all_goals first
                   | (exfalso; omega)
                   | skip
                  go_roundg (K - (i + 1))
                  case measure => omega
                  case rel => exact ⟨i + 1, by omega, Nat.le_refl _, (by first | go_num | (unfold wrap64; omega)), ⟨by rw [HE9.out]; have p := hp22.put (i := 2) (x := (i : Int)) (j := c) (by omega) (by omega) he2 (by rw [lS_2, hok.len]; exact hcM); rw [lS_up2] at p; exact p⟩, ⟨below_set hb22 (hp22.ge (i := 2) (by omega) he2) _⟩⟩
                 ·rw [if_neg (fun h => hv h.2)] at hns
                  rw [hns] at hnx
                  have HE9 := Aside0.mk hnx
                  clear hns hnx
                  go_wp2
                  all_goals first
                   | (exfalso; omega)
                   | skip
                  go_roundg (K - (i + 1))
                  case measure => omega
                  case rel => exact ⟨i + 1, by omega, Nat.le_refl _, (by first | go_num | (unfold wrap64; omega)), ⟨by rw [HE9.out]; exact hp22⟩, ⟨hb22⟩⟩
                ·rw [if_neg (fun h => h0 h.1)] at hns
                 rw [hns] at hnx
                 have HE9 := Aside0.mk hnx
                 clear hns hnx
                 go_wp2
                 all_goals first
                  | (exfalso; omega)
                  | skip
                 go_roundg (K - (i + 1))
                 case measure => omega
                 case rel => exact ⟨i + 1, by omega, Nat.le_refl _, (by first | go_num | (unfold wrap64; omega)), ⟨by rw [HE9.out]; exact hp22⟩, ⟨hb22⟩⟩
               ·have hbf : bitS (V.rd l n) i = false := by simpa using hb
                rw [hbf] at hbit
                have hbit : decide (Go.bits .and .i64 (V.rd l n / 2 ^ i) 1 = 0) = true := hbit
                have hbit2 : (Go.bits .and .i64 (V.rd l n / 2 ^ i) 1 == 0) = true := hbit
                have hns : stepA0 (lbA K M l n) (V.rd l n) i sl = sl := by unfold stepA0; rw [if_pos hbf]
                rw [hns] at hnx
                have HE9 := Aside0.mk hnx
                clear hns hnx
                go_wp2
                go_roundg (K - (i + 1))
                case measure => omega
                case rel => exact ⟨i + 1, by omega, Nat.le_refl _, (by first | go_num | (unfold wrap64; omega)), ⟨by rw [HE9.out]; exact hp22⟩, ⟨hb22⟩⟩
              ·have hlti : decide ((i : Int) < (K : Int)) = false := decide_eq_false (by omega)
               have hiK2 : i = K := by omega
               rw [hiK2] at HPi
               go_wp2
               go_roundg (2 - (0 + 1))
               case measure => omega
               case rel => exact ⟨1, by omega, by omega, rfl, HPi, HB⟩
            ·by_cases hj1 : j = 1
             ·subst hj1
              go_wp2
              go_loopg [17] K (fun gg s17 wq => ∃ i : Nat, i ≤ K ∧ K - i ≤ gg ∧ s17 = .int .i64 i ∧ Aside0 (pW w.heap.size wq [] M e (lS M (pasA1 (V.rd l n) (pasA0 (lbA K M l n) (V.rd l n) (List.replicate M (-1)) K, lbA K M l n) i).2 (pasA1 (V.rd l n) (pasA0 (lbA K M l n) (V.rd l n) (List.replicate M (-1)) K, lbA K M l n) i).1 (rowB K M l n))) ∧ Aside0 (Below w.heap.size w wq))
              case atStart => exact ⟨0, by omega, by omega, rfl, HP, HB⟩
              case round =>
               obtain ⟨i, hiK, hgg, rfl, HPi, HB⟩ := hrel
               by_cases hilt : i < K
               ·have hlti : decide ((i : Int) < (K : Int)) = true := decide_eq_true (by omega)
                have hbit := bit_is hs9 (show i < 8 by omega)
                have hset := HE.out wr n HB.out hlt
                have hnx : pasA1 (V.rd l n) (pasA0 (lbA K M l n) (V.rd l n) (List.replicate M (-1)) K, lbA K M l n) (i + 1) = stepA1 (V.rd l n) i (pasA1 (V.rd l n) (pasA0 (lbA K M l n) (V.rd l n) (List.replicate M (-1)) K, lbA K M l n) i) := rfl
                have hok := pasA1_ok (p := (pasA0 (lbA K M l n) (V.rd l n) (List.replicate M (-1)) K, lbA K M l n)) (s := V.rd l n) (pasA0_ok (.rep _ _ (by omega)) K (Nat.le_refl _)) HLa.out hF9.out i (by omega)
                have hfr := hF9.out i hilt
                generalize pasA1 (V.rd l n) (pasA0 (lbA K M l n) (V.rd l n) (List.replicate M (-1)) K, lbA K M l n) i = p at HPi hnx hok hfr
                obtain ⟨sl, la⟩ := p
                have hok : OkL K M sl ∧ OkL M K la := hok
                have hfr : bitS (V.rd l n) i = true → freeS sl < M ∨ ¬ (V.rd la i < 0 ∨ V.rd sl (V.rd la i) ≠ i) := hfr
                have HPi : Aside0 (pW w.heap.size wr [] M e (lS M la sl (rowB K M l n))) := HPi
                have r1 := HPi.out.r.rows 1 (by omega)
                have r2 := HPi.out.r.rows 2 (by omega)
                rw [he1, lS_1] at r1
                rw [he2, lS_2] at r2
                have hq2 := (r1.cell (i := i) (by rw [hok.2.len]; exact hilt)).1
                obtain ⟨hz1, hz2⟩ := hok.2.rd hilt
                by_cases hb : bitS (V.rd l n) i = true
                ·rw [hb] at hbit
                 have hbit : decide (Go.bits .and .i64 (V.rd l n / 2 ^ i) 1 = 0) = false := hbit
                 have hbit2 : (Go.bits .and .i64 (V.rd l n / 2 ^ i) 1 == 0) = false := hbit
                 have hfr := hfr hb
                 have hns : stepA1 (V.rd l n) i (sl, la) = if V.rd la i < 0 ∨ V.rd sl (V.rd la i) ≠ i then (sl.set (freeS sl) i, la.set i (freeS sl)) else (sl, la) := by unfold stepA1; rw [if_neg (by rw [hb]; decide)]
                 by_cases h0 : 0 ≤ V.rd la i
                 ·obtain ⟨c, hc⟩ := Int.eq_ofNat_of_zero_le h0
                  have hcM : c < M := by omega
                  rw [hc] at hns hq2 hfr
                  obtain ⟨hq7, hq8⟩ := r2.cell (i := c) (by rw [hok.1.len]; exact hcM)
                  by_cases hv9 : V.rd sl (c : Int) = i
                  ·rw [if_neg (by rintro (h | h); omega; exact h hv9)] at hns
                   rw [hns] at hnx
                   have HE9 := Aside0.mk hnx
                   have hv7 : (V.rd sl (c : Int) != (i : Int)) = false := by rw [hv9]; simp
                   have hv8 : decide (V.rd sl (c : Int) = (i : Int)) = true := decide_eq_true hv9
                   clear hns hnx hfr r1 r2
                   go_wp2
                   all_goals first
                    | (exfalso; omega)
                    | skip
                   go_roundg (K - (i + 1))
                   case measure => omega
                   case rel => exact ⟨i + 1, by omega, Nat.le_refl _, (by first | go_num | (unfold wrap64; omega)), ⟨by rw [HE9.out]; exact HPi.out⟩, HB⟩
                  ·have hfl : freeS sl < M := hfr.resolve_right fun h => h (.inr hv9)
                   rw [if_pos (.inr hv9)] at hns
                   rw [hns] at hnx
                   have HE9 := Aside0.mk hnx
                   have hv7 : (V.rd sl (c : Int) != (i : Int)) = true := by rw [bne_iff_ne]; exact hv9
                   have hv8 : decide (V.rd sl (c : Int) = (i : Int)) = false := decide_eq_false hv9
                   clear hns hnx hfr r1 r2
                   go_wp2
                   all_goals first
                    | (exfalso; omega)
                    | skip
                   go_loopg [18] (freeS sl) (fun gg s18 wq => ∃ c : Nat, c ≤ freeS sl ∧ freeS sl - c ≤ gg ∧ s18 = .int .i64 c ∧ Aside0 (pW w.heap.size wq [] M e (lS M la sl (rowB K M l n))) ∧ Aside0 (Below w.heap.size w wq))
                   case atStart => exact ⟨0, by omega, by omega, rfl, HPi, HB⟩
                   case round =>
                    obtain ⟨c, hcf, hgg, rfl, HPw, HB⟩ := hrel
                    have hcM : c < M := by omega
                    have hp22 := HPw.out
                    have r2 := hp22.r.rows 2 (by omega)
                    rw [he2, lS_2] at r2
                    obtain ⟨hq3, hq4⟩ := r2.cell (i := c) (by rw [hok.1.len]; exact hcM)
                    by_cases hcl : c < freeS sl
                    ·have hv := (freeS_lt hcl).2
                     have hv2 : decide (0 ≤ V.rd sl (c : Int)) = true := decide_eq_true hv
                     go_wp2
                     go_roundg (freeS sl - (c + 1))
                     case measure => omega
                     case rel => exact ⟨c + 1, by omega, Nat.le_refl _, (by first | go_num | (unfold wrap64; omega)), HPw, HB⟩
                    ·obtain rfl : c = freeS sl := by omega
                     have hv : V.rd sl (freeS sl : Int) < 0 := freeS_at (by rw [hok.1.len]; exact hfl)
                     have hv2 : decide (0 ≤ V.rd sl (freeS sl : Int)) = false := decide_eq_false (by omega)
                     have hp33 := hp22.put (i := 2) (x := (i : Int)) (j := freeS sl) (by omega) (by omega) he2 (by rw [lS_2, hok.1.len]; exact hcM)
                     rw [lS_up2, lS_2] at hp33
                     have r1 := hp33.r.rows 1 (by omega)
                     rw [he1, lS_1] at r1
                     obtain ⟨hq5, hq6⟩ := r1.cell (i := i) (by rw [hok.2.len]; exact hilt)
                     have hb33 := below_set (j := freeS sl) HB.out (hp22.ge (i := 2) (by omega) he2) (Value.int .i64 (i : Int))
                     have hp44 := hp33.put (i := 1) (x := (freeS sl : Int)) (j := i) (by omega) (by omega) he1 (by rw [lS_1, hok.2.len]; exact hilt)
                     rw [lS_up1, lS_1] at hp44
                     have hb44 := below_set (j := i) hb33 (hp33.ge (i := 1) (by omega) he1) (Value.int .i64 (freeS sl : Int))
                     have HP44 := Aside0.mk hp44
                     clear r1 r2 hp33 hp44 hp22
                     go_wp2
                     go_roundg (K - (i + 1))
                     case measure => omega
                     case rel => exact ⟨i + 1, by omega, Nat.le_refl _, (by first | go_num | (unfold wrap64; omega)), ⟨by rw [HE9.out]; exact HP44.out⟩, ⟨hb44⟩⟩
                 ·have hfl : freeS sl < M := hfr.resolve_right fun h => h (.inl (by omega))
                  rw [if_pos (.inl (by omega))] at hns
                  rw [hns] at hnx
                  have HE9 := Aside0.mk hnx
                  clear hns hnx hfr r1 r2
                  go_wp2
                  all_goals first
                   | (exfalso; omega)
                   | skip
                  go_loopg [18] (freeS sl) (fun gg s18 wq => ∃ c : Nat, c ≤ freeS sl ∧ freeS sl - c ≤ gg ∧ s18 = .int .i64 c ∧ Aside0 (pW w.heap.size wq [] M e (lS M la sl (rowB K M l n))) ∧ Aside0 (Below w.heap.size w wq))
                  case atStart => exact ⟨0, by omega, by omega, rfl, HPi, HB⟩
                  case round =>
                   obtain ⟨c, hcf, hgg, rfl, HPw, HB⟩ := hrel
                   have hcM : c < M := by omega
                   have hp22 := HPw.out
                   have r2 := hp22.r.rows 2 (by omega)
                   rw [he2, lS_2] at r2
                   obtain ⟨hq3, hq4⟩ := r2.cell (i := c) (by rw [hok.1.len]; exact hcM)
                   by_cases hcl : c < freeS sl
                   ·have hv := (freeS_lt hcl).2
                    have hv2 : decide (0 ≤ V.rd sl (c : Int)) = true := decide_eq_true hv
                    go_wp2
                    go_roundg (freeS sl - (c + 1))
                    case measure => omega
                    case rel => exact ⟨c + 1, by omega, Nat.le_refl _, (by first | go_num | (unfold wrap64; omega)), HPw, HB⟩
                   ·obtain rfl : c = freeS sl := by omega
                    have hv : V.rd sl (freeS sl : Int) < 0 := freeS_at (by rw [hok.1.len]; exact hfl)
                    have hv2 : decide (0 ≤ V.rd sl (freeS sl : Int)) = false := decide_eq_false (by omega)
                    have hp33 := hp22.put (i := 2) (x := (i : Int)) (j := freeS sl) (by omega) (by omega) he2 (by rw [lS_2, hok.1.len]; exact hcM)
                    rw [lS_up2, lS_2] at hp33
                    have r1 := hp33.r.rows 1 (by omega)
                    rw [he1, lS_1] at r1
                    obtain ⟨hq5, hq6⟩ := r1.cell (i := i) (by rw [hok.2.len]; exact hilt)
                    have hb33 := below_set (j := freeS sl) HB.out (hp22.ge (i := 2) (by omega) he2) (Value.int .i64 (i : Int))
                    have hp44 := hp33.put (i := 1) (x := (freeS sl : Int)) (j := i) (by omega) (by omega) he1 (by rw [lS_1, hok.2.len]; exact hilt)
                    rw [lS_up1, lS_1] at hp44
                    have hb44 := below_set (j := i) hb33 (hp33.ge (i := 1) (by omega) he1) (Value.int .i64 (freeS sl : Int))
                    have HP44 := Aside0.mk hp44
                    clear r1 r2 hp33 hp44 hp22
                    go_wp2
                    go_roundg (K - (i + 1))
                    case measure => omega
                    case rel => exact ⟨i + 1, by omega, Nat.le_refl _, (by first | go_num | (unfold wrap64; omega)), ⟨by rw [HE9.out]; exact HP44.out⟩, ⟨hb44⟩⟩
                ·have hbf : bitS (V.rd l n) i = false := by simpa using hb
                 rw [hbf] at hbit
                 have hbit : decide (Go.bits .and .i64 (V.rd l n / 2 ^ i) 1 = 0) = true := hbit
                 have hbit2 : (Go.bits .and .i64 (V.rd l n / 2 ^ i) 1 == 0) = true := hbit
                 have hns : stepA1 (V.rd l n) i (sl, la) = (sl, la) := by unfold stepA1; rw [if_pos hbf]
                 rw [hns] at hnx
                 have HE9 := Aside0.mk hnx
                 clear hns hnx hfr r1 r2
                 go_wp2
                 all_goals first
                  | (exfalso; omega)
                  | skip
                 go_roundg (K - (i + 1))
                 case measure => omega
                 case rel => exact ⟨i + 1, by omega, Nat.le_refl _, (by first | go_num | (unfold wrap64; omega)), ⟨by rw [HE9.out]; exact HPi.out⟩, HB⟩
               ·have hlti : decide ((i : Int) < (K : Int)) = false := decide_eq_false (by omega)
                have hiK2 : i = K := by omega
                rw [hiK2] at HPi
                go_wp2
                go_roundg (2 - (1 + 1))
                case measure => omega
                case rel => exact ⟨2, by omega, by omega, rfl, HPi, HB⟩
             ·have hj22 : j = 2 := by omega
              have HP6 : Aside0 (pW w.heap.size wr [] M e (lS M (lbA K M l (n + 1)) (slB K M l n) (fun c' => rowB K M l (if c' < 0 then n + 1 else n) c'))) := ⟨by rw [hj22] at HP; exact HP.out⟩
              rw [hj22]
              have HSl : Aside0 (OkL K M (slB K M l n)) := ⟨(pasA1_ok (pasA0_ok (.rep _ _ (by omega)) K (Nat.le_refl _)) HLa.out hF9.out K (Nat.le_refl _)).1⟩
              clear HP HPt hgg
              go_wp2
              go_loopg [178] M (fun gg s178 wq => ∃ (c : Nat) (e : Nat → Value), c ≤ M ∧ M - c ≤ gg ∧ s178 = .int .i64 c ∧ e 0 = .slice (some ⟨g0, 0, none⟩) M c0 ∧ e 1 = .slice (some ⟨g1, 0, none⟩) K c1 ∧ e 2 = .slice (some ⟨g2, 0, none⟩) M c2 ∧ Aside0 (pW w.heap.size wq [] M e (lS M (lbA K M l (n + 1)) (slB K M l n) (fun c' => rowB K M l (if c' < c then n + 1 else n) c'))) ∧ Aside0 (Below w.heap.size w wq))
              case atStart => exact ⟨0, e, Nat.zero_le _, by omega, rfl, he0, he1, he2, HP6, HB⟩
              case round =>
               obtain ⟨c, e, hcM, hgg6, rfl, he0, he1, he2, HPc, HBc⟩ := hrel
               by_cases hclt : c < M
               ·have hltc : decide ((c : Int) < (M : Int)) = true := decide_eq_true (by omega)
                have hxr := HSl.out.rd hclt
                have hp := HPc.out
                have r2 := hp.r.rows 2 (by omega)
                rw [he2, lS_2] at r2
                have hcs := (r2.cell (i := c) (by rw [HSl.out.len]; exact hclt)).1
                obtain ⟨g9, c9, e0, -, hoc⟩ := hp.oc (by omega)
                rw [he0] at e0
                cases e0
                have hcell := hoc c hclt
                have e3 : lS M (lbA K M l (n + 1)) (slB K M l n) (fun c' => rowB K M l (if c' < c then n + 1 else n) c') (c + 3) = rowB K M l n c := by rw [lS_3 hclt, if_neg (Nat.lt_irrefl c)]
                have HPo : Aside0 (∀ W, Below wr.heap.size wr W → W.ownsRow w.heap.size 2 1 (e (c + 3)) n ((rowB K M l n c).map (Value.int .i64))) := ⟨fun W hW => by
                 have r3 := (hp.later hW).r.rows (c + 3) (by omega)
                 rw [e3] at r3
                 unfold bOw at r3
                 rw [rowB_len] at r3
                 exact r3⟩
                have HAP : Aside0 (∀ W w3 (v3 : Value), Below wr.heap.size wr W → W.grownBy w3 (e (c + 3)).ownBlock → w3.ownsRow w.heap.size 2 1 v3 (n + 1) ((rowB K M l n c).map (Value.int .i64) ++ [Value.int .i64 (V.rd (slB K M l n) c)]) → (v3.ownBlock = (e (c + 3)).ownBlock ∨ v3.ownBlock = some W.heap.size) →
                  w3.cell? ⟨g0, c, none⟩ = some (e (c + 3)) ∧ w3.frozen? ⟨g0, c, none⟩ = false ∧ Aside0 (Below w.heap.size w (w3.setCell ⟨g0, c, none⟩ v3)) ∧ ∃ e' : Nat → Value, e' 0 = .slice (some ⟨g0, 0, none⟩) M c0 ∧ e' 1 = .slice (some ⟨g1, 0, none⟩) K c1 ∧ e' 2 = .slice (some ⟨g2, 0, none⟩) M c2 ∧
                  Aside0 (pW w.heap.size (w3.setCell ⟨g0, c, none⟩ v3) [] M e' (lS M (lbA K M l (n + 1)) (slB K M l n) (fun c' => rowB K M l (if c' < c + 1 then n + 1 else n) c')))) := ⟨fun W w3 v3 h1 h2 h3 h4 => by
                 obtain ⟨q1, q2, q3, q4⟩ := hp.grow (x := V.rd (slB K M l n) c) HBc.out rfl hclt h1 he0 (by rw [e3, rowB_len]; exact h3) h2 h4
                 refine ⟨q1, q2, ⟨q4⟩, up e (c + 3) v3, by rw [up_ne _ _ (by omega)]; exact he0, by rw [up_ne _ _ (by omega)]; exact he1, by rw [up_ne _ _ (by omega)]; exact he2, ⟨?_⟩⟩
                 rw [e3, ← rowB_succ, lS_up3 hclt] at q3
                 rw [lS_congr (rows' := fun c' => rowB K M l (if c' < c + 1 then n + 1 else n) c')] at q3
                 ·exact q3
                 ·intro c' hc'
                  by_cases h : c' = c
                  ·subst h; rw [up_eq, if_pos (by omega)]
                  ·rw [up_ne _ _ h]
                   show rowB K M l (if c' < c then n + 1 else n) c' = _
                   by_cases h2 : c' < c
                   ·rw [if_pos h2, if_pos (by omega)]
                   ·rw [if_neg h2, if_neg (by omega)]⟩
                obtain ⟨i0, hi0, hz0, hs0, hy0⟩ := HI2.out
                have HI0 := Aside0.mk hi0
                have HZ0 := Aside0.mk hz0
                have HS0 := Aside0.mk hs0
                have HY0 := Aside0.mk hy0
                have HWb : Aside0 (∀ o, Below wr.heap.size wr (wr.alloc o).drew ∧ Below wr.heap.size wr (wr.drew.alloc o)) := ⟨fun o => ⟨Below.drew ((Below.refl _ _).alloc (Nat.le_refl _) _), (Below.drew (Below.refl _ _)).alloc (Nat.le_refl _) _⟩⟩
                have HM1 : Aside0 (n + 1 ≤ maxLen ∧ (n + 1) * 8 ≤ 140737488355328) := ⟨by unfold maxLen; omega⟩
                have HBs : Aside0 (w.heap.size ≤ wr.heap.size + 1) := ⟨by have := HBc.out.size; omega⟩
                have HN : Aside0 (∀ (g : Nat) (a : Nat) (b : Nat), ((e (c + 3)).ownBlock = some g ∨ g = wr.heap.size + 1) → (Value.slice (some ⟨g, 0, none⟩) a b).ownBlock = (e (c + 3)).ownBlock ∨ (Value.slice (some ⟨g, 0, none⟩) a b).ownBlock = some (wr.heap.size + 1)) := ⟨fun g a b h => by
                 rcases h with h | h
                 ·exact .inl h.symm
                 ·exact .inr (by rw [h]; rfl)⟩
                clear hi0 hz0 hs0 hy0 hp r2 hoc e3
                have hcell2 : (wr.alloc (.cells #[Value.int .i64 (V.rd (slB K M l n) c)] 2)).cell? ⟨g0, c, none⟩ = some (e (c + 3)) := (((Below.refl wr.heap.size wr).alloc (Nat.le_refl _) (.cells #[Value.int .i64 (V.rd (slB K M l n) c)] 2)).cell (World.block_lt_of_cell? wr _ hcell)).trans hcell
                go_wp2
                go_region_law (first
                 | (go_loud (refine step_append_lies _ rfl _ _ 24 rfl w.heap.size 2 i0 (.int .i64 0) 1 8 und24 HI0.out HZ0.out HS0.out HY0.out rfl (by decide) (e (c + 3)) n ((rowB K M l n c).map (Value.int .i64)) rfl (HPo.out _ (by first | exact (HWb.out _).1 | exact (HWb.out _).2)) ⟨wr.heap.size, 0, none⟩ 1 1 [Value.int .i64 (V.rd (slB K M l n) c)] rfl rfl (fun j u hu => news1 (t := 2) j u (by exact heap_alloc_new wr _) hu) (fun u hu => by rw [List.mem_singleton.1 hu]; rfl) (by decide) HM1.out.1 HM1.out.2 (by exact Nat.le_trans HBs.out (Nat.le_of_eq (by simp))) (wr.heap.size + 1) (by simp) ?_; intro g3 cap3 w3 hown3 hgr3 hbl3 _; obtain ⟨hx3, hf3, hB3, e', q0, q1, q2, hP3⟩ := HAP.out _ _ _ (by first | exact (HWb.out _).1 | exact (HWb.out _).2) hgr3 hown3 (by have h := HN.out _ (n + 1) cap3 hbl3; simpa using h))))
                all_goals (
                 clear hown3 hgr3 hbl3 hx3 hf3
                 generalize (w3.setCell ⟨g0, c, none⟩ (.slice (some ⟨g3, 0, none⟩) (n + 1) cap3)) = w4 at hP3 hB3 ⊢
                 go_wp2
                 go_roundg (M - (c + 1))
                 case measure => omega
                 case rel => exact ⟨c + 1, e', by omega, Nat.le_refl _, (by first | go_num | (unfold wrap64; omega)), q0, q1, q2, hP3, hB3⟩)
               ·have hltc : decide ((c : Int) < (M : Int)) = false := decide_eq_false (by omega)
                have hcM2 : c = M := by omega
                have HPn : Aside0 (pW w.heap.size wr [] M e (lS M (lbA K M l (n + 1)) (slB K M l n) (rowB K M l (n + 1)))) := ⟨by
                 have p := HPc.out
                 rw [hcM2, lS_congr (rows' := rowB K M l (n + 1)) (fun c' hc' => by show rowB K M l (if c' < M then n + 1 else n) c' = _; rw [if_pos hc'])] at p
                 exact p⟩
                go_wp2
                go_roundg (l.length - (n + 1))
                case measure => omega
                case rel => exact ⟨n + 1, e, _, by omega, Nat.le_refl _, (by first | go_num | (unfold wrap64; omega)), he0, he1, HPn, HBc⟩
        ·have hltn : decide ((n : Int) < (l.length : Int)) = false := decide_eq_false (by omega)
         have hnl : n = l.length := by omega
         have HPn : Aside0 (pRes w.heap.size wr (.slice (some ⟨g0, 0, none⟩) M c0) (putB K M l)) := ⟨by
          have p := HP.out
          rw [hnl] at p
          have e9 : (putB K M l).length = M := by simp [putB]
          refine ⟨e, _, by rw [e9]; exact p, he0.symm, ?_⟩
          rw [e9]
          exact List.map_congr_left fun c hc => (lS_3 (List.mem_range.1 hc)).symm⟩
         go_wp2
         go_returns
         exact ⟨_, rfl, HPn.out, HB.out⟩
end Go.Proofs.YtcbhhbkghbnljaaGreatDoor.Vf
end
section
set_option linter.unusedVariables false
set_option linter.unusedSimpArgs false
set_option maxRecDepth 100000
noncomputable section
namespace Go.Proofs.YtcbhhbkghbnljaaGreatDoor.Vf
open Go Go.V Go.RowKit Go.Proofs
theorem spec_put_calls (k : Nat) {w : World} {N : Nat → Prop} {v : Value} {l : List Int} {a0 a1 c : Int} {rs : List (List Int)} (hl : bRL w N v l) (hg : GB w.heap.size w) (hy : spec_PutSets.f k a0 a1 l = some (rs, c)) :
  Calls Tryz.prog 37 #[.int .i64 a0, .int .i64 a1, v] w fun e w' => ∃ u, e = .returned (.tuple #[u, .int .i64 c]) ∧ pRes w.heap.size w' u rs ∧ Below w.heap.size w w' := by
 have no : some (([] : List (List Int)), (2 : Int)) = some (rs, c) → (Calls Tryz.prog 37 #[.int .i64 a0, .int .i64 a1, v] w fun e w' => e = .returned (.tuple #[nilV, .int .i64 2]) ∧ Below w.heap.size w w') → Calls Tryz.prog 37 #[.int .i64 a0, .int .i64 a1, v] w fun e w' => ∃ u, e = .returned (.tuple #[u, .int .i64 c]) ∧ pRes w.heap.size w' u rs ∧ Below w.heap.size w w' := fun h hc => by
  obtain ⟨rfl, rfl⟩ := Prod.mk.inj (Option.some.inj h)
  refine hc.mono ?_
  rintro e w' ⟨rfl, hb⟩
  exact ⟨nilV, rfl, pRes_nil _ _, hb⟩
 unfold spec_PutSets.f at hy
 obtain ⟨t1, e1, hy⟩ := Option.bind_eq_some_iff.1 hy
 cases t1 with
 | false => rw [if_pos rfl] at hy; exact no hy (spec_put_no k hl hg (.inl e1))
 | true =>
  rw [if_neg (by decide)] at hy
  obtain ⟨t2, e2, hy⟩ := Option.bind_eq_some_iff.1 hy
  cases t2 with
  | false => rw [if_pos rfl] at hy; exact no hy (spec_put_no k hl hg (.inr ⟨e1, .inl e2⟩))
  | true =>
   rw [if_neg (by decide)] at hy
   by_cases h1 : (l.length : Int) < 1
   ·rw [if_pos h1] at hy; exact no hy (spec_put_no k hl hg (.inr ⟨e1, .inr ⟨e2, .inl h1⟩⟩))
   ·rw [if_neg h1] at hy
    by_cases h2 : (120 : Int) < l.length
    ·rw [if_pos h2] at hy; exact no hy (spec_put_no k hl hg (.inr ⟨e1, .inr ⟨e2, .inr ⟨h1, h2⟩⟩⟩))
    ·rw [if_neg h2] at hy
     split at hy
     case isFalse => cases hy
     rename_i hq
     obtain ⟨hK, hM⟩ := hq
     obtain ⟨K, rfl⟩ := Int.eq_ofNat_of_zero_le (show 0 ≤ a0 by omega)
     obtain ⟨M, rfl⟩ := Int.eq_ofNat_of_zero_le (show 0 ≤ a1 by omega)
     rw [Int.toNat_natCast, Int.toNat_natCast] at hy
     obtain ⟨b, eb, hy⟩ := Option.bind_eq_some_iff.1 hy
     cases b with
     | true => rw [if_pos rfl] at hy; exact no hy (spec_put_bad k hl hg (by omega) (by omega) (by omega) eb)
     | false =>
      rw [if_neg (by decide)] at hy
      split at hy
      case isFalse => cases hy
      rename_i hF
      obtain ⟨rfl, rfl⟩ := Prod.mk.inj (Option.some.inj hy)
      exact spec_put_yes k hl hg (by omega) (by omega) (by omega) eb hF
def S37 (k : Nat) : Does := ⟨[sI, sI, sL], [sM, sI], U3 (spec_PutSets.f k)⟩
theorem M37 (k) : Meets Tryz.prog 37 (S37 k) := put_meets Tryz.func37 (by kernel_rfl) (by kernel_rfl) fun hl hg hy => spec_put_calls k hl hg hy
end Go.Proofs.YtcbhhbkghbnljaaGreatDoor.Vf
end
