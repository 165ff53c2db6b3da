/- What tasks, states, waits and draws give, plainly. Conditions: as each theorem states. My own. -/
import Derived.Test.YtcbhhbkghbnljaaFb
set_option linter.unusedVariables false
set_option linter.unusedSimpArgs false
namespace Go.Proofs.Ytcbhhbkghbnljaa.Vf
open Go Go.V Go.RowKit
theorem w64 {x : Int} (h : -9223372036854775808 ≤ x) (h2 : x ≤ 9223372036854775807) : wrap64 x = x := by unfold wrap64; omega
theorem cu {i : Nat} (h : i ≤ 9223372036854775806) : wrap64 ((i : Int) + 1) = ((i + 1 : Nat) : Int) := by rw [w64 (by omega) (by omega)]; omega
theorem eY (l : List Int) (i : Nat) : rd l (i : Int) = l.getD i 0 := by unfold rd; rw [Int.toNat_natCast]
theorem wg {l : List Int} {i : Nat} (h : i < l.length) : rd l (i : Int) = l[i] := by rw [eY, List.getD_eq_getElem?_getD, List.getElem?_eq_getElem h, Option.getD_some]
theorem oK {α : Type} (d : α) (l : List α) (i : Nat) : cP d l (i : Int) = l.getD i d := by unfold cP; rw [Int.toNat_natCast]
theorem yv {α : Type} {d : α} {l : List α} {i : Nat} (h : i < l.length) : cP d l (i : Int) = l[i] := by rw [oK, List.getD_eq_getElem?_getD, List.getElem?_eq_getElem h, Option.getD_some]
theorem fq {l : List Int} {i : Nat} (h : i < l.length) : rd l (i : Int) ∈ l := by rw [wg h]; exact List.getElem_mem h
theorem drop_cons {l : List Int} {i : Nat} (h : i < l.length) : l.drop i = rd l (i : Int) :: l.drop (i + 1) := by rw [wg h]; exact List.drop_eq_getElem_cons h
theorem DN {γ : Type} {L : Nat → List Int → γ → Int → Int → Option Int} {p : Int → Bool} {l : List Int} {c : γ}
  (hs : ∀ n (i : Nat), i < l.length → L (n + 1) l c l.length i = if p (rd l i) = true then some (i : Int) else L n l c l.length ((i + 1 : Nat) : Int)) (he : ∀ n, L (n + 1) l c l.length l.length = some (-1)) :
  ∀ (d i n : Nat), l.length - i = d → i ≤ l.length → d < n → ∃ j : Int, L n l c l.length i = some j ∧ ((0 ≤ j) ↔ ∃ x ∈ l.drop i, p x = true) := by
 intro d
 induction d with
 | zero =>
  intro i n hd hi hn
  obtain rfl : i = l.length := by omega
  cases n with
  | zero => omega
  | succ n => exact ⟨-1, he n, by simp⟩
 | succ d ih =>
  intro i n hd hi hn
  cases n with
  | zero => omega
  | succ n =>
   rw [hs n i (by omega), drop_cons (by omega)]
   by_cases hp : p (rd l i) = true
   ·rw [if_pos hp]
    exact ⟨i, rfl, by simp [hp]⟩
   ·rw [if_neg hp]
    obtain ⟨j, h1, h2⟩ := ih (i + 1) n (by omega) (by omega) (by omega)
    exact ⟨j, h1, by rw [h2]; simp [hp]⟩
theorem Dk {l : List Int} {p q : Int → Bool} (h : ∀ x, p x = !q x) {j : Int} (hj : (0 ≤ j) ↔ ∃ x ∈ l, p x = true) : (!decide (decide (0 ≤ j) = true)) = l.all q := by
 rw [Bool.eq_iff_iff]
 simp only [Bool.not_eq_true', decide_eq_false_iff_not, decide_eq_true_eq, List.all_eq_true]
 rw [hj]
 constructor
 ·intro hn x hx
  cases hq : q x with
  | true => rfl
  | false => exact absurd ⟨x, hx, by rw [h, hq]; rfl⟩ hn
 ·rintro hall ⟨x, hx, hp⟩
  rw [h, hall x hx] at hp
  cases hp
theorem jO (a b c : Int) : bq.f a b c = some (decide (b ≤ a ∧ a ≤ c)) := by
 unfold bq.f
 by_cases h : b ≤ a <;> simp [h]
theorem gJ (a b c : Int) : dj.f a b c = some (decide (b ≤ a ∧ a ≤ c)) := by
 unfold dj.f
 by_cases h : b ≤ a <;> simp [h]
theorem tr (l : List Int) : dx.f l = some (l.length : Int) := rfl
theorem xt (l : List Int) : dy.f l = some (l.length : Int) := rfl
theorem pK (l : List Int) : di.f l = some (l.length : Int) := rfl
def xf (g : Int) : Bool := decide (1 ≤ g ∧ g ≤ 40)
def isT (l : List Int) : Bool := decide (1 ≤ l.length ∧ l.length ≤ 8) && l.all xf
theorem DO {l : List Int} : isT l = true ↔ (1 ≤ l.length ∧ l.length ≤ 8) ∧ ∀ g ∈ l, 1 ≤ g ∧ g ≤ 40 := by
 unfold isT xf
 simp [List.all_eq_true]
theorem BJ {k : Nat} {l : List Int} (hl : l.length ≤ 1048576) : ∀ (d i n : Nat), l.length - i = d → i ≤ l.length → d < n →
  ca.l0 k n l i = some ((l.drop i).all xf && decide (1 ≤ l.length ∧ l.length ≤ 8)) := by
 intro d
 induction d with
 | zero =>
  intro i n hd hi hn
  obtain rfl : i = l.length := by omega
  cases n with
  | zero => omega
  | succ n =>
   simp only [ca.l0, ca.s0]
   rw [if_neg (by omega), List.drop_length]
   simp only [pK, jO, Option.bind_some, List.all_nil, Bool.true_and]
   congr 2
   simp only [eq_iff_iff]; omega
 | succ d ih =>
  intro i n hd hi hn
  cases n with
  | zero => omega
  | succ n =>
   simp only [ca.l0, ca.s0]
   rw [if_pos (by omega), if_pos (by omega), if_pos (by omega), jO, Option.bind_some, drop_cons (by omega), List.all_cons]
   by_cases e : 1 ≤ rd l i ∧ rd l i ≤ 40
   ·rw [if_pos (by simpa using e), cu (by omega), ih (i + 1) n (by omega) (by omega) (by omega)]
    simp [xf, e]
   ·rw [if_neg (by simpa using e)]
    simp only [xf, e, decide_false, Bool.false_and]
theorem xm {k : Nat} {l : List Int} (hk : 2097152 ≤ k) (hl : l.length ≤ 1048576) : ca.f k l = some (isT l) := by
 unfold ca.f ca.g
 have := BJ (k := k) hl l.length 0 k (by omega) (by omega) (by omega)
 exact this.trans (by rw [List.drop_zero, isT, Bool.and_comm])
theorem wS {k : Nat} {l : List Int} (hk : 2097152 ≤ k) (hl : l.length ≤ 1048576) : cI.f k l () = some (l.all xf) := by
 obtain ⟨j, h1, h2⟩ := DN (L := ag.l0 k) (p := fun x => !xf x) (l := l) (c := ())
  (fun n i hi => by
   simp only [ag.l0, ag.s0]
   rw [if_pos (by omega), if_pos (by omega), if_pos (by omega)]
   simp only [cV.f, jr.f, gJ, Option.bind_some, xf, cu (show i ≤ 9223372036854775806 by omega)]
   by_cases h : 1 ≤ rd l i ∧ rd l i ≤ 40 <;> simp [h])
  (fun n => by
   simp only [ag.l0, ag.s0]
   rw [if_neg (by omega)]) l.length 0 k (by omega) (by omega) (by omega)
 unfold cI.f bK.f ag.f ag.g
 rw [show ag.l0 k k l () l.length 0 = some j from h1, Option.bind_some, Option.bind_some]
 rw [List.drop_zero] at h2
 congr 1
 exact Dk (p := fun x => !xf x) (fun _ => rfl) h2
theorem Fw {k : Nat} {l : List Int} (hk : 2097152 ≤ k) (hl : l.length ≤ 1048576) : iR.f k l = some (isT l) := by
 unfold iR.f
 simp only [tr, gJ, Option.bind_some, wS hk hl]
 unfold isT
 by_cases h : 1 ≤ l.length ∧ l.length ≤ 8
 ·rw [if_pos (by simp; omega)]; simp [h]
 ·rw [if_neg (by simp; omega)]; simp [h]
theorem qK {k : Nat} {l : List Int} (hk : 2097152 ≤ k) (hl : l.length ≤ 1048576) (b : Bool) : fh.f k l b = some (if isT l then (if b then 0 else 2) else 1) := by
 unfold fh.f
 rw [Fw hk hl, Option.bind_some]
 cases isT l <;> cases b <;> rfl
def Gp (G : List Int) : Prop := ∀ g ∈ G, 1 ≤ g ∧ g ≤ 40
theorem Gp.tail {g : Int} {G : List Int} (h : Gp (g :: G)) : Gp G := fun x hx => h x (by simp [hx])
theorem Gp.head {g : Int} {G : List Int} (h : Gp (g :: G)) : 1 ≤ g ∧ g ≤ 40 := h g (by simp)
def cnt : List Int → Int
 | [] => 1
 | g :: G => g * cnt G
theorem dO : ∀ {G : List Int}, Gp G → 1 ≤ cnt G
 | [], _ => by simp [cnt]
 | g :: G, h => by
  have h1 := dO h.tail
  have h2 := h.head
  simp only [cnt]
  exact Int.le_trans h2.1 (by have := Int.mul_le_mul_of_nonneg_left h1 (show (0:Int) ≤ g by omega); simpa using this)
theorem GI : ∀ {G : List Int}, Gp G → cnt G ≤ 40 ^ G.length
 | [], _ => by simp [cnt]
 | g :: G, h => by
  have h1 := GI h.tail
  have h2 := h.head
  have h3 := dO h.tail
  simp only [cnt, List.length_cons, Int.pow_succ]
  rw [Int.mul_comm ((40:Int) ^ G.length)]
  exact Int.mul_le_mul h2.2 h1 (by omega) (by omega)
theorem HJ {n : Nat} (h : n ≤ 8) : (40 : Int) ^ n ≤ 6553600000000 := by
 have : n = 0 ∨ n = 1 ∨ n = 2 ∨ n = 3 ∨ n = 4 ∨ n = 5 ∨ n = 6 ∨ n = 7 ∨ n = 8 := by omega
 rcases this with rfl | rfl | rfl | rfl | rfl | rfl | rfl | rfl | rfl <;> decide
theorem iY {G : List Int} (h : Gp G) (hl : G.length ≤ 8) : cnt G ≤ 6553600000000 := Int.le_trans (GI h) (HJ hl)
theorem kg : ∀ {G : List Int} (i : Nat), Gp G → Gp (G.drop i)
 | G, i, h => fun x hx => h x (List.mem_of_mem_drop hx)
def kn : Int → List Int → List Int → Int
 | a, g :: G, s :: S => kn (a * g + s - 1) G S
 | a, _, _ => a
def num (G S : List Int) : Int := kn 0 G S
def Stt : List Int → List Int → Prop
 | [], [] => True
 | g :: G, s :: S => (1 ≤ s ∧ s ≤ g) ∧ Stt G S
 | _, _ => False
theorem Stt.length : ∀ {G S : List Int}, Stt G S → S.length = G.length
 | [], [], _ => rfl
 | g :: G, s :: S, h => by simp [Stt.length h.2]
 | [], _ :: _, h => h.elim
 | _ :: _, [], h => h.elim
theorem mQ : ∀ {G S : List Int} (a : Int), S.length = G.length → kn a G S = a * cnt G + kn 0 G S
 | [], [], a, _ => by simp [kn, cnt]
 | g :: G, s :: S, a, h => by
  have hl : S.length = G.length := by simpa using h
  simp only [kn, cnt]
  rw [mQ (a * g + s - 1) hl, mQ (0 * g + s - 1) hl]
  simp only [Int.add_mul, Int.sub_mul, Int.mul_assoc, Int.zero_mul, Int.one_mul]
  omega
 | [], _ :: _, _, h => by simp at h
 | _ :: _, [], _, h => by simp at h
theorem jR : ∀ {G S : List Int}, Gp G → Stt G S → 0 ≤ num G S ∧ num G S < cnt G
 | [], [], _, _ => by simp [num, kn, cnt]
 | g :: G, s :: S, hG, h => by
  obtain ⟨h1, h2⟩ := jR hG.tail h.2
  have hl := h.2.length
  unfold num at *
  simp only [kn, cnt]
  rw [mQ _ hl]
  have h3 := dO hG.tail
  have h4 : (0 * g + s - 1) * cnt G ≤ (g - 1) * cnt G := Int.mul_le_mul_of_nonneg_right (by have := h.1.2; omega) (by omega)
  have h5 : 0 ≤ (0 * g + s - 1) * cnt G := Int.mul_nonneg (by have := h.1.1; omega) (by omega)
  have h6 : (g - 1) * cnt G = g * cnt G - cnt G := by rw [Int.sub_mul, Int.one_mul]
  omega
 | [], _ :: _, _, h => h.elim
 | _ :: _, [], _, h => h.elim
def ofA : List Int → Int → List Int × Int
 | [], n => ([], n)
 | g :: G, n => (((ofA G n).2 % g + 1) :: (ofA G n).1, (ofA G n).2 / g)
def ofN (G : List Int) (n : Int) : List Int := (ofA G n).1
theorem rC : ∀ (G : List Int) (n : Int), (ofA G n).1.length = G.length
 | [], _ => rfl
 | g :: G, n => by simp [ofA, rC G n]
theorem JV (G : List Int) (n : Int) : (ofN G n).length = G.length := rC G n
theorem kN : ∀ {G : List Int} (n : Int), Gp G → Stt G (ofN G n)
 | [], n, _ => trivial
 | g :: G, n, h => by
  have hg := h.head
  refine ⟨?_, kN n h.tail⟩
  have := Int.emod_nonneg (ofA G n).2 (show g ≠ 0 by omega)
  have := Int.emod_lt_of_pos (ofA G n).2 (show 0 < g by omega)
  omega
theorem rD : ∀ {G : List Int} (n : Int), Gp G → (ofA G n).2 = n / cnt G
 | [], n, _ => by simp [ofA, cnt]
 | g :: G, n, h => by
  simp only [ofA, cnt]
  rw [rD n h.tail, Int.ediv_ediv_of_nonneg (by have := dO h.tail; omega), Int.mul_comm]
theorem Ee : ∀ {G : List Int} (n : Int), Gp G → num G (ofN G n) = n % cnt G
 | [], n, _ => by simp [num, kn, ofN, ofA, cnt]
 | g :: G, n, h => by
  have ih := Ee n h.tail
  have hl := JV G n
  have hp := dO h.tail
  unfold num ofN at *
  simp only [kn, ofA, cnt]
  rw [mQ _ hl, ih, rD n h.tail]
  have e1 : (0 * g + (n / cnt G % g + 1) - 1) = n / cnt G % g := by omega
  rw [e1]
  have h1 := Int.emod_add_mul_ediv n (cnt G)
  have h2 := Int.emod_add_mul_ediv (n / cnt G) g
  have h3 := Int.emod_add_mul_ediv n (g * cnt G)
  have h4 : n / (g * cnt G) = n / cnt G / g := by rw [Int.ediv_ediv_of_nonneg (by omega), Int.mul_comm]
  rw [h4] at h3
  have h5 : g * cnt G * (n / cnt G / g) = g * (n / cnt G / g) * cnt G := by rw [Int.mul_assoc, Int.mul_comm (cnt G), ← Int.mul_assoc]
  have h6 : cnt G * (n / cnt G) = (n / cnt G) * cnt G := Int.mul_comm _ _
  rw [h5] at h3
  have h7 : (n / cnt G) * cnt G = (n / cnt G % g) * cnt G + g * (n / cnt G / g) * cnt G := by rw [← Int.add_mul, h2]
  omega
theorem Ef {G : List Int} {n : Int} (h : Gp G) (h0 : 0 ≤ n) (h1 : n < cnt G) : num G (ofN G n) = n := by
 rw [Ee n h, Int.emod_eq_of_lt h0 h1]
theorem KX : ∀ {G S S' : List Int}, Gp G → Stt G S → Stt G S' → num G S = num G S' → S = S'
 | [], [], [], _, _, _, _ => rfl
 | g :: G, s :: S, s' :: S', hG, h, h', e => by
  have hp := dO hG.tail
  obtain ⟨a1, a2⟩ := jR hG.tail h.2
  obtain ⟨b1, b2⟩ := jR hG.tail h'.2
  unfold num at *
  simp only [kn] at e
  rw [mQ _ h.2.length, mQ _ h'.2.length] at e
  have hs : s = s' := by
   rcases Int.lt_trichotomy s s' with hlt | rfl | hlt
   ·exfalso
    have : (0 * g + s - 1 + 1) * cnt G ≤ (0 * g + s' - 1) * cnt G := Int.mul_le_mul_of_nonneg_right (by omega) (by omega)
    rw [Int.add_mul, Int.one_mul] at this
    omega
   ·rfl
   ·exfalso
    have : (0 * g + s' - 1 + 1) * cnt G ≤ (0 * g + s - 1) * cnt G := Int.mul_le_mul_of_nonneg_right (by omega) (by omega)
    rw [Int.add_mul, Int.one_mul] at this
    omega
  subst hs
  rw [KX hG.tail h.2 h'.2 (by unfold num; omega)]
 | [], _ :: _, _, _, h, _, _ => h.elim
 | [], [], _ :: _, _, _, h, _ => h.elim
 | _ :: _, [], _, _, h, _, _ => h.elim
 | _ :: _, _ :: _, [], _, _, h, _ => h.elim
theorem ym {G S : List Int} (h : Gp G) (hs : Stt G S) : ofN G (num G S) = S :=
 KX h (kN _ h) hs (Ef h (jR h hs).1 (jR h hs).2)
def swp (good : List Bool → Nat → Bool) : Nat → Nat → List Bool → Bool → List Bool × Bool
 | 0, _, L, ch => (L, ch)
 | d + 1, i, L, ch => if L.getD i false = true then (if good L i = true then swp good d (i + 1) L ch else swp good d (i + 1) (L.set i false) true) else swp good d (i + 1) L ch
def j5 (good : List Bool → Nat → Bool) : Nat → List Bool → Bool → Option (List Bool)
 | 0, _, _ => none
 | n + 1, L, ch => match ch with
  | true => j5 good n (swp good L.length 0 L false).1 (swp good L.length 0 L false).2
  | false => some L
theorem kV (good : List Bool → Nat → Bool) : ∀ (d i : Nat) (L : List Bool) (ch : Bool), (swp good d i L ch).1.length = L.length
 | 0, _, _, _ => rfl
 | d + 1, i, L, ch => by
  simp only [swp]
  split
  ·split
   ·exact kV good d _ _ _
   ·rw [kV good d]; simp
  ·exact kV good d _ _ _
def nw (L : List Bool) : Nat := (L.filter (· = true)).length
theorem wK : ∀ {L : List Bool} {i : Nat}, L.getD i false = true → nw (L.set i false) + 1 = nw L
 | [], i, h => by simp at h
 | b :: L, 0, h => by
  have : b = true := by simpa using h
  subst this
  simp [nw]
 | b :: L, i + 1, h => by
  have ih := wK (L := L) (i := i) (by simpa using h)
  unfold nw at *
  cases b <;> simp [List.filter_cons] at * <;> omega
theorem o9 (good : List Bool → Nat → Bool) : ∀ (d i : Nat) (L : List Bool) (ch : Bool), nw (swp good d i L ch).1 ≤ nw L ∧ ((swp good d i L ch).2 = true → ch = true ∨ nw (swp good d i L ch).1 < nw L)
 | 0, _, _, _ => ⟨Nat.le_refl _, fun h => .inl h⟩
 | d + 1, i, L, ch => by
  simp only [swp]
  split
  ·rename_i h1
   split
   ·exact o9 good d _ _ _
   ·have := o9 good d (i + 1) (L.set i false) true
    have h3 := wK h1
    exact ⟨by omega, fun _ => .inr (by omega)⟩
  ·exact o9 good d _ _ _
theorem zw (good : List Bool → Nat → Bool) : ∀ (n : Nat) (L : List Bool) (ch : Bool), nw L + 1 < n → ∃ L', j5 good n L ch = some L' ∧ L'.length = L.length
 | 0, L, ch, h => by omega
 | n + 1, L, ch, h => by
  cases ch with
  | false => exact ⟨L, rfl, rfl⟩
  | true =>
   simp only [j5]
   obtain ⟨h1, h2⟩ := o9 good L.length 0 L false
   cases hc : (swp good L.length 0 L false).2 with
   | false =>
    cases n with
    | zero => omega
    | succ n => exact ⟨_, rfl, kV _ _ _ _ _⟩
   | true =>
    rcases h2 hc with h3 | h3
    ·cases h3
    ·obtain ⟨L', h4, h5⟩ := zw good n (swp good L.length 0 L false).1 true (by omega)
     exact ⟨L', h4, h5.trans (kV _ _ _ _ _)⟩
theorem Ik (L : List Bool) : nw L ≤ L.length := List.length_filter_le _ _
theorem cF {G : List Int} (h : isT G = true) : Gp G := (DO.1 h).2
theorem cB {G : List Int} (h : isT G = true) : 1 ≤ G.length ∧ G.length ≤ 8 := (DO.1 h).1
theorem DV {a g c B : Int} (ha : 1 ≤ a) (hg : 1 ≤ g) (hc : 1 ≤ c) (h : a * (g * c) ≤ B) : 1 ≤ a * g ∧ a * g ≤ B := by
 have h1 : 1 ≤ a * g := by have := Int.mul_le_mul ha hg (by omega) (by omega); simpa using this
 refine ⟨h1, Int.le_trans ?_ h⟩
 rw [← Int.mul_assoc]
 have := Int.mul_le_mul_of_nonneg_left hc (show (0:Int) ≤ a * g by omega)
 simpa using this
theorem ve {k : Nat} {G : List Int} (hG : Gp G) (hl : G.length ≤ 8) : ∀ (d i n : Nat) (a : Int), G.length - i = d → i ≤ G.length → d < n → 1 ≤ a → a * cnt (G.drop i) ≤ 6553600000000 →
  bF.l0 k n G a i = some (a * cnt (G.drop i)) := by
 intro d
 induction d with
 | zero =>
  intro i n a hd hi hn ha hb
  obtain rfl : i = G.length := by omega
  cases n with
  | zero => omega
  | succ n =>
   simp only [bF.l0, bF.s0]
   rw [if_neg (by omega), List.drop_length]
   simp [cnt]
 | succ d ih =>
  intro i n a hd hi hn ha hb
  cases n with
  | zero => omega
  | succ n =>
   simp only [bF.l0, bF.s0]
   rw [drop_cons (by omega)] at hb ⊢
   simp only [cnt] at hb ⊢
   have hg := hG _ (fq (l := G) (i := i) (by omega))
   have hc := dO (kg (i + 1) hG)
   obtain ⟨h1, h2⟩ := DV ha hg.1 hc hb
   rw [if_pos (by omega), if_pos (by omega), if_pos (by omega), w64 (by omega) (by omega), cu (by omega), ih (i + 1) n _ (by omega) (by omega) (by omega) h1 (by rw [Int.mul_assoc]; exact hb), Int.mul_assoc]
theorem ti {k : Nat} {G : List Int} (hk : 2097152 ≤ k) (h : isT G = true) : bF.f k G = some (cnt G) := by
 unfold bF.f bF.g
 have hc := iY (cF h) (cB h).2
 have := cB h
 have := ve (k := k) (cF h) (cB h).2 G.length 0 k 1 (by omega) (by omega) (by omega) (by omega) (by rw [List.drop_zero]; omega)
 exact this.trans (by rw [List.drop_zero, Int.one_mul])
theorem Au {k : Nat} {G : List Int} (hG : Gp G) (hl : G.length ≤ 8) : ∀ (d i n : Nat) (a : Int), G.length - i = d → i ≤ G.length → d < n → 1 ≤ a → a * cnt (G.drop i) ≤ 6553600000000 →
  a7.l0 k n a G G.length i = some (a * cnt (G.drop i)) := by
 intro d
 induction d with
 | zero =>
  intro i n a hd hi hn ha hb
  obtain rfl : i = G.length := by omega
  cases n with
  | zero => omega
  | succ n =>
   simp only [a7.l0, a7.s0]
   rw [if_neg (by omega), List.drop_length]
   simp [cnt]
 | succ d ih =>
  intro i n a hd hi hn ha hb
  cases n with
  | zero => omega
  | succ n =>
   simp only [a7.l0, a7.s0]
   rw [drop_cons (by omega)] at hb ⊢
   simp only [cnt] at hb ⊢
   have hg := hG _ (fq (l := G) (i := i) (by omega))
   have hc := dO (kg (i + 1) hG)
   obtain ⟨h1, h2⟩ := DV ha hg.1 hc hb
   rw [if_pos (by omega), if_pos (by omega), if_pos (by omega), w64 (by omega) (by omega), cu (by omega), ih (i + 1) n _ (by omega) (by omega) (by omega) h1 (by rw [Int.mul_assoc]; exact hb), Int.mul_assoc]
theorem As {k : Nat} {G : List Int} (hk : 2097152 ≤ k) (h : isT G = true) : a7.f k G = some (cnt G) := by
 unfold a7.f a7.g
 have hc := iY (cF h) (cB h).2
 have := cB h
 have := Au (k := k) (cF h) (cB h).2 G.length 0 k 1 (by omega) (by omega) (by omega) (by omega) (by rw [List.drop_zero]; omega)
 exact this.trans (by rw [List.drop_zero, Int.one_mul])
theorem yJ {k : Nat} {G : List Int} (hk : 2097152 ≤ k) (hl : G.length ≤ 1048576) (b : Bool) : dz.f k G b = some (if isT G then (if b then (if 4000 < cnt G then 3 else 0) else 2) else 1) := by
 unfold dz.f
 rw [qK hk hl, Option.bind_some]
 cases h : isT G with
 | false => rfl
 | true =>
  cases b with
  | false => rfl
  | true =>
   simp only [if_true]
   rw [As hk h, Option.bind_some]
   split <;> rfl
theorem zH {k : Nat} {G : List Int} (hk : 2097152 ≤ k) (hl : G.length ≤ 1048576) : gq.f k G = some (if isT G then (if 4000 < cnt G then 3 else 0) else 1) := by
 unfold gq.f
 rw [xm hk hl, Option.bind_some]
 cases h : isT G with
 | false => rfl
 | true =>
  simp only [decide_true, Bool.not_true, Bool.false_eq_true, if_false, if_true]
  rw [ti hk h, Option.bind_some]
  by_cases hc : 4000 < cnt G <;> simp [hc]
theorem uu : ∀ {G S : List Int} {i : Nat}, Stt G S → i < G.length → 1 ≤ rd S i ∧ rd S i ≤ rd G i
 | g :: G, s :: S, 0, h, _ => by simpa [rd] using h.1
 | g :: G, s :: S, i + 1, h, hi => by
  have := uu (i := i) h.2 (by simpa using hi)
  rw [eY, eY] at this ⊢
  simpa using this
 | [], [], _, _, hi => by simp at hi
 | [], _ :: _, _, h, _ => h.elim
 | _ :: _, [], _, h, _ => h.elim
theorem zW {a g s c B : Int} (ha : 0 ≤ a) (h1 : 1 ≤ s) (h2 : s ≤ g) (hc : 1 ≤ c) (h : (a + 1) * (g * c) ≤ B) : 0 ≤ a * g ∧ a * g + s ≤ B + 1 ∧ 0 ≤ a * g + s - 1 ∧ (a * g + s - 1 + 1) * c ≤ B := by
 have h3 : 0 ≤ a * g := Int.mul_nonneg ha (by omega)
 have h4 : (a * g + s - 1 + 1) * c ≤ (a + 1) * (g * c) := by
  rw [← Int.mul_assoc]
  refine Int.mul_le_mul_of_nonneg_right ?_ (by omega)
  rw [Int.add_mul, Int.one_mul]; omega
 have h5 : (a * g + s - 1 + 1) * 1 ≤ (a * g + s - 1 + 1) * c := Int.mul_le_mul_of_nonneg_left hc (by omega)
 omega
theorem tj {k : Nat} {G S : List Int} (hG : Gp G) (hl : G.length ≤ 8) (hs : Stt G S) : ∀ (d i n : Nat) (a : Int), G.length - i = d → i ≤ G.length → d < n → 0 ≤ a → (a + 1) * cnt (G.drop i) ≤ 6553600000000 →
  br.l0 k n S G a i = some (kn a (G.drop i) (S.drop i)) := by
 have hsl := hs.length
 intro d
 induction d with
 | zero =>
  intro i n a hd hi hn ha hb
  obtain rfl : i = G.length := by omega
  cases n with
  | zero => omega
  | succ n =>
   simp only [br.l0, br.s0]
   rw [if_neg (by omega), List.drop_length]
   simp [kn]
 | succ d ih =>
  intro i n a hd hi hn ha hb
  cases n with
  | zero => omega
  | succ n =>
   simp only [br.l0, br.s0]
   rw [drop_cons (l := G) (by omega)] at hb ⊢
   rw [drop_cons (l := S) (by omega)]
   simp only [cnt, kn] at hb ⊢
   have hg := hG _ (fq (l := G) (i := i) (by omega))
   have hc := dO (kg (i + 1) hG)
   obtain ⟨e1, e2⟩ := uu (i := i) hs (by omega)
   obtain ⟨q1, q2, q3, q4⟩ := zW ha e1 e2 hc hb
   rw [if_pos (by omega), if_pos (by omega), if_pos (by omega), if_pos (by omega), if_pos (by omega), w64 (x := a * rd G i) (by omega) (by omega), w64 (x := a * rd G i + rd S i) (by omega) (by omega), w64 (by omega) (by omega), cu (by omega),
    ih (i + 1) n _ (by omega) (by omega) (by omega) q3 q4]
theorem qt {k : Nat} {G S : List Int} (hk : 2097152 ≤ k) (h : isT G = true) (hs : Stt G S) : br.f k G S = some (num G S) := by
 unfold br.f br.g
 have hc := iY (cF h) (cB h).2
 have := cB h
 have := tj (k := k) (cF h) (cB h).2 hs G.length 0 k 0 (by omega) (by omega) (by omega) (by omega) (by rw [List.drop_zero]; omega)
 exact this
theorem zX {k : Nat} {G S : List Int} (hG : Gp G) (hl : G.length ≤ 8) (hs : Stt G S) : ∀ (d i n : Nat) (a : Int), G.length - i = d → i ≤ G.length → d < n → 0 ≤ a → (a + 1) * cnt (G.drop i) ≤ 6553600000000 →
  bb.l0 k n G a S S.length i = some (kn a (G.drop i) (S.drop i)) := by
 have hsl := hs.length
 intro d
 induction d with
 | zero =>
  intro i n a hd hi hn ha hb
  obtain rfl : i = G.length := by omega
  cases n with
  | zero => omega
  | succ n =>
   simp only [bb.l0, bb.s0]
   rw [if_neg (by omega), List.drop_length]
   simp [kn]
 | succ d ih =>
  intro i n a hd hi hn ha hb
  cases n with
  | zero => omega
  | succ n =>
   simp only [bb.l0, bb.s0]
   rw [drop_cons (l := G) (by omega)] at hb ⊢
   rw [drop_cons (l := S) (by omega)]
   simp only [cnt, kn] at hb ⊢
   have hg := hG _ (fq (l := G) (i := i) (by omega))
   have hc := dO (kg (i + 1) hG)
   obtain ⟨e1, e2⟩ := uu (i := i) hs (by omega)
   obtain ⟨q1, q2, q3, q4⟩ := zW ha e1 e2 hc hb
   rw [if_pos (by omega), if_pos (by omega), if_pos (by omega), if_pos (by omega), if_pos (by omega), w64 (x := a * rd G i) (by omega) (by omega), w64 (x := a * rd G i + rd S i) (by omega) (by omega), w64 (by omega) (by omega), cu (by omega),
    ih (i + 1) n _ (by omega) (by omega) (by omega) q3 q4]
theorem Hf {k : Nat} {G S : List Int} (hk : 2097152 ≤ k) (h : isT G = true) (hs : Stt G S) : bb.f k G S = some (num G S) := by
 unfold bb.f bb.g
 have hc := iY (cF h) (cB h).2
 have := cB h
 have := zX (k := k) (cF h) (cB h).2 hs G.length 0 k 0 (by omega) (by omega) (by omega) (by omega) (by rw [List.drop_zero]; omega)
 exact this
theorem tH : ∀ {G : List Int} {n : Int}, Gp G → 0 ≤ n → 0 ≤ (ofA G n).2 := by
 intro G n h hn
 rw [rD n h]
 exact Int.ediv_nonneg hn (by have := dO h; omega)
theorem Hg {G : List Int} {n : Int} (h : Gp G) (hn : 0 ≤ n) : (ofA G n).2 ≤ n := by
 rw [rD n h]
 exact Int.ediv_le_self _ hn
theorem Ew (m : Nat) (x : Int) (done : List Int) : (List.replicate (m + 1) 0 ++ done).set m x = List.replicate m 0 ++ x :: done := by
 rw [List.replicate_succ', List.append_assoc, List.set_append_right _ _ (by simp)]
 simp
theorem BK {k : Nat} {G : List Int} {v : Int} (hG : Gp G) (hl : G.length ≤ 8) (hv : 0 ≤ v) (hv2 : v ≤ 6553600000000) : ∀ (m n : Nat), m ≤ G.length → m < n →
  cf.l0 k n (ofA (G.drop m) v).2 G (List.replicate m 0 ++ (ofA (G.drop m) v).1) ((m : Int) - 1) = some (ofN G v) := by
 intro m
 induction m with
 | zero =>
  intro n hm hn
  cases n with
  | zero => omega
  | succ n =>
   simp only [cf.l0, cf.s0]
   rw [if_neg (by omega), List.drop_zero]
   rfl
 | succ m ih =>
  intro n hm hn
  cases n with
  | zero => omega
  | succ n =>
   have hi : (((m + 1 : Nat) : Int) - 1) = (m : Int) := by omega
   have hg := hG _ (fq (l := G) (i := m) (by omega))
   have hGd := kg (m + 1) hG
   have h1 := tH hGd hv
   have h2 := Hg hGd hv
   have hlen := rC (G.drop (m + 1)) v
   rw [hi]
   simp only [cf.l0, cf.s0]
   rw [if_pos (by omega), if_pos (by omega), if_pos (by omega), if_neg (by omega), if_pos (by omega), if_pos (by simp; omega), if_pos (by omega), if_pos (by omega), if_neg (by omega)]
   have hd : ofA (G.drop m) v = (((ofA (G.drop (m + 1)) v).2 % rd G m + 1) :: (ofA (G.drop (m + 1)) v).1, (ofA (G.drop (m + 1)) v).2 / rd G m) := by
    rw [drop_cons (l := G) (i := m) (by omega)]; rfl
   have h3 := Int.emod_nonneg (ofA (G.drop (m + 1)) v).2 (show rd G m ≠ 0 by omega)
   have h4 := Int.emod_lt_of_pos (ofA (G.drop (m + 1)) v).2 (show 0 < rd G m by omega)
   have h5 := Int.ediv_nonneg h1 (show 0 ≤ rd G m by omega)
   have h6 := Int.ediv_le_self (rd G m) h1
   have := ih n (by omega) (by omega)
   rw [hd] at this
   rw [Int.tdiv_eq_ediv_of_nonneg h1, Int.tmod_eq_emod_of_nonneg h1, w64 (x := (ofA (G.drop (m + 1)) v).2 / rd G m) (by omega) (by omega), w64 (x := (ofA (G.drop (m + 1)) v).2 % rd G m + 1) (by omega) (by omega), w64 (x := (m : Int) - 1) (by omega) (by omega), Int.toNat_natCast, Ew]
   exact this
theorem DQ {k : Nat} {G : List Int} {v : Int} (hk : 2097152 ≤ k) (h : isT G = true) (hv : 0 ≤ v) (hv2 : v ≤ 6553600000000) : cf.f k G v = some (ofN G v) := by
 unfold cf.f cf.g
 have := cB h
 rw [if_pos (by omega), if_pos (by omega), if_pos (by omega), Int.toNat_natCast, List.length_replicate, w64 (by omega) (by omega)]
 have := BK (k := k) (cF h) (cB h).2 hv hv2 G.length k (by omega) (by omega)
 rw [List.drop_length] at this
 simpa [ofA] using this
theorem vh {k : Nat} {G : List Int} {v : Int} (hG : Gp G) (hl : G.length ≤ 8) (hv : 0 ≤ v) (hv2 : v ≤ 6553600000000) : ∀ (m n : Nat), m ≤ G.length → m < n →
  aT.l0 k n (ofA (G.drop m) v).2 G (List.replicate m 0 ++ (ofA (G.drop m) v).1) ((m : Int) - 1) = some (ofN G v) := by
 intro m
 induction m with
 | zero =>
  intro n hm hn
  cases n with
  | zero => omega
  | succ n =>
   simp only [aT.l0, aT.s0]
   rw [if_neg (by omega), List.drop_zero]
   rfl
 | succ m ih =>
  intro n hm hn
  cases n with
  | zero => omega
  | succ n =>
   have hi : (((m + 1 : Nat) : Int) - 1) = (m : Int) := by omega
   have hg := hG _ (fq (l := G) (i := m) (by omega))
   have hGd := kg (m + 1) hG
   have h1 := tH hGd hv
   have h2 := Hg hGd hv
   have hlen := rC (G.drop (m + 1)) v
   rw [hi]
   simp only [aT.l0, aT.s0]
   rw [if_pos (by omega), if_pos (by omega), if_pos (by omega), if_neg (by omega), if_pos (by omega), if_pos (by simp; omega), if_pos (by omega), if_pos (by omega), if_neg (by omega)]
   have hd : ofA (G.drop m) v = (((ofA (G.drop (m + 1)) v).2 % rd G m + 1) :: (ofA (G.drop (m + 1)) v).1, (ofA (G.drop (m + 1)) v).2 / rd G m) := by
    rw [drop_cons (l := G) (i := m) (by omega)]; rfl
   have h3 := Int.emod_nonneg (ofA (G.drop (m + 1)) v).2 (show rd G m ≠ 0 by omega)
   have h4 := Int.emod_lt_of_pos (ofA (G.drop (m + 1)) v).2 (show 0 < rd G m by omega)
   have h5 := Int.ediv_nonneg h1 (show 0 ≤ rd G m by omega)
   have h6 := Int.ediv_le_self (rd G m) h1
   have := ih n (by omega) (by omega)
   rw [hd] at this
   rw [Int.tdiv_eq_ediv_of_nonneg h1, Int.tmod_eq_emod_of_nonneg h1, w64 (x := (ofA (G.drop (m + 1)) v).2 / rd G m) (by omega) (by omega), w64 (x := (ofA (G.drop (m + 1)) v).2 % rd G m + 1) (by omega) (by omega), w64 (x := (m : Int) - 1) (by omega) (by omega), Int.toNat_natCast, Ew]
   exact this
theorem BW {k : Nat} {G : List Int} {v : Int} (hk : 2097152 ≤ k) (h : isT G = true) (hv : 0 ≤ v) (hv2 : v ≤ 6553600000000) : aT.f k G v = some (ofN G v) := by
 unfold aT.f aT.g
 have := cB h
 rw [xt, Option.bind_some, if_pos (by omega), if_pos (by omega), if_pos (by omega), Option.bind_some, Int.toNat_natCast, w64 (by omega) (by omega)]
 have := vh (k := k) (cF h) (cB h).2 hv hv2 G.length k (by omega) (by omega)
 rw [List.drop_length] at this
 simpa [ofA] using this
theorem Jw {l : List Int} (hl : l.length ≤ 1048576) : b4.f l = some l := by
 unfold b4.f
 by_cases h : l.length = 0
 ·rw [if_pos h, List.eq_nil_of_length_eq_zero h]
 ·rw [if_neg h, if_pos (by omega), List.nil_append]
def k9 (pre : List Int) (o : Option (List Int)) : List Int × Bool :=
 match o with
 | some T => (pre ++ T, true)
 | none => ([], false)
theorem mX (pre : List Int) (x : Int) (o : Option (List Int)) : k9 pre (o.map (x :: ·)) = k9 (pre ++ [x]) o := by
 cases o <;> simp [k9]
theorem Nr (pre S : List Int) (i : Nat) (h : pre.length = i) (hi : i < S.length) : rd (pre ++ S.drop i) i = rd S i := by
 rw [eY, eY, List.getD_eq_getElem?_getD, List.getElem?_append_right (by omega), List.getElem?_drop, List.getD_eq_getElem?_getD]
 congr 2
 omega
theorem Ev (pre S : List Int) (i : Nat) (x : Int) (h : pre.length = i) (hi : i < S.length) : (pre ++ S.drop i).set i x = (pre ++ [x]) ++ S.drop (i + 1) := by
 rw [List.set_append_right _ _ (by omega), drop_cons (l := S) hi]
 simp [h]
theorem o7 (g : List Bool → Nat → Bool) (d i : Nat) (L : List Bool) (ch : Bool) (hb : ¬ L.getD i false = true) : swp g (d + 1) i L ch = swp g d (i + 1) L ch := if_neg hb
theorem mq {g : List Bool → Nat → Bool} {d i : Nat} {L : List Bool} {ch : Bool} (hb : L.getD i false = true) (hg : g L i = true) : swp g (d + 1) i L ch = swp g d (i + 1) L ch := (if_pos hb).trans (if_pos hg)
theorem o6 {g : List Bool → Nat → Bool} {d i : Nat} {L : List Bool} {ch : Bool} (hb : L.getD i false = true) (hg : ¬ g L i = true) : swp g (d + 1) i L ch = swp g d (i + 1) (L.set i false) true := (if_pos hb).trans (if_neg hg)
theorem zv (good : List Bool → Nat → Bool) : ∀ (n n' : Nat) (L L' : List Bool) (ch : Bool), n ≤ n' → j5 good n L ch = some L' → j5 good n' L ch = some L'
 | 0, _, _, _, _, _, h => by cases h
 | n + 1, 0, _, _, _, h, _ => by omega
 | n + 1, n' + 1, L, L', ch, h, e => by
  cases ch with
  | false => exact e
  | true => exact zv good n n' _ _ _ (by omega) e
theorem GO (m i : Nat) (h : i < m) : (List.replicate i true ++ List.replicate (m - i) false).set i true = List.replicate (i + 1) true ++ List.replicate (m - (i + 1)) false := by
 rw [List.set_append_right _ _ (by simp), show m - i = (m - (i + 1)) + 1 by omega, List.replicate_succ, List.replicate_succ']
 simp
theorem mR (a : Nat) : BitVec.ofInt 64 (a : Int) = BitVec.ofNat 64 a := by
 apply BitVec.eq_of_toNat_eq
 simp
theorem lC {a b : Nat} (ha : a < 9223372036854775808) (hb : b < 9223372036854775808) : bE .i64 (a : Int) (b : Int) = ((a &&& b : Nat) : Int) := by
 have h : a &&& b ≤ a := Nat.and_le_left
 rw [iN]
 show wrap64 (((BitVec.ofInt 64 (a : Int) &&& BitVec.ofInt 64 (b : Int)).toNat : Nat) : Int) = _
 rw [mR, mR, BitVec.toNat_and, BitVec.toNat_ofNat, BitVec.toNat_ofNat, Nat.mod_eq_of_lt (by omega), Nat.mod_eq_of_lt (by omega), w64 (by omega) (by omega)]
theorem JY {a b : Nat} (ha : a < 256) (hb : b < 256) : orV .i64 (a : Int) (b : Int) = ((a ||| b : Nat) : Int) := by
 have h : a ||| b < 2 ^ 8 := Nat.or_lt_two_pow (by omega) (by omega)
 rw [Hk]
 show wrap64 (((BitVec.ofInt 64 (a : Int) ||| BitVec.ofInt 64 (b : Int)).toNat : Nat) : Int) = _
 rw [mR, mR, BitVec.toNat_or, BitVec.toNat_ofNat, BitVec.toNat_ofNat, Nat.mod_eq_of_lt (by omega), Nat.mod_eq_of_lt (by omega), w64 (by omega) (by omega)]
theorem fD {i : Nat} (h : i ≤ 8) : 1 ≤ 2 ^ i ∧ 2 ^ i ≤ 256 := ⟨Nat.one_le_two_pow, Nat.pow_le_pow_right (by omega) h⟩
theorem ks {i : Nat} (h : i ≤ 8) : FZ .i64 1 (i : Int) = ((2 ^ i : Nat) : Int) := by
 have := fD h
 rw [yG]
 show wrap64 (1 * 2 ^ min (i : Int).toNat 64) = _
 rw [Int.toNat_natCast, show min i 64 = i by omega, Int.one_mul, show ((2 : Int) ^ i) = ((2 ^ i : Nat) : Int) by simp, w64 (by omega) (by omega)]
theorem Ao {x i : Nat} (h : i ≤ 8) : cp .i64 (x : Int) (i : Int) = ((x >>> i : Nat) : Int) := by
 rw [kU]
 show Int.fdiv (x : Int) (2 ^ min (i : Int).toNat 64) = _
 rw [Int.toNat_natCast, show min i 64 = i by omega, show ((2 : Int) ^ i) = ((2 ^ i : Nat) : Int) by simp, Int.fdiv_eq_ediv_of_nonneg _ (Int.natCast_nonneg _), Nat.shiftRight_eq_div_pow]
 simp
theorem n7 {x i : Nat} (hx : x < 256) (h : i ≤ 8) : (bE .i64 (cp .i64 (x : Int) (i : Int)) 1 = 1) ↔ x.testBit i = true := by
 have hs : x >>> i ≤ x := by rw [Nat.shiftRight_eq_div_pow]; exact Nat.div_le_self _ _
 rw [Ao h]
 have := lC (a := x >>> i) (b := 1) (by omega) (by omega)
 rw [show ((1 : Nat) : Int) = 1 from rfl] at this
 have e : x >>> i &&& 1 = (x >>> i) % 2 := Nat.and_one_is_mod _
 rw [this, e]
 unfold Nat.testBit
 rw [Nat.and_comm, e]
 generalize x >>> i = y
 have hy : y % 2 = 0 ∨ y % 2 = 1 := by omega
 rcases hy with hy | hy <;> rw [hy] <;> simp
theorem mY {x : Nat} (h : x < 256) : IntKind.wrap .u64 (x : Int) = (x : Int) := by
 show (x : Int) % 18446744073709551616 = x
 omega
def j7 (x : Nat) : Nat := ((List.range 8).filter fun i => x.testBit i).length
theorem v5 : ∀ x : Nat, x < 256 → 0 < x → j7 (x &&& (x - 1)) + 1 = j7 x ∧ x &&& (x - 1) < x := by decide +kernel
theorem uj {k : Nat} : ∀ (x n : Nat) (c : Int), x < 256 → x < n → 0 ≤ c → c ≤ 1000 - x → aN.l0 k n (x : Int) c = some (c + j7 x)
 | x, 0, c, _, h, _, _ => by omega
 | x, n + 1, c, hx, hn, h0, h1 => by
  simp only [aN.l0, aN.s0]
  by_cases h : x = 0
  ·subst h
   rw [if_neg (by omega)]
   have : j7 0 = 0 := by decide
   simp [this]
  ·obtain ⟨p1, p2⟩ := v5 x hx (by omega)
   have e : ((x : Int) - 1) = ((x - 1 : Nat) : Int) := by omega
   rw [if_pos (by omega), w64 (x := (x : Int) - 1) (by omega) (by omega), e, lC (by omega) (by omega), w64 (by omega) (by omega)]
   have := uj (k := k) (x &&& (x - 1)) n (c + 1) (by omega) (by omega) (by omega) (by omega)
   rw [this]
   congr 1
   omega
theorem Ke {k x : Nat} (hk : 2097152 ≤ k) (hx : x < 256) : aN.f k (x : Int) = some (j7 x : Int) := by
 unfold aN.f aN.g
 have := uj (k := k) x k 0 hx (by omega) (by omega) (by omega)
 rw [this]; simp
theorem LV {x : Nat} (h : x < 256) : fw.f (x : Int) = some (j7 x : Int) := by
 unfold fw.f
 simp only [iN, kU]
 revert x
 decide +kernel
theorem FG {x : Nat} (h : x < 256) : iS.f (x : Int) = some (j7 x : Int) := by
 unfold iS.f
 rw [mY h, LV h]; rfl
def eH (x : Nat) : Nat → List Int → List Int → Option (List Int)
 | j, g :: G, s :: S => if x.testBit j = true then (eH x (j + 1) G S).map (g :: ·) else if s < 2 then none else (eH x (j + 1) G S).map ((s - 1) :: ·)
 | _, _, _ => some []
def iM (G S : List Int) (x : Nat) : Option (List Int) := eH x 0 G S
theorem qc {x : Nat} : ∀ {j : Nat} {G S T : List Int}, Gp G → Stt G S → eH x j G S = some T → Stt G T
 | j, [], [], T, _, _, h => by simp [eH] at h; subst h; trivial
 | j, g :: G, s :: S, T, hG, hs, h => by
  simp only [eH] at h
  split at h
  ·obtain ⟨T', h1, rfl⟩ := Option.map_eq_some_iff.1 h
   exact ⟨⟨(hG.head).1, Int.le_refl _⟩, qc hG.tail hs.2 h1⟩
  ·split at h
   ·cases h
   ·obtain ⟨T', h1, rfl⟩ := Option.map_eq_some_iff.1 h
    have := hs.1
    exact ⟨by omega, qc hG.tail hs.2 h1⟩
 | j, [], _ :: _, _, _, h, _ => h.elim
 | j, _ :: _, [], _, _, h, _ => h.elim
theorem o4 {G S T : List Int} {x : Nat} (hG : Gp G) (hs : Stt G S) (h : iM G S x = some T) : Stt G T := qc hG hs h
theorem xq {k : Nat} {G S : List Int} {x : Nat} (hx : x < 256) (hG : Gp G) (hl : G.length ≤ 8) (hs : Stt G S) : ∀ (d i n : Nat) (out : List Int), G.length - i = d → i ≤ G.length → d < n → out.length = i →
  bU.l0 k n S (x : Int) G out i = some (k9 out (eH x i (G.drop i) (S.drop i))) := by
 have hsl := hs.length
 intro d
 induction d with
 | zero =>
  intro i n out hd hi hn ho
  obtain rfl : i = G.length := by omega
  cases n with
  | zero => omega
  | succ n =>
   simp only [bU.l0, bU.s0]
   rw [if_neg (by omega), List.drop_length]
   simp [eH, k9]
 | succ d ih =>
  intro i n out hd hi hn ho
  cases n with
  | zero => omega
  | succ n =>
   simp only [bU.l0, bU.s0]
   have hg := hG _ (fq (l := G) (i := i) (by omega))
   obtain ⟨e1, e2⟩ := uu (i := i) hs (by omega)
   rw [drop_cons (l := G) (by omega), drop_cons (l := S) (by omega), if_pos (by omega), mY (by omega), if_neg (by omega)]
   simp only [eH]
   by_cases hc : x.testBit i = true
   ·rw [if_pos (by simpa using (n7 hx (by omega)).2 hc), if_pos hc, if_pos (by omega), if_pos (by omega), if_pos (by omega), cu (by omega), ih (i + 1) n _ (by omega) (by omega) (by omega) (by simp [ho]), mX]
   ·rw [if_neg (by simpa using fun q => hc ((n7 hx (by omega)).1 q)), if_neg hc, if_pos (by omega), if_pos (by omega)]
    by_cases h2 : rd S i < 2
    ·rw [if_pos (by simp; omega), if_pos h2]; rfl
    ·rw [if_neg (by simp; omega), if_neg h2, if_pos (by omega), if_pos (by omega), if_pos (by omega), w64 (x := rd S i - 1) (by omega) (by omega), cu (by omega), ih (i + 1) n _ (by omega) (by omega) (by omega) (by simp [ho]), mX]
theorem Fz {k : Nat} {G S : List Int} {x : Nat} (hk : 2097152 ≤ k) (hx : x < 256) (h : isT G = true) (hs : Stt G S) : bU.f k G S (x : Int) = some (k9 [] (iM G S x)) := by
 unfold bU.f bU.g
 have := cB h
 exact xq (k := k) hx (cF h) (cB h).2 hs G.length 0 k [] (by omega) (by omega) (by omega) rfl
theorem yD {k : Nat} {G S : List Int} {x : Nat} (hx : x < 256) (hG : Gp G) (hl : G.length ≤ 8) (hs : Stt G S) : ∀ (d i n : Nat) (out : List Int), G.length - i = d → i ≤ G.length → d < n → out.length = i →
  a4.l0 k n (x : Int) G (out ++ S.drop i) S.length i = some (k9 out (eH x i (G.drop i) (S.drop i))) := by
 have hsl := hs.length
 intro d
 induction d with
 | zero =>
  intro i n out hd hi hn ho
  obtain rfl : i = G.length := by omega
  cases n with
  | zero => omega
  | succ n =>
   simp only [a4.l0, a4.s0]
   rw [if_neg (by omega), List.drop_length, List.drop_eq_nil_of_le (by omega)]
   simp [eH, k9]
 | succ d ih =>
  intro i n out hd hi hn ho
  cases n with
  | zero => omega
  | succ n =>
   have hg := hG _ (fq (l := G) (i := i) (by omega))
   obtain ⟨e1, e2⟩ := uu (i := i) hs (by omega)
   have hlen : (out ++ S.drop i).length = S.length := by simp; omega
   simp only [a4.l0, a4.s0]
   rw [hlen, Nr out S i ho (by omega), Int.toNat_natCast, Ev out S i _ ho (by omega), Ev out S i _ ho (by omega)]
   conv => rhs; rw [drop_cons (l := G) (i := i) (by omega), drop_cons (l := S) (i := i) (by omega)]
   rw [if_pos (by omega), if_neg (by omega)]
   simp only [eH]
   by_cases hc : x.testBit i = true
   ·rw [if_pos (by simpa using (n7 hx (by omega)).2 hc), if_pos hc, if_pos (by omega), if_pos (by omega), if_pos (by omega), if_pos (by omega), cu (by omega), ih (i + 1) n _ (by omega) (by omega) (by omega) (by simp [ho]), mX]
   ·rw [if_neg (by simpa using fun q => hc ((n7 hx (by omega)).1 q)), if_neg hc, if_pos (by omega), if_pos (by omega)]
    by_cases h2 : rd S i < 2
    ·rw [if_pos (by simpa using h2), if_pos h2]; rfl
    ·rw [if_neg (by simpa using h2), if_neg h2, if_pos (by omega), if_pos (by omega), if_pos (by omega), if_pos (by omega), w64 (x := rd S i - 1) (by omega) (by omega), cu (by omega), ih (i + 1) n _ (by omega) (by omega) (by omega) (by simp [ho]), mX]
theorem FT {k : Nat} {G S : List Int} {x : Nat} (hk : 2097152 ≤ k) (hx : x < 256) (h : isT G = true) (hs : Stt G S) : a4.f k G S (x : Int) = some (k9 [] (iM G S x)) := by
 unfold a4.f a4.g
 have := cB h
 have hsl := hs.length
 rw [Jw (by omega), Option.bind_some]
 exact yD (k := k) hx (cF h) (cB h).2 hs G.length 0 k [] (by omega) (by omega) (by omega) rfl
def okS (m : Int) (x : Nat) : Bool := decide ((j7 x : Int) ≤ m)
def jW (m : Int) (j d : Nat) : List Nat := (List.range' j d).filter (okS m)
def jB (G : List Int) (m : Int) : List Nat := jW m 0 (2 ^ G.length)
theorem nV (m : Int) (j d : Nat) : jW m j (d + 1) = if okS m j = true then j :: jW m (j + 1) d else jW m (j + 1) d := by
 unfold jW
 rw [List.range'_succ, List.filter_cons]
theorem FU {m : Int} {j d x : Nat} (h : x ∈ jW m j d) : j ≤ x ∧ x < j + d := by
 have := List.mem_range'_1.1 (List.mem_filter.1 h).1
 omega
theorem FW {k : Nat} {G : List Int} {m : Int} (hl : G.length ≤ 8) : ∀ (d j n : Nat) (out : List Int), 2 ^ G.length - j = d → j ≤ 2 ^ G.length → d < n → out.length ≤ j → 2097152 ≤ k →
  bP.l0 k n m G out j = some (out ++ (jW m j d).map fun x : Nat => (x : Int)) := by
 have hp := fD hl
 intro d
 induction d with
 | zero =>
  intro j n out hd hj hn ho hk
  cases n with
  | zero => omega
  | succ n =>
   simp only [bP.l0, bP.s0]
   rw [mY (by omega), if_neg (by omega), ks hl, if_neg (by omega)]
   simp [jW]
 | succ d ih =>
  intro j n out hd hj hn ho hk
  cases n with
  | zero => omega
  | succ n =>
   simp only [bP.l0, bP.s0]
   rw [mY (by omega), if_neg (by omega), ks hl, if_pos (by omega), Ke hk (by omega), Option.bind_some, cu (by omega), nV]
   by_cases hc : (j7 j : Int) ≤ m
   ·rw [if_pos hc, if_pos (by omega), if_pos (show okS m j = true from decide_eq_true hc), ih (j + 1) n _ (by omega) (by omega) (by omega) (by simp; omega) hk]
    simp
   ·rw [if_neg hc, if_neg (show ¬ okS m j = true from fun q => hc (of_decide_eq_true q)), ih (j + 1) n _ (by omega) (by omega) (by omega) (by omega) hk]
theorem Ia {k : Nat} {G : List Int} {m : Int} (hk : 2097152 ≤ k) (hl : G.length ≤ 8) : bP.f k G m = some ((jB G m).map fun x : Nat => (x : Int)) := by
 unfold bP.f bP.g
 have hp := fD hl
 exact FW (k := k) hl (2 ^ G.length) 0 k [] (by omega) (by omega) (by omega) (by simp) hk
def opE (G S : List Int) (x : Nat) : Option (Int × Int) := (iM G S x).map fun T => ((x : Int), num G T)
def l9 (G S : List Int) (m : Int) : List (Int × Int) := (jB G m).filterMap (opE G S)
theorem qJ {x : Nat} : ∀ {j : Nat} {G S : List Int}, Stt G S → ((eH x j G S).isSome = true ↔ ∀ i : Nat, i < S.length → rd S i < 2 → x.testBit (j + i) = true)
 | j, [], [], _ => by simp [eH]
 | j, g :: G, s :: S, hs => by
  have ih := qJ (x := x) (j := j + 1) hs.2
  simp only [eH]
  have h0 : rd (s :: S) ((0 : Nat) : Int) = s := rfl
  have hS : ∀ i : Nat, rd (s :: S) ((i + 1 : Nat) : Int) = rd S (i : Int) := fun i => by rw [eY, eY]; rfl
  constructor
  ·intro h i hi h2
   cases i with
   | zero =>
    rw [h0] at h2
    by_cases hb : x.testBit j = true
    ·exact hb
    ·rw [if_neg hb, if_pos h2] at h; cases h
   | succ i =>
    rw [hS] at h2
    have h3 : (eH x (j + 1) G S).isSome = true := by
     by_cases hb : x.testBit j = true
     ·rw [if_pos hb] at h; simpa using h
     ·rw [if_neg hb] at h
      by_cases h4 : s < 2
      ·rw [if_pos h4] at h; cases h
      ·rw [if_neg h4] at h; simpa using h
    have := ih.1 h3 i (by simpa using hi) h2
    rwa [show j + 1 + i = j + (i + 1) by omega] at this
  ·intro h
   have h3 : (eH x (j + 1) G S).isSome = true := ih.2 fun i hi h2 => by
    have := h (i + 1) (by simpa using hi) (by rw [hS]; exact h2)
    rwa [show j + 1 + i = j + (i + 1) by omega]
   by_cases hb : x.testBit j = true
   ·rw [if_pos hb]; simpa using h3
   ·rw [if_neg hb, if_neg (fun h4 => hb (by have := h 0 (by simp) (by rw [h0]; exact h4); simpa using this))]; simpa using h3
 | j, [], _ :: _, h => h.elim
 | j, _ :: _, [], h => h.elim
structure rH (S : List Int) (i m : Nat) : Prop where
 lt : m < 2 ^ S.length
 bit : ∀ j, m.testBit j = decide (j < i ∧ j < S.length ∧ rd S j < 2)
theorem G7 {S : List Int} {m : Nat} (M : rH S S.length m) (x : Nat) : (x &&& m = m) ↔ ∀ i : Nat, i < S.length → rd S i < 2 → x.testBit i = true := by
 constructor
 ·intro h i hi h2
  have h3 : m.testBit i = true := by rw [M.bit]; simp [hi, h2]
  rw [← h, Nat.testBit_and, Bool.and_eq_true] at h3
  exact h3.1
 ·intro h
  apply Nat.eq_of_testBit_eq
  intro i
  rw [Nat.testBit_and]
  cases hb : m.testBit i with
  | false => simp
  | true =>
   rw [M.bit] at hb
   obtain ⟨_, h1, h2⟩ := of_decide_eq_true hb
   rw [h i h1 h2]; rfl
theorem tJ {G S : List Int} {m x : Nat} (hs : Stt G S) (M : rH S S.length m) : (x &&& m = m) ↔ (iM G S x).isSome = true := by
 rw [G7 M x]
 unfold iM
 rw [qJ hs]
 simp
theorem zZ {k : Nat} {G S : List Int} {m : Int} {mu : Nat} (hk : 2097152 ≤ k) (h : isT G = true) (hs : Stt G S) (M : rH S S.length mu) : ∀ (d j n : Nat) (out : List (Int × Int)), 2 ^ G.length - j = d → j ≤ 2 ^ G.length → d < n → out.length ≤ j →
  au.l1 k n S m G (mu : Int) out j = some (out ++ (jW m j d).filterMap (opE G S)) := by
 have hl := cB h
 have hsl := hs.length
 have hp := fD hl.2
 have hmu := M.lt
 rw [hsl] at hmu
 intro d
 induction d with
 | zero =>
  intro j n out hd hj hn ho
  cases n with
  | zero => omega
  | succ n =>
   simp only [au.l1, au.s1]
   rw [xt, Option.bind_some, if_neg (by omega), ks hl.2, if_neg (by omega)]
   simp [jW]
 | succ d ih =>
  intro j n out hd hj hn ho
  cases n with
  | zero => omega
  | succ n =>
   simp only [au.l1, au.s1]
   rw [xt, Option.bind_some, if_neg (by omega), ks hl.2, if_pos (by omega), lC (by omega) (by omega), cu (by omega), nV]
   by_cases ha : j &&& mu = mu
   ·rw [if_pos (by omega), FG (by omega), Option.bind_some]
    have ho' := (tJ hs M).1 ha
    obtain ⟨T, hT⟩ := Option.isSome_iff_exists.1 ho'
    by_cases hc : (j7 j : Int) ≤ m
    ·rw [if_pos hc, if_pos (show okS m j = true from decide_eq_true hc), FT hk (by omega) h hs, hT, Option.bind_some]
     simp only [k9, List.nil_append]
     rw [Hf hk h (o4 (cF h) hs hT), Option.bind_some, if_pos (by omega), ih (j + 1) n _ (by omega) (by omega) (by omega) (by simp; omega), List.filterMap_cons]
     simp [opE, hT]
    ·rw [if_neg hc, if_neg (show ¬ okS m j = true from fun q => hc (of_decide_eq_true q)), ih (j + 1) n _ (by omega) (by omega) (by omega) (by omega)]
   ·rw [if_neg (by omega), ih (j + 1) n _ (by omega) (by omega) (by omega) (by omega)]
    have hno : iM G S j = none := by
     cases hst : iM G S j with
     | none => rfl
     | some T => exact absurd ((tJ hs M).2 (by rw [hst]; rfl)) ha
    split
    ·rw [List.filterMap_cons]; simp [opE, hno]
    ·rfl
theorem zY {k : Nat} {G S : List Int} {m : Int} (hk : 2097152 ≤ k) (h : isT G = true) (hs : Stt G S) : ∀ (d i n mu : Nat), S.length - i = d → i ≤ S.length → d < n → rH S i mu →
  ∃ mu', rH S S.length mu' ∧ au.l0 k n S m G (mu : Int) S S.length i = au.l1 k k S m G (mu' : Int) [] (mu' : Int) := by
 have hl := cB h
 have hsl := hs.length
 intro d
 induction d with
 | zero =>
  intro i n mu hd hi hn M
  cases n with
  | zero => omega
  | succ n =>
   obtain rfl : i = S.length := by omega
   refine ⟨mu, M, ?_⟩
   simp only [au.l0, au.s0]
   rw [if_neg (by omega)]
 | succ d ih =>
  intro i n mu hd hi hn M
  cases n with
  | zero => omega
  | succ n =>
   have hmu := M.lt
   have hp := fD (show S.length ≤ 8 by omega)
   have hpi := fD (show i ≤ 8 by omega)
   have hpi2 : 2 ^ i < 2 ^ S.length := Nat.pow_lt_pow_right (by omega) (by omega)
   simp only [au.l0, au.s0]
   rw [if_pos (by omega), if_pos (by omega), if_pos (by omega), cu (by omega)]
   by_cases h2 : rd S i < 2
   ·rw [if_pos h2, if_neg (by omega), ks (by omega), JY (by omega) (by omega)]
    refine ih (i + 1) n (mu ||| 2 ^ i) (by omega) (by omega) (by omega) ⟨Nat.or_lt_two_pow hmu hpi2, fun j => ?_⟩
    rw [Nat.testBit_or, M.bit, Nat.testBit_two_pow]
    by_cases e : i = j
    ·subst e; simp; exact ⟨by omega, h2⟩
    ·have e2 : (decide (i = j)) = false := decide_eq_false e
     rw [e2, Bool.or_false, decide_eq_decide]
     omega
   ·rw [if_neg h2]
    refine ih (i + 1) n mu (by omega) (by omega) (by omega) ⟨hmu, fun j => ?_⟩
    rw [M.bit, decide_eq_decide]
    constructor
    ·rintro ⟨a, b, c⟩; exact ⟨by omega, b, c⟩
    ·rintro ⟨a, b, c⟩
     refine ⟨?_, b, c⟩
     by_cases e : j = i
     ·rw [e] at c; exact absurd c h2
     ·omega
theorem qH (m : Int) (f : Nat → Option (Int × Int)) : ∀ (a j d : Nat), (∀ x, j ≤ x → x < j + a → f x = none) → (jW m j (a + d)).filterMap f = (jW m (j + a) d).filterMap f
 | 0, j, d, _ => by simp
 | a + 1, j, d, h => by
  rw [show a + 1 + d = (a + d) + 1 by omega, nV]
  have h1 := qH m f a (j + 1) d fun x h1 h2 => h x (by omega) (by omega)
  rw [show j + 1 + a = j + (a + 1) by omega] at h1
  split
  ·rw [List.filterMap_cons, h j (by omega) (by omega)]; exact h1
  ·exact h1
theorem BX {k : Nat} {G S : List Int} {m : Int} (hk : 2097152 ≤ k) (h : isT G = true) (hs : Stt G S) : au.f k G S m = some (l9 G S m) := by
 unfold au.f au.g
 have hl := cB h
 have hsl := hs.length
 have hp := fD hl.2
 obtain ⟨mu, M, e⟩ := zY (k := k) (m := m) hk h hs S.length 0 k 0 (by omega) (by omega) (by omega) ⟨by have := fD (show S.length ≤ 8 by omega); omega, fun j => by simp⟩
 refine Eq.trans e ?_
 have hmu := M.lt
 rw [hsl] at hmu
 rw [zZ hk h hs M (2 ^ G.length - mu) mu k [] rfl (by omega) (by omega) (by simp), List.nil_append]
 congr 1
 unfold l9 jB
 have := qH m (opE G S) mu 0 (2 ^ G.length - mu) (fun x _ hx => by
  cases hst : iM G S x with
  | none => simp [opE, hst]
  | some T =>
   have h1 := (tJ (x := x) hs M).2 (by rw [hst]; rfl)
   have h2 : x &&& mu ≤ x := Nat.and_le_left
   omega)
 rw [show mu + (2 ^ G.length - mu) = 2 ^ G.length by omega, Nat.zero_add] at this
 exact this.symm
theorem o8 (g : List Bool → Nat → Bool) : ∀ (d i : Nat) (L : List Bool), (swp g d i L true).2 = true
 | 0, i, L => rfl
 | d + 1, i, L => by
  by_cases hb : L.getD i false = true
  ·by_cases hg : g L i = true
   ·rw [mq hb hg]; exact o8 g d (i + 1) L
   ·rw [o6 hb hg]; exact o8 g d (i + 1) _
  ·rw [o7 _ _ _ _ _ hb]; exact o8 g d (i + 1) L
theorem qd (g : List Bool → Nat → Bool) : ∀ (d i : Nat) (L : List Bool), (swp g d i L false).2 = false → (swp g d i L false).1 = L ∧ ∀ j, i ≤ j → j < i + d → L.getD j false = true → g L j = true
 | 0, i, L, _ => ⟨rfl, fun j h1 h2 => by omega⟩
 | d + 1, i, L, h => by
  by_cases hb : L.getD i false = true
  ·by_cases hg : g L i = true
   ·rw [mq hb hg] at h ⊢
    obtain ⟨h1, h2⟩ := qd g d (i + 1) L h
    refine ⟨h1, fun j h3 h4 h5 => ?_⟩
    by_cases e : j = i
    ·rw [e]; exact hg
    ·exact h2 j (by omega) (by omega) h5
   ·rw [o6 hb hg, o8] at h; cases h
  ·rw [o7 _ _ _ _ _ hb] at h ⊢
   obtain ⟨h1, h2⟩ := qd g d (i + 1) L h
   refine ⟨h1, fun j h3 h4 h5 => ?_⟩
   by_cases e : j = i
   ·rw [e] at h5; exact absurd h5 hb
   ·exact h2 j (by omega) (by omega) h5
theorem zu (g : List Bool → Nat → Bool) : ∀ (n : Nat) (L L' : List Bool) (ch : Bool), j5 g n L ch = some L' → (ch = false → ∀ j, j < L.length → L.getD j false = true → g L j = true) → ∀ j, j < L'.length → L'.getD j false = true → g L' j = true
 | 0, _, _, _, h, _ => by cases h
 | n + 1, L, L', false, h, hg => by
  obtain rfl : L = L' := by simpa [j5] using h
  exact hg rfl
 | n + 1, L, L', true, h, hg => by
  have h' : j5 g n (swp g L.length 0 L false).1 (swp g L.length 0 L false).2 = some L' := by simpa [j5] using h
  refine zu g n _ L' _ h' fun hf => ?_
  obtain ⟨h1, h2⟩ := qd g L.length 0 L hf
  rw [h1]
  exact fun j h3 h4 => h2 j (by omega) (by omega) h4
def zS (l : List Int) : Nat := (l.filter fun x => decide (x < 0)).length
theorem tz : ∀ {l : List Int} {i : Nat} {x : Int}, i < l.length → l.getD i 0 < 0 → 0 ≤ x → zS (l.set i x) + 1 = zS l
 | [], i, x, h, _, _ => by simp at h
 | a :: l, 0, x, _, h, h0 => by
  have h1 : ¬ x < 0 := by omega
  have h2 : a < 0 := by simpa using h
  simp [zS, h1, h2]
 | a :: l, i + 1, x, hi, h, h0 => by
  have := tz (l := l) (i := i) (x := x) (by simpa using hi) (by simpa using h) h0
  unfold zS at this ⊢
  rw [List.set_cons_succ, List.filter_cons, List.filter_cons]
  by_cases e : a < 0
  ·rw [if_pos (by simpa using e), if_pos (by simpa using e), List.length_cons, List.length_cons]; omega
  ·rw [if_neg (by simpa using e), if_neg (by simpa using e)]; exact this
theorem zT : ∀ (m : Nat), zS (List.replicate m (-1 : Int)) = m := by
 intro m
 induction m with
 | zero => rfl
 | succ m ih =>
  unfold zS at ih ⊢
  rw [List.replicate_succ, List.filter_cons, if_pos (by simp), List.length_cons, ih]
theorem HR {l : List Int} {i j : Nat} {x : Int} (h : i < l.length) : rd (l.set i x) j = if j = i then x else rd l j := by
 rw [eY, eY, List.getD_eq_getElem?_getD, List.getD_eq_getElem?_getD, List.getElem?_set]
 by_cases e : i = j
 ·subst e; rw [if_pos rfl, if_pos h, if_pos rfl]; rfl
 ·rw [if_neg e, if_neg (fun c => e c.symm)]
theorem BZ {l : List Int} (hl : l.length ≤ 1048576) : dw.f l = some l := by
 unfold dw.f
 rw [if_pos (by omega), List.nil_append]
def iF (L : List Bool) (os : List (Int × Int)) : Option (Int × Int) := os.find? fun o => L.getD o.2.toNat false
def pN (o : Option (Int × Int)) : Int × Int × Bool := match o with | some o => (o.1, o.2, true) | none => (0, 0, false)
theorem Eh {G S : List Int} {x : Nat} {o : Int × Int} (h : isT G = true) (hs : Stt G S) (e : opE G S x = some o) : o.1 = (x : Int) ∧ 0 ≤ o.2 ∧ o.2 < cnt G ∧ ofN G o.2 ∈ (iM G S x) ∧ iM G S x = some (ofN G o.2) := by
 unfold opE at e
 obtain ⟨T, hT, rfl⟩ := Option.map_eq_some_iff.1 e
 have b0 := o4 (cF h) hs hT
 obtain ⟨b1, b2⟩ := jR (cF h) b0
 have b3 := ym (cF h) b0
 exact ⟨rfl, b1, b2, by rw [b3, hT]; rfl, by rw [b3]; exact hT⟩
theorem z3 {G S : List Int} {m : Int} (h : isT G = true) (hs : Stt G S) : ∀ o ∈ l9 G S m, 0 ≤ o.2 ∧ o.2 < cnt G := by
 intro o ho
 obtain ⟨x, _, he⟩ := List.mem_filterMap.1 ho
 have := Eh h hs he
 exact ⟨this.2.1, this.2.2.1⟩
theorem Hi (G S : List Int) (m : Int) : (l9 G S m).length ≤ 2 ^ G.length := by
 unfold l9 jB jW
 refine Nat.le_trans (List.length_filterMap_le _ _) (Nat.le_trans (List.length_filter_le _ _) ?_)
 simp
theorem BE {k : Nat} {G S : List Int} {L : List Bool} {xs : List Nat} (hk : 2097152 ≤ k) (h : isT G = true) (hs : Stt G S) (hL : (L.length : Int) = cnt G) (hx : ∀ x ∈ xs, x < 256) (hxl : xs.length ≤ 1000) : ∀ (d i n : Nat), xs.length - i = d → i ≤ xs.length → d < n →
  bG.l0 k n (xs.map fun x : Nat => (x : Int)) L S G i = some (pN (iF L ((xs.drop i).filterMap (opE G S)))) := by
 intro d
 induction d with
 | zero =>
  intro i n hd hi hn
  cases n with
  | zero => omega
  | succ n =>
   simp only [bG.l0, bG.s0]
   rw [if_neg (by simp; omega), List.drop_eq_nil_of_le (by omega)]
   rfl
 | succ d ih =>
  intro i n hd hi hn
  cases n with
  | zero => omega
  | succ n =>
   have hlen : (xs.map fun x : Nat => (x : Int)).length = xs.length := by simp
   have hr : rd (xs.map fun x : Nat => (x : Int)) (i : Int) = ((xs[i]'(by omega) : Nat) : Int) := by
    rw [wg (by omega)]; simp
   have hxi := hx (xs[i]'(by omega)) (List.getElem_mem _)
   simp only [bG.l0, bG.s0]
   rw [hlen, hr, if_pos (by omega), if_pos (by omega), if_pos (by omega), Fz hk hxi h hs, Option.bind_some, cu (by omega), List.drop_eq_getElem_cons (show i < xs.length by omega), List.filterMap_cons]
   cases hst : iM G S (xs[i]'(by omega)) with
   | none =>
    have : opE G S (xs[i]'(by omega)) = none := by simp [opE, hst]
    rw [this]
    simp only [k9, Bool.false_eq_true, if_false]
    exact ih (i + 1) n (by omega) (by omega) (by omega)
   | some T =>
    have b0 := o4 (cF h) hs hst
    obtain ⟨b1, b2⟩ := jR (cF h) b0
    have : opE G S (xs[i]'(by omega)) = some (((xs[i]'(by omega) : Nat) : Int), num G T) := by simp [opE, hst]
    rw [this]
    simp only [k9, if_true, List.nil_append]
    rw [qt hk h b0, Option.bind_some, if_pos b1, if_pos (by omega)]
    unfold iF
    simp only [List.find?_cons]
    cases hb : L.getD (num G T).toNat false with
    | true =>
     rw [if_pos (show cP false L (num G T) = true from hb), if_pos (by omega), if_pos (by omega)]
     rfl
    | false =>
     rw [if_neg (show ¬ cP false L (num G T) = true from by rw [show cP false L (num G T) = false from hb]; simp)]
     exact ih (i + 1) n (by omega) (by omega) (by omega)
theorem H0 {G : List Int} {m : Int} (hl : G.length ≤ 8) : ∀ x ∈ jB G m, x < 256 := by
 intro x hx
 have := FU hx
 have := fD hl
 omega
theorem FV {G : List Int} {m : Int} (hl : G.length ≤ 8) : (jB G m).length ≤ 256 := by
 unfold jB jW
 have := fD hl
 refine Nat.le_trans (List.length_filter_le _ _) ?_
 simp; omega
theorem DH {k : Nat} {G S : List Int} {L : List Bool} {m : Int} (hk : 2097152 ≤ k) (h : isT G = true) (hs : Stt G S) (hL : (L.length : Int) = cnt G) :
  bG.f k G ((jB G m).map fun x : Nat => (x : Int)) L S = some (pN (iF L (l9 G S m))) := by
 unfold bG.f bG.g
 have hl := cB h
 have h1 := FV (G := G) (m := m) hl.2
 exact BE (k := k) hk h hs hL (H0 hl.2) (by omega) (jB G m).length 0 k (by omega) (by omega) (by omega)
theorem BM {k : Nat} {O : List (List (Int × Int))} {L : List Bool} {os : List (Int × Int)} {a b : Int} (hb : ∀ o ∈ os, 0 ≤ o.2 ∧ o.2 < L.length) (hl : os.length ≤ 1000) : ∀ (d i n : Nat), os.length - i = d → i ≤ os.length → d < n →
  aV.l0 k n (O, L) a b os os.length i = some (pN (iF L (os.drop i))) := by
 intro d
 induction d with
 | zero =>
  intro i n hd hi hn
  cases n with
  | zero => omega
  | succ n =>
   simp only [aV.l0, aV.s0]
   rw [if_neg (by omega), List.drop_eq_nil_of_le (by omega)]
   rfl
 | succ d ih =>
  intro i n hd hi hn
  cases n with
  | zero => omega
  | succ n =>
   have hi' : i < os.length := by omega
   have hr : cP ((0, 0) : Int × Int) os (i : Int) = os[i] := yv hi'
   obtain ⟨b1, b2⟩ := hb os[i] (List.getElem_mem _)
   simp only [aV.l0, aV.s0]
   rw [hr, if_pos (by omega), if_pos (by omega), if_pos (by omega), if_pos b1, if_pos b2, cu (by omega), List.drop_eq_getElem_cons hi']
   unfold iF
   simp only [List.find?_cons]
   cases hy : L.getD os[i].2.toNat false with
   | true => rw [if_pos (show cP false L os[i].2 = true from hy)]; rfl
   | false =>
    rw [if_neg (show ¬ cP false L os[i].2 = true from by rw [show cP false L os[i].2 = false from hy]; simp)]
    exact ih (i + 1) n (by omega) (by omega) (by omega)
def nO (G : List Int) (m : Int) (n : Nat) : List (List (Int × Int)) := (List.range n).map fun i : Nat => l9 G (ofN G (i : Int)) m
theorem tK (G : List Int) (m : Int) (n : Nat) : (nO G m n).length = n := by simp [nO]
theorem FK (G : List Int) (m : Int) (n : Nat) : nO G m (n + 1) = nO G m n ++ [l9 G (ofN G (n : Int)) m] := by simp [nO, List.range_succ]
theorem FN {G : List Int} {m : Int} {n i : Nat} (h : i < n) : cP ([] : List (Int × Int)) (nO G m n) (i : Int) = l9 G (ofN G (i : Int)) m := by
 rw [yv (by rw [tK]; exact h)]
 simp [nO]
theorem JL {k : Nat} {G : List Int} {L : List Bool} {m : Int} {i : Nat} (hk : 2097152 ≤ k) (h : isT G = true) (hL : (L.length : Int) = cnt G) (hi : i < L.length) :
  aV.f k (nO G m L.length, L) i = some (pN (iF L (l9 G (ofN G (i : Int)) m))) := by
 unfold aV.f aV.g
 have hl := cB h
 have h1 := Hi G (ofN G (i : Int)) m
 have hp := fD hl.2
 simp only [tK, FN hi]
 rw [if_pos (by omega), if_pos (by omega)]
 exact BM (k := k) (fun o ho => by have := z3 h (kN _ (cF h)) o ho; omega) (by omega) (l9 G (ofN G (i : Int)) m).length 0 k (by omega) (by omega) (by omega)
def gb (G : List Int) (m : Int) (L : List Bool) (i : Nat) : Bool := (iF L (l9 G (ofN G (i : Int)) m)).isSome
def fo (G : List Int) (m : Int) : List Bool := (j5 (gb G m) 4003 (List.replicate (cnt G).toNat true) true).getD []
theorem kj {G : List Int} {m : Int} (h : isT G = true) (hc : cnt G ≤ 4000) {k : Nat} (hk : 4003 ≤ k) : j5 (gb G m) k (List.replicate (cnt G).toNat true) true = some (fo G m) ∧ ((fo G m).length : Int) = cnt G := by
 have hp := dO (cF h)
 obtain ⟨L', h1, h2⟩ := zw (gb G m) 4003 (List.replicate (cnt G).toNat true) true (by have := Ik (List.replicate (cnt G).toNat true); simp at this; omega)
 have e : fo G m = L' := by
  unfold fo
  rw [h1]; rfl
 rw [e]
 refine ⟨zv _ _ _ _ _ _ hk h1, ?_⟩
 rw [h2]; simp; omega
theorem vL (o : Option (Int × Int)) : (pN o).2.2 = o.isSome := by cases o <;> rfl
theorem GZ {k : Nat} {G : List Int} {m : Int} {M : Nat} (hk : 2097152 ≤ k) (h : isT G = true) (hm : (M : Int) = cnt G) {r1 : (List Int) → (List Int) → (List Bool) → Bool → Option ((List Bool))} :
  ∀ (d i n : Nat) (L : List Bool) (ch : Bool), L.length = M → M - i = d → i ≤ M → d < n →
   ar.l2 k r1 n G ((jB G m).map fun x : Nat => (x : Int)) L ch M i = r1 G ((jB G m).map fun x : Nat => (x : Int)) (swp (gb G m) d i L ch).1 (swp (gb G m) d i L ch).2 := by
 have hc := iY (cF h) (cB h).2
 intro d
 induction d with
 | zero =>
  intro i n L ch hL hd hi hn
  cases n with
  | zero => omega
  | succ n =>
   simp only [ar.l2, ar.s2]
   rw [if_neg (by omega)]
   rfl
 | succ d ih =>
  intro i n L ch hL hd hi hn
  cases n with
  | zero => omega
  | succ n =>
   simp only [ar.l2, ar.s2]
   rw [if_pos (by omega), if_pos (by omega), if_pos (by omega), oK, cu (by omega), DQ hk h (by omega) (by omega), Option.bind_some, DH hk h (kN _ (cF h)) (by omega), Option.bind_some, vL, show (iF L (l9 G (ofN G (i : Int)) m)).isSome = gb G m L i from rfl]
   by_cases hb : L.getD i false = true
   ·rw [if_pos hb]
    by_cases hg : gb G m L i = true
    ·rw [if_pos hg, mq hb hg, ih (i + 1) n _ _ hL (by omega) (by omega) (by omega)]
    ·rw [if_neg hg, if_pos (by omega), if_pos (by omega), Int.toNat_natCast, o6 hb hg, ih (i + 1) n _ _ (by simpa using hL) (by omega) (by omega) (by omega)]
   ·rw [if_neg hb, o7 _ _ _ _ _ hb, ih (i + 1) n _ _ hL (by omega) (by omega) (by omega)]
theorem zI {k : Nat} {G : List Int} {m : Int} {M : Nat} (hk : 2097152 ≤ k) (h : isT G = true) (hm : (M : Int) = cnt G) (hm2 : M ≤ 100000) : ∀ (n : Nat) (L : List Bool) (ch : Bool), L.length = M →
  ar.l1 k n G ((jB G m).map fun x : Nat => (x : Int)) L ch = j5 (gb G m) n L ch
 | 0, L, ch, hL => rfl
 | n + 1, L, ch, hL => by
  simp only [ar.l1, ar.s1, j5]
  cases ch with
  | false => simp
  | true =>
   simp only [if_true]
   have := GZ (m := m) (r1 := ar.l1 k n) hk h hm M 0 k L false hL (by omega) (by omega) (by omega)
   rw [show (L.length : Int) = (M : Int) by omega]
   refine Eq.trans this ?_
   rw [zI hk h hm hm2 n _ _ (by rw [kV]; exact hL), hL]
theorem GY {k : Nat} {G : List Int} {m : Int} {M : Nat} (hk : 2097152 ≤ k) (h : isT G = true) (hm : (M : Int) = cnt G) (hm2 : M ≤ 100000) : ∀ (d i n : Nat), M - i = d → i ≤ M → d < n →
  ar.l0 k n G ((jB G m).map fun x : Nat => (x : Int)) (List.replicate i true ++ List.replicate (M - i) false) M i = j5 (gb G m) k (List.replicate M true) true := by
 intro d
 induction d with
 | zero =>
  intro i n hd hi hn
  obtain rfl : i = M := by omega
  cases n with
  | zero => omega
  | succ n =>
   simp only [ar.l0, ar.s0]
   rw [if_neg (by omega), Nat.sub_self, List.replicate_zero, List.append_nil, zI hk h hm hm2 k _ _ (by simp)]
 | succ d ih =>
  intro i n hd hi hn
  cases n with
  | zero => omega
  | succ n =>
   simp only [ar.l0, ar.s0]
   rw [if_pos (by omega), if_pos (by omega), if_pos (by simp; omega), Int.toNat_natCast, GO M i (by omega), cu (by omega)]
   exact ih (i + 1) n (by omega) (by omega) (by omega)
theorem xp {k : Nat} {G : List Int} {m : Int} (hk : 2097152 ≤ k) (h : isT G = true) (hc : cnt G ≤ 4000) : ar.f k G m = some (fo G m) := by
 have hp := dO (cF h)
 unfold ar.f ar.g
 rw [Ia hk (cB h).2, Option.bind_some, ti hk h, Option.bind_some, if_pos (by omega), if_pos (by omega), if_pos (by omega)]
 obtain ⟨h1, h2⟩ := kj (m := m) h hc (k := k) (by omega)
 have := GY (m := m) (M := (cnt G).toNat) hk h (by omega) (by omega) (cnt G).toNat 0 k (by omega) (by omega) (by omega)
 rw [h1, show (((cnt G).toNat : Nat) : Int) = cnt G by omega] at this
 rw [List.length_replicate, show (((cnt G).toNat : Nat) : Int) = cnt G by omega]
 exact this
theorem Pw {k : Nat} {G : List Int} {m : Int} {M : Nat} (hk : 2097152 ≤ k) (h : isT G = true) (hm : (M : Int) = cnt G) {r1 : (List (List (Int × Int))) → (List Bool) → Bool → Option (((List (List (Int × Int))) × (List Bool)))} :
  ∀ (d i n : Nat) (L : List Bool) (ch : Bool), L.length = M → M - i = d → i ≤ M → d < n →
   ao.l2 k r1 n (nO G m M) L ch M i = r1 (nO G m M) (swp (gb G m) d i L ch).1 (swp (gb G m) d i L ch).2 := by
 have hc := iY (cF h) (cB h).2
 intro d
 induction d with
 | zero =>
  intro i n L ch hL hd hi hn
  cases n with
  | zero => omega
  | succ n =>
   simp only [ao.l2, ao.s2]
   rw [if_neg (by omega)]
   rfl
 | succ d ih =>
  intro i n L ch hL hd hi hn
  cases n with
  | zero => omega
  | succ n =>
   have hle := JL (L := L) (m := m) (i := i) hk h (by omega) (by omega)
   rw [hL] at hle
   simp only [ao.l2, ao.s2]
   rw [if_pos (by omega), if_pos (by omega), if_pos (by omega), hle, Option.bind_some, oK, cu (by omega), vL, show (iF L (l9 G (ofN G (i : Int)) m)).isSome = gb G m L i from rfl]
   by_cases hb : L.getD i false = true
   ·rw [if_pos hb]
    by_cases hg : gb G m L i = true
    ·rw [if_pos hg, mq hb hg, ih (i + 1) n _ _ hL (by omega) (by omega) (by omega)]
    ·rw [if_neg hg, if_pos (by omega), if_pos (by omega), Int.toNat_natCast, o6 hb hg, ih (i + 1) n _ _ (by simpa using hL) (by omega) (by omega) (by omega)]
   ·rw [if_neg hb, o7 _ _ _ _ _ hb, ih (i + 1) n _ _ hL (by omega) (by omega) (by omega)]
theorem KW {k : Nat} {G : List Int} {m : Int} {M : Nat} (hk : 2097152 ≤ k) (h : isT G = true) (hm : (M : Int) = cnt G) (hm2 : M ≤ 100000) : ∀ (n : Nat) (L : List Bool) (ch : Bool), L.length = M →
  ao.l1 k n (nO G m M) L ch = (j5 (gb G m) n L ch).map fun L => (nO G m M, L)
 | 0, L, ch, hL => rfl
 | n + 1, L, ch, hL => by
  simp only [ao.l1, ao.s1, j5]
  cases ch with
  | false => simp
  | true =>
   simp only [if_true]
   have := Pw (m := m) (r1 := ao.l1 k n) hk h hm M 0 k L false hL (by omega) (by omega) (by omega)
   rw [show (L.length : Int) = (M : Int) by omega]
   refine Eq.trans this ?_
   rw [KW hk h hm hm2 n _ _ (by rw [kV]; exact hL), hL]
theorem Pv {k : Nat} {G : List Int} {m : Int} {M : Nat} (hk : 2097152 ≤ k) (h : isT G = true) (hm : (M : Int) = cnt G) (hm2 : M ≤ 100000) : ∀ (d i n : Nat), M - i = d → i ≤ M → d < n →
  ao.l0 k n m G (nO G m i) (List.replicate i true) M i = (j5 (gb G m) k (List.replicate M true) true).map fun L => (nO G m M, L) := by
 intro d
 induction d with
 | zero =>
  intro i n hd hi hn
  obtain rfl : i = M := by omega
  cases n with
  | zero => omega
  | succ n =>
   simp only [ao.l0, ao.s0]
   rw [if_neg (by omega), KW hk h hm hm2 k _ _ (by simp)]
 | succ d ih =>
  intro i n hd hi hn
  cases n with
  | zero => omega
  | succ n =>
   simp only [ao.l0, ao.s0]
   rw [if_pos (by omega), BW hk h (by omega) (by omega), Option.bind_some, BX hk h (kN _ (cF h)), Option.bind_some, if_pos (by rw [tK]; omega), if_pos (by simp; omega), cu (by omega), ← FK, ← List.replicate_succ']
   exact ih (i + 1) n (by omega) (by omega) (by omega)
theorem yB {k : Nat} {G : List Int} {m : Int} (hk : 2097152 ≤ k) (h : isT G = true) (hc : cnt G ≤ 4000) : ao.f k G m = some (nO G m (fo G m).length, fo G m) := by
 have hp := dO (cF h)
 unfold ao.f ao.g
 rw [As hk h, Option.bind_some]
 obtain ⟨h1, h2⟩ := kj (m := m) h hc (k := k) (by omega)
 have := Pv (m := m) (M := (cnt G).toNat) hk h (by omega) (by omega) (cnt G).toNat 0 k (by omega) (by omega) (by omega)
 rw [h1, show (((cnt G).toNat : Nat) : Int) = cnt G by omega] at this
 refine Eq.trans this ?_
 rw [Option.map_some, show (cnt G).toNat = (fo G m).length by omega]
def jn (G : List Int) (m : Int) : Int := if isT G = true then (if 1 ≤ m ∧ m ≤ 4 then (if 4000 < cnt G then 3 else 0) else 2) else 1
theorem jo {G : List Int} {m : Int} (h : jn G m = 0) : isT G = true ∧ (1 ≤ m ∧ m ≤ 4) ∧ cnt G ≤ 4000 := by
 unfold jn at h
 by_cases h1 : isT G = true
 ·rw [if_pos h1] at h
  by_cases h2 : 1 ≤ m ∧ m ≤ 4
  ·rw [if_pos h2] at h
   by_cases h3 : 4000 < cnt G
   ·rw [if_pos h3] at h; cases h
   ·exact ⟨h1, h2, by omega⟩
  ·rw [if_neg h2] at h; cases h
 ·rw [if_neg h1] at h; cases h
theorem Fy {k : Nat} {G : List Int} {m : Int} (hk : 2097152 ≤ k) (hl : G.length ≤ 1048576) : iW.f k G m = some (jn G m) := by
 unfold iW.f jn
 rw [xm hk hl, Option.bind_some, jO, Option.bind_some, zH hk hl, Option.bind_some]
 cases isT G with
 | false => rfl
 | true =>
  by_cases h : 1 ≤ m ∧ m ≤ 4
  ·simp [h]
  ·simp [h]
theorem By {k : Nat} {G : List Int} {m : Int} (hk : 2097152 ≤ k) (hl : G.length ≤ 1048576) : ((dR.f m).bind fun t1 => dz.f k G t1) = some (jn G m) := by
 unfold dR.f jn
 rw [gJ, Option.bind_some, Option.bind_some, yJ hk hl]
 cases isT G with
 | false => rfl
 | true =>
  by_cases h : 1 ≤ m ∧ m ≤ 4
  ·simp [h]
  ·simp [h]
def uZ (G : List Int) (m : Int) : Bool := (fo G m).getD (cnt G - 1).toNat false
theorem pM {G : List Int} {m : Int} (h : isT G = true) (hc : cnt G ≤ 4000) : ((fo G m).length : Int) = cnt G := (kj (m := m) (k := 4003) h hc (Nat.le_refl _)).2
theorem Kb {G : List Int} {m : Int} {O : List (List (Int × Int))} (h : isT G = true) (hc : cnt G ≤ 4000) : cN.f (O, fo G m) = some (uZ G m) := by
 have hL := pM (m := m) h hc
 have hp := dO (cF h)
 unfold cN.f uZ
 simp only
 rw [hL, w64 (by omega) (by omega), if_pos (by omega), if_pos (by omega)]
 rfl
def Bx (G : List Int) (m : Int) : Bool × Int := if jn G m = 0 then (uZ G m, 0) else (false, jn G m)
theorem ou {k : Nat} {G : List Int} {m : Int} (hk : 2097152 ≤ k) (hl : G.length ≤ 1048576) : fN.f k G m = some (Bx G m) := by
 have hcode := By (m := m) hk hl
 unfold fN.f Bx
 have : ((dR.f m).bind fun t1 => (dz.f k G t1).bind fun t2 => if t2 = 0 then ((ao.f k G m).bind fun t3 => (cN.f t3).bind fun t4 => some (t4, (0 : Int))) else (some (false, t2))) = (((dR.f m).bind fun t1 => dz.f k G t1).bind fun t2 => if t2 = 0 then ((ao.f k G m).bind fun t3 => (cN.f t3).bind fun t4 => some (t4, (0 : Int))) else (some (false, t2))) := by
  rw [Option.bind_assoc]
 rw [this, hcode, Option.bind_some]
 by_cases hf : jn G m = 0
 ·obtain ⟨h, _, hc⟩ := jo hf
  rw [if_pos hf, if_pos hf, yB hk h hc, Option.bind_some, Kb h hc, Option.bind_some]
 ·rw [if_neg hf, if_neg hf]
theorem nL {G : List Int} {m : Int} (h : isT G = true) (hc : cnt G ≤ 4000) {v : Int} (h0 : 0 ≤ v) (h1 : v < cnt G) (hv : (fo G m).getD v.toNat false = true) :
  ∃ o, iF (fo G m) (l9 G (ofN G v) m) = some o ∧ 0 ≤ o.2 ∧ o.2 < cnt G ∧ (fo G m).getD o.2.toNat false = true := by
 obtain ⟨h2, h3⟩ := kj (m := m) (k := 4003) h hc (Nat.le_refl _)
 have := zu (gb G m) _ _ _ _ h2 (fun e => by cases e) v.toNat (by omega) hv
 unfold gb at this
 rw [show ((v.toNat : Nat) : Int) = v by omega] at this
 obtain ⟨o, ho⟩ := Option.isSome_iff_exists.1 this
 have hm := z3 h (kN v (cF h)) o (List.mem_of_find?_eq_some ho)
 exact ⟨o, ho, hm.1, hm.2, by have := List.find?_some (p := fun o : Int × Int => (fo G m).getD o.2.toNat false) (l := l9 G (ofN G v) m) (a := o) ho; exact this⟩
def lZ (G : List Int) (m v : Int) : Int × Int := (iF (fo G m) (l9 G (ofN G v) m)).getD (0, 0)
def kZ (G : List Int) (m : Int) : Nat → Int → List Int → List Int → Option (List Int × List Int)
 | 0, _, _, _ => none
 | n + 1, v, came, out => if 0 ≤ rd came v then some (out.take (rd came v).toNat, out.drop (rd came v).toNat) else kZ G m n (lZ G m v).2 (came.set v.toNat out.length) (out ++ [(lZ G m v).1])
structure rI (G : List Int) (m v : Int) (came out : List Int) : Prop where
 v0 : 0 ≤ v
 v1 : v < cnt G
 lv : (fo G m).getD v.toNat false = true
 cl : (came.length : Int) = cnt G
 ol : (out.length : Int) + zS came = cnt G
 cb : ∀ i : Nat, i < came.length → rd came i ≤ out.length
theorem rI.next {G came out : List Int} {m v : Int} (h : isT G = true) (hc : cnt G ≤ 4000) (I : rI G m v came out) (hn : ¬ 0 ≤ rd came v) :
  rI G m (lZ G m v).2 (came.set v.toNat out.length) (out ++ [(lZ G m v).1]) := by
 obtain ⟨o, hr, h3, h4, h5⟩ := nL h hc I.v0 I.v1 I.lv
 have e : lZ G m v = o := by unfold lZ; rw [hr]; rfl
 have hv0 := I.v0; have hv1 := I.v1; have hcl := I.cl; have hol := I.ol
 have hlen : v.toNat < came.length := by omega
 have hneg := tz (l := came) (i := v.toNat) (x := (out.length : Int)) hlen (by
  have : rd came v = came.getD v.toNat 0 := rfl
  omega) (by omega)
 rw [e]
 refine ⟨h3, h4, h5, by simpa using hcl, by simp; omega, fun i hi => ?_⟩
 have hi' : i < came.length := by simpa using hi
 rw [HR hlen]
 split
 ·simp; omega
 ·have := I.cb i hi'
  simp; omega
theorem tT {G : List Int} {m : Int} (h : isT G = true) (hc : cnt G ≤ 4000) : ∀ (n : Nat) (v : Int) (came out : List Int), rI G m v came out → zS came < n → ∃ r, kZ G m n v came out = some r ∧ r.1.length ≤ 4000 ∧ r.2.length ≤ 4000
 | 0, v, came, out, I, hn => by omega
 | n + 1, v, came, out, I, hn => by
  unfold kZ
  have hol := I.ol
  by_cases hb : 0 ≤ rd came v
  ·rw [if_pos hb]
   exact ⟨_, rfl, by simp; omega, by simp; omega⟩
  ·rw [if_neg hb]
   have hv0 := I.v0; have hv1 := I.v1; have hcl := I.cl
   have hneg := tz (l := came) (i := v.toNat) (x := (out.length : Int)) (by omega) (by
    have : rd came v = came.getD v.toNat 0 := rfl
    omega) (by omega)
   exact tT h hc n _ _ _ (I.next h hc hb) (by omega)
theorem tS (G : List Int) (m : Int) : ∀ (n n' : Nat) (v : Int) (came out : List Int) (r : List Int × List Int), n ≤ n' → kZ G m n v came out = some r → kZ G m n' v came out = some r
 | 0, _, _, _, _, _, _, h => by cases h
 | n + 1, 0, _, _, _, _, h, _ => by omega
 | n + 1, n' + 1, v, came, out, r, h, e => by
  unfold kZ at e ⊢
  by_cases hb : 0 ≤ rd came v
  ·rw [if_pos hb] at e ⊢; exact e
  ·rw [if_neg hb] at e ⊢
   exact tS G m n n' _ _ _ r (by omega) e
theorem uo {k : Nat} {G : List Int} {m : Int} (hk : 2097152 ≤ k) (h : isT G = true) (hc : cnt G ≤ 4000) : ∀ (n : Nat) (S : List Int) (v : Int) (came out : List Int), rI G m v came out → ofN G v = S →
  aq.l1 k n G (fo G m) ((jB G m).map fun x : Nat => (x : Int)) came S out = (kZ G m n v came out).map fun r => (r.1, r.2, 0)
 | 0, S, v, came, out, I, e => rfl
 | n + 1, S, v, came, out, I, e => by
  have hst := kN v (cF h)
  have hv0 := I.v0; have hv1 := I.v1; have hcl := I.cl; have hol := I.ol
  have hcb := I.cb v.toNat (by omega)
  rw [show ((v.toNat : Nat) : Int) = v by omega] at hcb
  have hnum : num G S = v := by rw [← e]; exact Ef (cF h) hv0 hv1
  rw [e] at hst
  unfold kZ
  simp only [aq.l1, aq.s1]
  rw [qt hk h hst, Option.bind_some, hnum, if_pos hv0, if_pos (by omega)]
  by_cases hb : 0 ≤ rd came v
  ·rw [if_pos hb, if_pos hb, if_pos hb, if_pos hcb, BZ (by simp; omega), Option.bind_some, if_pos hb, if_pos hcb, if_pos (by omega), BZ (by simp; omega), Option.bind_some, Int.toNat_natCast, List.take_length]
   rfl
  ·obtain ⟨o, hr, h3, h4, h5⟩ := nL h hc hv0 hv1 I.lv
   have en : lZ G m v = o := by unfold lZ; rw [hr]; rfl
   rw [if_neg hb, if_neg hb, if_pos hv0, if_pos (by omega), DH hk h hst (pM h hc), Option.bind_some, ← e, hr, if_pos (by omega)]
   simp only [pN]
   rw [DQ hk h h3 (by omega), Option.bind_some]
   have := uo hk h hc n (ofN G o.2) o.2 _ _ (by have := I.next h hc hb; rw [en] at this; exact this) rfl
   rw [en]
   exact this
theorem CW {k : Nat} {G S sets : List Int} {L : List Bool} {M : Nat} (hm : M ≤ 4000) {r1 : (List Int) → (List Bool) → (List Int) → (List Int) → (List Int) → (List Int) → Option ((List Int) × (List Int) × Int)} (hr : r1 = aq.l1 k k) : ∀ (d i n : Nat), M - i = d → i ≤ M → d < n →
  aq.l0 k n G L sets (List.replicate i (-1) ++ List.replicate (M - i) 0) S [] M i = r1 G L sets (List.replicate M (-1)) S [] := by
 subst hr
 intro d
 induction d with
 | zero =>
  intro i n hd hi hn
  obtain rfl : i = M := by omega
  cases n with
  | zero => omega
  | succ n =>
   simp only [aq.l0, aq.s0]
   rw [if_neg (by omega), Nat.sub_self, List.replicate_zero, List.append_nil]
 | succ d ih =>
  intro i n hd hi hn
  cases n with
  | zero => omega
  | succ n =>
   simp only [aq.l0, aq.s0]
   have : (List.replicate i (-1 : Int) ++ List.replicate (M - i) 0).set i (-1) = List.replicate (i + 1) (-1) ++ List.replicate (M - (i + 1)) 0 := by
    rw [List.set_append_right _ _ (by simp), show M - i = (M - (i + 1)) + 1 by omega, List.replicate_succ, List.replicate_succ']
    simp
   rw [if_pos (by omega), if_pos (by omega), if_pos (by simp; omega), Int.toNat_natCast, this, cu (by omega)]
   exact ih (i + 1) n (by omega) (by omega) (by omega)
def il (G : List Int) (m : Int) : List Int × List Int × Int := if jn G m = 0 then (if uZ G m = true then (match kZ G m 4001 (cnt G - 1) (List.replicate (cnt G).toNat (-1)) [] with | some r => (r.1, r.2, 0) | none => ([], [], 0)) else ([], [], 4)) else ([], [], jn G m)
theorem mg {G : List Int} {m : Int} (h : isT G = true) (hc : cnt G ≤ 4000) (hs : uZ G m = true) : rI G m (cnt G - 1) (List.replicate (cnt G).toNat (-1)) [] := by
 have hp := dO (cF h)
 refine ⟨by omega, by omega, hs, by simp; omega, by rw [zT]; simp; omega, fun i hi => ?_⟩
 rw [wg hi]
 simp
theorem tQ {G : List Int} {m : Int} (hf : jn G m = 0) (hs : uZ G m = true) : ∃ r, kZ G m 4001 (cnt G - 1) (List.replicate (cnt G).toNat (-1)) [] = some r ∧ il G m = (r.1, r.2, 0) ∧ r.1.length ≤ 4000 ∧ r.2.length ≤ 4000 := by
 obtain ⟨h, _, hc⟩ := jo hf
 obtain ⟨r, h1, h2, h3⟩ := tT h hc 4001 _ _ _ (mg h hc hs) (by rw [zT]; omega)
 refine ⟨r, h1, ?_, h2, h3⟩
 unfold il
 rw [if_pos hf, if_pos hs, h1]
theorem wG : ∀ {G : List Int}, Gp G → Stt G G
 | [], _ => trivial
 | g :: G, h => ⟨⟨h.head.1, Int.le_refl _⟩, wG h.tail⟩
theorem tG : ∀ {G : List Int} (a : Int), Gp G → kn a G G = (a + 1) * cnt G - 1
 | [], a, _ => by simp [kn, cnt]
 | g :: G, a, h => by
  show kn (a * g + g - 1) G G = (a + 1) * (g * cnt G) - 1
  rw [tG _ h.tail, show a * g + g - 1 + 1 = (a + 1) * g by rw [Int.add_mul]; omega, Int.mul_assoc]
theorem vU {G : List Int} (h : isT G = true) : ofN G (cnt G - 1) = G := by
 have e : num G G = cnt G - 1 := by unfold num; rw [tG 0 (cF h)]; omega
 rw [← e]; exact ym (cF h) (wG (cF h))
theorem nW {k : Nat} {G : List Int} {m : Int} (hk : 2097152 ≤ k) (hl : G.length ≤ 1048576) : aq.f k G m = some (il G m) := by
 unfold aq.f aq.g
 rw [Fy hk hl, Option.bind_some]
 by_cases hf : jn G m = 0
 ·obtain ⟨h, _, hc⟩ := jo hf
  have hL := pM (m := m) h hc
  have hp := dO (cF h)
  have hlen := cB h
  rw [if_pos hf, xp hk h hc, Option.bind_some, Ia hk hlen.2, Option.bind_some, hL, w64 (by omega) (by omega), if_pos (by omega), if_pos (by omega)]
  by_cases hs : uZ G m = true
  ·obtain ⟨r, h1, h2, h3, h4⟩ := tQ hf hs
   rw [if_pos (show cP false (fo G m) (cnt G - 1) = true from hs), if_pos (by omega), if_pos (by omega), if_pos (by omega), BZ (by omega), Option.bind_some]
   have hfill := CW (k := k) (G := G) (S := G) (sets := (jB G m).map fun x : Nat => (x : Int)) (L := fo G m) (M := (cnt G).toNat) (by omega) rfl (cnt G).toNat 0 k (by omega) (by omega) (by omega)
   rw [List.length_replicate]
   refine Eq.trans hfill ?_
   rw [uo hk h hc k G (cnt G - 1) _ _ (mg h hc hs) (vU h), tS G m 4001 k _ _ _ r (by omega) h1, h2]
   rfl
  ·rw [if_neg (show ¬ cP false (fo G m) (cnt G - 1) = true from hs)]
   unfold il
   rw [if_pos hf, if_neg hs]
 ·rw [if_neg hf]
  unfold il; rw [if_neg hf]
def Gv {α : Type} (o : Option α) (Q : α → Prop) : Prop := ∃ b, o = some b ∧ Q b
theorem Gv.ok {α : Type} {b : α} {Q : α → Prop} (h : Q b) : Gv (some b) Q := ⟨b, rfl, h⟩
theorem Gv.bind {α β : Type} {o : Option α} {f : α → Option β} {P : α → Prop} {Q : β → Prop} (h : Gv o P) (hf : ∀ r, P r → Gv (f r) Q) : Gv (o.bind f) Q := by
 obtain ⟨r, rfl, hr⟩ := h
 exact hf r hr
theorem Gv.pos {α : Type} {p : Prop} [Decidable p] {o o' : Option α} {Q : α → Prop} (hp : p) (h : Gv o Q) : Gv (if p then o else o') Q := by rw [if_pos hp]; exact h
theorem Gv.neg {α : Type} {p : Prop} [Decidable p] {o o' : Option α} {Q : α → Prop} (hp : ¬p) (h : Gv o' Q) : Gv (if p then o else o') Q := by rw [if_neg hp]; exact h
theorem Gv.ite {α : Type} {p : Prop} [Decidable p] {o o' : Option α} {Q : α → Prop} (h1 : p → Gv o Q) (h2 : ¬p → Gv o' Q) : Gv (if p then o else o') Q := by
 by_cases hp : p
 ·exact Gv.pos hp (h1 hp)
 ·exact Gv.neg hp (h2 hp)
abbrev j3 := List Int × Int × Int
structure Src (s : j3) : Prop where
 bytes : ∀ x ∈ s.1, 0 ≤ x ∧ x ≤ 255
 len : s.1.length ≤ 4096
 t0 : 0 ≤ s.2.1
theorem tu (a : Int) : 0 ≤ bE .u64 a 16777215 ∧ bE .u64 a 16777215 ≤ 16777215 := by
 rw [iN]
 have h : (BitVec.ofInt IntKind.u64.bits a &&& BitVec.ofInt IntKind.u64.bits 16777215).toNat ≤ 16777215 := by
  rw [BitVec.toNat_and]
  refine Nat.le_trans Nat.and_le_right ?_
  decide
 generalize (BitVec.ofInt IntKind.u64.bits a &&& BitVec.ofInt IntKind.u64.bits 16777215).toNat = n at h
 show 0 ≤ IntKind.u64.wrap (n : Int) ∧ IntKind.u64.wrap (n : Int) ≤ 16777215
 have e : IntKind.u64.wrap (n : Int) = (n : Int) % 18446744073709551616 := by simp [IntKind.wrap, IntKind.bits, IntKind.signed]
 rw [e]; omega
def Nx (n : Int) (r : Int × j3) : Prop := Src r.2 ∧ (n < 1 → r.1 = 0) ∧ (1 ≤ n → 0 ≤ r.1 ∧ r.1 < n)
theorem cS {s : j3} (S : Src s) (n : Int) : Gv (ak.f s n) (Nx n) := by
 unfold ak.f
 by_cases c1 : n < 1
 ·exact Gv.pos c1 (Gv.ok ⟨S, fun _ => rfl, fun h => by omega⟩)
 rw [if_neg c1]
 have hm := tu (cp .u64 (IntKind.wrap .u64 ((IntKind.wrap .u64 (s.2.2 * 6364136223846793005)) + 1442695040888963407)) 33)
 generalize bE .u64 (cp .u64 (IntKind.wrap .u64 ((IntKind.wrap .u64 (s.2.2 * 6364136223846793005)) + 1442695040888963407)) 33) 16777215 = x at hm ⊢
 rw [w64 (x := x) (by omega) (by omega)]
 have td : ∀ y : Int, 0 ≤ y → 0 ≤ Int.tmod y n ∧ Int.tmod y n < n := by
  intro y hy
  rw [Int.tmod_eq_emod_of_nonneg hy]
  exact ⟨Int.emod_nonneg _ (by omega), Int.emod_lt_of_pos _ (by omega)⟩
 have h0 := S.t0
 have hl := S.len
 by_cases c2 : s.2.1 < (s.1.length : Int)
 ·have hb := S.bytes (rd s.1 s.2.1) (by
   obtain ⟨k, hk⟩ := Int.eq_ofNat_of_zero_le h0
   rw [hk]
   exact fq (by omega))
  rw [if_pos c2, if_pos h0, if_pos c2, if_neg (by omega), w64 (x := rd s.1 s.2.1) (by omega) (by omega), w64 (x := x + rd s.1 s.2.1) (by omega) (by omega), w64 (x := s.2.1 + 1) (by omega) (by omega)]
  exact Gv.ok ⟨⟨S.bytes, S.len, by simp only; omega⟩, fun h => absurd h c1, fun _ => td _ (by omega)⟩
 ·rw [if_neg c2, if_neg (by omega)]
  exact Gv.ok ⟨⟨S.bytes, S.len, S.t0⟩, fun h => absurd h c1, fun _ => td _ (by omega)⟩
theorem fS {s : j3} (S : Src s) (l : List Int) (hl : 1 ≤ l.length) : Gv (bT.f s l) fun r => Src r.2 ∧ r.1 ∈ l := by
 unfold bT.f
 refine Gv.bind (cS S (l.length : Int)) fun r hr => ?_
 obtain ⟨h1, h2⟩ := hr.2.2 (by omega)
 refine Gv.pos h1 (Gv.pos h2 (Gv.ok ⟨hr.1, ?_⟩))
 obtain ⟨k, hk⟩ := Int.eq_ofNat_of_zero_le h1
 show rd l r.1 ∈ l
 rw [hk]
 exact fq (by omega)
theorem qj {s : j3} (S : Src s) (m : Int) : Gv (gI.f s m) fun r => Src r.2 := by
 unfold gI.f
 refine Gv.bind (cS S 14) fun r hr => Gv.ite (fun _ => ?_) fun _ => ?_
 ·exact Gv.bind (fS hr.1 _ (by simp)) fun q hq => Gv.ok hq.1
 ·exact Gv.bind (cS hr.1 _) fun q hq => Gv.ok hq.1
theorem Hp (l : List Int) (h : l.length ≤ 1048576) : dw.f l = some l := by
 unfold dw.f
 rw [if_pos (by omega)]; rfl
theorem DL {k : Nat} (hk : 2097152 ≤ k) {c : List Int} (hb : ∀ x ∈ c, 0 ≤ x ∧ x ≤ 255) (hl : c.length ≤ 4096) : Gv (bC.f k c) Src := by
 have key : ∀ (d i n : Nat) (h : Int), c.length - i = d → i ≤ c.length → d < n → Gv (bC.l0 k n c c 0 h i) Src := by
  intro d
  induction d with
  | zero =>
   intro i n h hd hi hn
   cases n with
   | zero => omega
   | succ n =>
    simp only [bC.l0, bC.s0]
    exact Gv.neg (by omega) (Gv.ok ⟨hb, hl, by simp⟩)
  | succ d ih =>
   intro i n h hd hi hn
   cases n with
   | zero => omega
   | succ n =>
    simp only [bC.l0, bC.s0]
    refine Gv.pos (by omega) (Gv.pos (by omega) (Gv.pos (by omega) (Gv.pos (by omega) ?_)))
    rw [cu (by omega)]
    exact ih (i + 1) n _ (by omega) (by omega) (by omega)
 unfold bC.f bC.g
 exact key c.length 0 k _ (by omega) (by omega) (by omega)
theorem bytes_of {c : List Int} (h : ∀ a : Int, List.Mem a c → (Lit.int .u8 a).wf = true) : ∀ x ∈ c, 0 ≤ x ∧ x ≤ 255 := by
 intro x hx
 have := h x hx
 simp only [Lit.wf, Bool.and_eq_true, decide_eq_true_eq] at this
 exact ⟨by have := this.1; simpa [IntKind.min, IntKind.signed, IntKind.bits] using this, by have := this.2; simpa [IntKind.max, IntKind.signed, IntKind.bits] using this⟩
theorem xb {k : Nat} (hk : 2097152 ≤ k) {s : j3} (S : Src s) (m : Int) : Gv (bc.f k s m) fun r => Src r.2 ∧ 1 ≤ r.1.length ∧ r.1.length ≤ 120 := by
 have key : ∀ (d n : Nat) (out : List Int) (idle : Int) (s : j3), Src s → out.length + d ≤ 120 → 1 ≤ out.length + d → d < n → Gv (bc.l0 k n s.1 s.2.1 s.2.2 m out idle (d : Int)) fun r => Src r.2 ∧ 1 ≤ r.1.length ∧ r.1.length ≤ 120 := by
  intro d
  induction d with
  | zero =>
   intro n out idle s S h1 h2 hn
   cases n with
   | zero => omega
   | succ n =>
    simp only [bc.l0, bc.s0]
    exact Gv.neg (by omega) (Gv.ok ⟨S, by simp only; omega, by simp only; omega⟩)
  | succ d ih =>
   intro n out idle s S h1 h2 hn
   cases n with
   | zero => omega
   | succ n =>
    simp only [bc.l0, bc.s0]
    refine Gv.pos (by omega) (Gv.bind (cS S m) fun r hr => Gv.bind (cS hr.1 _) fun q hq => Gv.ite (fun _ => Gv.pos (by omega) ?_) fun _ => Gv.pos (by omega) ?_)
    ·rw [show wrap64 (((d + 1 : Nat) : Int) - 1) = (d : Int) by rw [w64 (by omega) (by omega)]; omega]
     exact ih n _ idle _ hq.1 (by simp; omega) (by simp; omega) (by omega)
    ·rw [show wrap64 (((d + 1 : Nat) : Int) - 1) = (d : Int) by rw [w64 (by omega) (by omega)]; omega]
     exact ih n _ idle _ hq.1 (by simp; omega) (by simp; omega) (by omega)
 unfold bc.f bc.g
 refine Gv.bind (fS S [1, 4, 20] (by simp)) fun r hr => Gv.bind (fS hr.1 [6, 12, 40, 120] (by simp)) fun q hq => Gv.bind (cS hq.1 _) fun p hp => ?_
 have hq2 : 1 ≤ q.1 ∧ q.1 ≤ 120 := by
  have := hq.2
  simp at this
  omega
 have hp2 := hp.2.2 hq2.1
 obtain ⟨d, hd⟩ := Int.eq_ofNat_of_zero_le hp2.1
 rw [hd, show wrap64 (1 + (d : Int)) = ((1 + d : Nat) : Int) by rw [w64 (by omega) (by omega)]; omega]
 exact key (1 + d) k [] r.1 p.2 hp.1 (by simp; omega) (by simp) (by omega)
theorem Im {k : Nat} (hk : 2097152 ≤ k) {l : List Int} (hl : l.length ≤ 1048576) (a : Int) : Gv (bd.f k l a) fun r => r.length ≤ 1048577 := by
 have key : ∀ (d i n : Nat) (out : List Int) (x y : Int), l.length - i = d → i ≤ l.length → out.length ≤ i → d < n → Gv (bd.l0 k n l a out x y i) fun r => r.length ≤ 1048577 := by
  intro d
  induction d with
  | zero =>
   intro i n out x y hd hi ho hn
   cases n with
   | zero => omega
   | succ n =>
    simp only [bd.l0, bd.s0]
    exact Gv.neg (by omega) (Gv.ite (fun _ => Gv.pos (by omega) (Gv.ok (by simp; omega))) fun _ => Gv.ok (by omega))
  | succ d ih =>
   intro i n out x y hd hi ho hn
   cases n with
   | zero => omega
   | succ n =>
    simp only [bd.l0, bd.s0]
    refine Gv.pos (by omega) (Gv.pos (by omega) (Gv.pos (by omega) ?_))
    rw [cu (by omega)]
    refine Gv.ite (fun _ => Gv.ite (fun _ => ih (i + 1) n _ _ _ (by omega) (by omega) (by omega) (by omega)) fun _ => Gv.pos (by omega) (ih (i + 1) n _ _ _ (by omega) (by omega) (by simp; omega) (by omega))) fun _ => ih (i + 1) n _ _ _ (by omega) (by omega) (by omega) (by omega)
 unfold bd.f bd.g
 exact key l.length 0 k [] _ _ (by omega) (by omega) (by simp) (by omega)
theorem qq {k : Nat} (hk : 2097152 ≤ k) {l : List Int} (hl : l.length ≤ 1048576) (a : Int) : Gv (aJ.f k l a) fun _ => True := by
 have key : ∀ (w : List Int), w.length ≤ 1048577 → ∀ (d i n : Nat) (x : Int), w.length - i = d → i ≤ w.length → d < n → Gv (aJ.l0 k n w x i) fun _ => True := by
  intro w hw d
  induction d with
  | zero =>
   intro i n x hd hi hn
   cases n with
   | zero => omega
   | succ n =>
    simp only [aJ.l0, aJ.s0]
    exact Gv.neg (by omega) (Gv.ok trivial)
  | succ d ih =>
   intro i n x hd hi hn
   cases n with
   | zero => omega
   | succ n =>
    simp only [aJ.l0, aJ.s0]
    refine Gv.pos (by omega) (Gv.pos (by omega) (Gv.pos (by omega) ?_))
    rw [cu (by omega)]
    exact ih (i + 1) n _ (by omega) (by omega) (by omega)
 unfold aJ.f aJ.g
 refine Gv.bind (Im hk hl a) fun w hw => ?_
 exact key w hw w.length 0 k 0 (by omega) (by omega) (by omega)
theorem Ft {k : Nat} (hk : 2097152 ≤ k) {s : j3} (S : Src s) {m : Nat} (hm : m ≤ 1000) : Gv (bz.f k s (m : Int)) fun r => Src r.2 ∧ r.1.length = m := by
 have key : ∀ (d i n : Nat) (out : List Int) (s : j3), Src s → m - i = d → i ≤ m → out.length = i → d < n → Gv (bz.l0 k n s.1 s.2.1 s.2.2 (m : Int) out (i : Int)) fun r => Src r.2 ∧ r.1.length = m := by
  intro d
  induction d with
  | zero =>
   intro i n out s S hd hi ho hn
   cases n with
   | zero => omega
   | succ n =>
    simp only [bz.l0, bz.s0]
    exact Gv.neg (by omega) (Gv.ok ⟨S, by simp only; omega⟩)
  | succ d ih =>
   intro i n out s S hd hi ho hn
   cases n with
   | zero => omega
   | succ n =>
    simp only [bz.l0, bz.s0]
    refine Gv.pos (by omega) (Gv.bind (fS S _ (by simp)) fun r hr => Gv.bind (cS hr.1 _) fun q hq => Gv.pos (by omega) ?_)
    rw [cu (by omega)]
    exact ih (i + 1) n _ _ hq.1 (by omega) (by omega) (by simp; omega) (by omega)
 unfold bz.f bz.g
 exact key m 0 k [] s S (by omega) (by omega) (by simp) (by omega)
theorem wA {k m : Nat} (hk : 2097152 ≤ k) (hm8 : 1 ≤ m ∧ m ≤ 8) : ∀ (w : List Int), 1 ≤ w.length → w.length ≤ 120 → ∀ (d i n : Nat) (out : List Int) (s : j3), Src s → m - i = d → i ≤ m → out.length = i → d < n → Gv (aA.l1 k n s.1 s.2.1 s.2.2 (m : Int) w out (i : Int)) fun r => Src r.2.2 ∧ 1 ≤ r.1.length ∧ r.1.length ≤ 8 ∧ 1 ≤ r.2.1.length ∧ r.2.1.length ≤ 120 := by
 intro w hw1 hw2 d
 induction d with
 | zero =>
  intro i n out s S hd hi ho hn
  cases n with
  | zero => omega
  | succ n =>
   simp only [aA.l1, aA.s1]
   exact Gv.neg (by omega) (Gv.ok ⟨S, by simp only; omega, by simp only; omega, hw1, hw2⟩)
 | succ d ih =>
  intro i n out s S hd hi ho hn
  cases n with
  | zero => omega
  | succ n =>
   simp only [aA.l1, aA.s1]
   have nx : wrap64 ((i : Int) + 1) = ((i + 1 : Nat) : Int) := cu (by omega)
   rw [nx]
   have go : ∀ (x : Int) (s : j3), Src s → Gv (aA.l1 k n s.1 s.2.1 s.2.2 (m : Int) w (out ++ [x]) ((i + 1 : Nat) : Int)) fun r => Src r.2.2 ∧ 1 ≤ r.1.length ∧ r.1.length ≤ 8 ∧ 1 ≤ r.2.1.length ∧ r.2.1.length ≤ 120 :=
    fun x s S => ih (i + 1) n _ s S (by omega) (by omega) (by simp; omega) (by omega)
   refine Gv.pos (by omega) (Gv.bind (qq hk (by omega) _) fun g _ => Gv.ite (fun _ => ?_) fun _ => ?_)
   ·refine Gv.bind (cS S 4) fun a ha => Gv.ite (fun _ => Gv.bind (cS ha.1 4) fun b hb => Gv.pos (by omega) (go _ _ hb.1)) fun _ => Gv.pos (by omega) (go _ _ ha.1)
   ·refine Gv.bind (cS S 4) fun a ha => Gv.ite (fun _ => Gv.bind (cS ha.1 4) fun b hb => Gv.pos (by omega) (go _ _ hb.1)) fun _ => Gv.pos (by omega) (go _ _ ha.1)
theorem FR {k m : Nat} (hk : 2097152 ≤ k) (hm8 : 1 ≤ m ∧ m ≤ 8) : ∀ (d i n : Nat) (w : List Int) (s : j3), Src s → 1 ≤ w.length → w.length ≤ 120 → m - i = d → i ≤ m → d < n → Gv (aA.l0 k n s.1 s.2.1 s.2.2 (m : Int) w (i : Int)) fun r => Src r.2.2 ∧ 1 ≤ r.1.length ∧ r.1.length ≤ 8 ∧ 1 ≤ r.2.1.length ∧ r.2.1.length ≤ 120 := by
 intro d
 induction d with
 | zero =>
  intro i n w s S h1 h2 hd hi hn
  cases n with
  | zero => omega
  | succ n =>
   simp only [aA.l0, aA.s0]
   exact Gv.neg (by omega) (wA hk hm8 w h1 h2 m 0 k [] s S (by omega) (by omega) (by simp) (by omega))
 | succ d ih =>
  intro i n w s S h1 h2 hd hi hn
  cases n with
  | zero => omega
  | succ n =>
   simp only [aA.l0, aA.s0]
   have nx : wrap64 ((i : Int) + 1) = ((i + 1 : Nat) : Int) := cu (by omega)
   rw [nx]
   refine Gv.pos (by omega) (Gv.ite (fun c => Gv.bind (qq hk (by omega) _) fun g _ => Gv.ite (fun _ => Gv.pos (by omega) (Gv.pos c ?_)) fun _ => ?_) fun _ => ?_)
   ·exact ih (i + 1) n _ s S (by simp; omega) (by simp; omega) (by omega) (by omega) (by omega)
   ·exact ih (i + 1) n w s S h1 h2 (by omega) (by omega) (by omega)
   ·exact wA hk hm8 w h1 h2 m 0 k [] s S (by omega) (by omega) (by simp) (by omega)
theorem va {k : Nat} (hk : 2097152 ≤ k) {s : j3} (S : Src s) : Gv (aA.f k s) fun r => Src r.2.2 ∧ 1 ≤ r.1.length ∧ r.1.length ≤ 8 ∧ 1 ≤ r.2.1.length ∧ r.2.1.length ≤ 120 := by
 unfold aA.f aA.g
 refine Gv.bind (fS S [3, 5, 8] (by simp)) fun r hr => Gv.bind (cS hr.1 _) fun q hq => ?_
 have hr2 : 1 ≤ r.1 ∧ r.1 ≤ 8 := by
  have := hr.2
  simp at this
  omega
 have hq2 := hq.2.2 hr2.1
 obtain ⟨m0, hm0⟩ := Int.eq_ofNat_of_zero_le hq2.1
 rw [hm0, show wrap64 (1 + (m0 : Int)) = ((1 + m0 : Nat) : Int) by rw [w64 (by omega) (by omega)]; omega]
 obtain ⟨m, hm⟩ : ∃ m, m = 1 + m0 := ⟨_, rfl⟩
 have hm8 : 1 ≤ m ∧ m ≤ 8 := by omega
 rw [← hm]
 refine Gv.bind (xb hk hq.1 _) fun p hp => ?_
 exact FR hk hm8 m 0 k p.1 p.2 hp.1 hp.2.1 hp.2.2 (by omega) (by omega) (by omega)
theorem zr {k : Nat} (hk : 2097152 ≤ k) {s : j3} (S : Src s) : Gv (gH.f k s) fun r => Src r.2 ∧ 1 ≤ r.1.length ∧ r.1.length ≤ 8 := by
 unfold gH.f
 refine Gv.bind (cS S 2) fun r hr => Gv.ite (fun _ => ?_) fun _ => ?_
 ·exact Gv.bind (va hk hr.1) fun q hq => Gv.ok ⟨hq.1, hq.2.1, hq.2.2.1⟩
 ·refine Gv.bind (fS hr.1 [3, 5, 8] (by simp)) fun q hq => Gv.bind (cS hq.1 _) fun p hp => ?_
  have hq2 : 1 ≤ q.1 ∧ q.1 ≤ 8 := by
   have := hq.2
   simp at this
   omega
  have hp2 := hp.2.2 hq2.1
  obtain ⟨m0, hm0⟩ := Int.eq_ofNat_of_zero_le hp2.1
  rw [hm0, show wrap64 (1 + (m0 : Int)) = ((1 + m0 : Nat) : Int) by rw [w64 (by omega) (by omega)]; omega]
  exact Gv.bind (Ft hk hp.1 (by omega)) fun z hz => Gv.ok ⟨hz.1, by show 1 ≤ z.1.length; omega, by show z.1.length ≤ 8; omega⟩
theorem Lo {k : Nat} (hk : 2097152 ≤ k) {s : j3} (S : Src s) {l : List Int} (h1 : 1 ≤ l.length) (h2 : l.length ≤ 1000) : Gv (aY.f k s l) fun r => Src r.2 ∧ r.1.length ≤ 1009 := by
 have key : ∀ (d n : Nat) (out : List Int) (s : j3), Src s → out.length ≤ 1009 → 9 - out.length ≤ d → d < n → Gv (aY.l0 k n out s.1 s.2.1 s.2.2) fun r => Src r.2 ∧ r.1.length ≤ 1009 := by
  intro d
  induction d with
  | zero =>
   intro n out s S ho hd hn
   cases n with
   | zero => omega
   | succ n =>
    simp only [aY.l0, aY.s0]
    exact Gv.neg (by omega) (Gv.ok ⟨S, by simp only; omega⟩)
  | succ d ih =>
   intro n out s S ho hd hn
   cases n with
   | zero => omega
   | succ n =>
    simp only [aY.l0, aY.s0]
    refine Gv.ite (fun c => Gv.pos (by omega) (ih n _ s S (by simp; omega) (by simp; omega) (by omega))) fun c => Gv.ok ⟨S, by simp only; omega⟩
 unfold aY.f aY.g
 rw [Hp l (by omega), Option.bind_some]
 refine Gv.bind (cS S 50) fun r hr => Gv.ite (fun _ => Gv.ok ⟨hr.1, by simp⟩) fun _ => Gv.ite (fun _ => ?_) fun _ => Gv.ite (fun _ => key 9 k l r.2 hr.1 (by omega) (by omega) (by omega)) fun _ => Gv.ok ⟨hr.1, by simp only; omega⟩
 unfold di.f
 rw [Option.bind_some]
 refine Gv.bind (cS hr.1 _) fun q hq => Gv.bind (fS hq.1 _ (by simp)) fun p hp => ?_
 have := hq.2.2 (by omega)
 exact Gv.pos this.1 (Gv.pos this.2 (Gv.ok ⟨hp.1, by simp; omega⟩))
def oz : List (List Int) := [[1], [2, 2], [2, 3], [2, 4, 4], [3, 3, 3], [2, 3, 6], [3, 4, 4], [3, 4, 5], [2, 5, 6], [4, 4, 4, 4], [3, 4, 6, 6], [2, 4, 8, 8], [1, 2], [3, 5, 5, 5], [4, 5, 5, 5], [2, 6, 7]]
theorem xo : ∀ l ∈ oz, 1 ≤ l.length ∧ l.length ≤ 8 := by decide
theorem xn {k : Nat} (hk : 2097152 ≤ k) {s : j3} (S : Src s) : Gv (dN.f k s) fun r => Src r.2 ∧ 1 ≤ r.1.length ∧ r.1.length ≤ 8 := by
 unfold dN.f
 refine Gv.bind (cS S 16) fun r hr => ?_
 obtain ⟨h0, h1⟩ := hr.2.2 (by omega)
 refine Gv.pos h0 (Gv.pos h1 ?_)
 obtain ⟨l, hl⟩ : ∃ l, l = cP ([] : List Int) oz r.1 := ⟨_, rfl⟩
 have hl2 : 1 ≤ l.length ∧ l.length ≤ 8 := by
  obtain ⟨j, hj⟩ := Int.eq_ofNat_of_zero_le h0
  have hlt : j < oz.length := by show j < 16; omega
  rw [hl, hj, yv hlt]
  exact xo _ (List.getElem_mem hlt)
 show Gv ((dw.f (cP ([] : List Int) oz r.1)).bind _) _
 rw [← hl, Hp l (by omega), Option.bind_some]
 refine Gv.bind (cS hr.1 4) fun q hq => Gv.ite (fun _ => ?_) fun _ => ?_
 ·unfold di.f
  rw [Option.bind_some]
  refine Gv.bind (cS hq.1 _) fun p hp => ?_
  obtain ⟨g0, g1⟩ := hp.2.2 (by omega)
  refine Gv.pos g0 (Gv.pos g1 (Gv.bind (cS hp.1 3) fun a ha => Gv.pos g0 (Gv.pos g1 (Gv.bind (cS ha.1 24) fun b hb => Gv.ite (fun _ => ?_) fun _ => ?_))))
  ·exact Gv.bind (zr hk hb.1) fun z hz => Gv.ok hz
  ·exact Gv.ok ⟨hb.1, by simp; omega, by simp; omega⟩
 ·refine Gv.bind (cS hq.1 24) fun b hb => Gv.ite (fun _ => ?_) fun _ => ?_
  ·exact Gv.bind (zr hk hb.1) fun z hz => Gv.ok hz
  ·exact Gv.ok ⟨hb.1, hl2.1, hl2.2⟩
theorem J5 (P : List Int) (x : Int) (j : Nat) : rd (P ++ [x]) j = if j < P.length then rd P j else if j = P.length then x else 0 := by
 rw [eY, eY, List.getD_eq_getElem?_getD, List.getD_eq_getElem?_getD]
 by_cases h : j < P.length
 ·rw [if_pos h, List.getElem?_append_left h]
 ·rw [if_neg h, List.getElem?_append_right (by omega)]
  by_cases e : j = P.length
  ·rw [if_pos e, e]; simp
  ·rw [if_neg e, List.getElem?_eq_none (by simp; omega)]; rfl
def dif : Int → List Int → List Int
 | _, [] => []
 | a, b :: P => (b - a) :: dif b P
def fK : Int → List Int → Int
 | a, [] => a
 | _, b :: P => fK b P
def wts (n : Int) : List Int → List Int
 | [] => []
 | f :: P => dif f P ++ [n - fK f P + f]
def places (cs : List Int) (t : Int) : Nat → List Int
 | 0 => []
 | i + 1 => if rd cs i = t then places cs t i ++ [(i : Int)] else places cs t i
def wait (cs : List Int) (t : Int) : List Int := wts cs.length (places cs t cs.length)
theorem Dz : ∀ (P : List Int) (a x : Int), dif a (P ++ [x]) = dif a P ++ [x - fK a P]
 | [], a, x => rfl
 | b :: P, a, x => by
  show (b - a) :: dif b (P ++ [x]) = (b - a) :: (dif b P ++ [x - fK b P])
  rw [Dz P b x]
theorem pL : ∀ (P : List Int) (a x : Int), fK a (P ++ [x]) = x
 | [], a, x => rfl
 | b :: P, a, x => pL P b x
theorem ki : ∀ (P : List Int) (a : Int), fK a P ∈ a :: P
 | [], a => by simp [fK]
 | b :: P, a => List.mem_cons_of_mem _ (ki P b)
theorem og : ∀ (P : List Int) (a : Int), (dif a P).length = P.length
 | [], a => rfl
 | b :: P, a => by simp [dif, og P b]
theorem yP (n : Int) : ∀ P : List Int, (wts n P).length = P.length
 | [] => rfl
 | f :: P => by simp [wts, og]
theorem fW (cs : List Int) (t : Int) : ∀ (i : Nat), ∀ x ∈ places cs t i, 0 ≤ x ∧ x < i
 | 0, x, h => by cases h
 | i + 1, x, h => by
  unfold places at h
  split at h
  ·rcases List.mem_append.1 h with h | h
   ·have := fW cs t i x h; omega
   ·simp only [List.mem_singleton] at h; omega
  ·have := fW cs t i x h; omega
theorem gZ (cs : List Int) (t : Int) : ∀ (i : Nat), (places cs t i).length ≤ i
 | 0 => Nat.le_refl _
 | i + 1 => by
  have := gZ cs t i
  unfold places
  split
  ·simp; omega
  ·omega
theorem kS (a : Int) (l : List Int) (i : Nat) : rd (a :: l) ((i + 1 : Nat) : Int) = rd l (i : Int) := by rw [eY, eY]; rfl
theorem J6 (a : Int) (l : List Int) : rd (a :: l) ((0 : Nat) : Int) = a := rfl
theorem GK : ∀ (P : List Int) (a : Int) (j : Nat), j < P.length → rd (dif a P) j = rd (a :: P) ((j + 1 : Nat) : Int) - rd (a :: P) j
 | [], a, j, h => by simp at h
 | b :: P, a, 0, h => rfl
 | b :: P, a, j + 1, h => by
  show rd ((b - a) :: dif b P) ((j + 1 : Nat) : Int) = _
  rw [kS (b - a) (dif b P) j, GK P b j (by simpa using h), kS a (b :: P) (j + 1), kS a (b :: P) j]
theorem zJ : ∀ (P : List Int) (a : Int), fK a P = rd (a :: P) P.length
 | [], a => rfl
 | b :: P, a => by
  rw [List.length_cons, kS]
  exact zJ P b
theorem NG (n : Int) {P : List Int} {j : Nat} (hj : j < P.length) : rd (wts n P) j = if j + 1 < P.length then rd P ((j + 1 : Nat) : Int) - rd P j else rd P ((0 : Nat) : Int) + n - rd P j := by
 cases P with
 | nil => simp at hj
 | cons f P =>
  show rd (dif f P ++ [n - fK f P + f]) j = _
  rw [J5, og]
  have hl : (f :: P).length = P.length + 1 := rfl
  by_cases c : j < P.length
  ·rw [if_pos c, if_pos (by omega), GK P f j c]
  ·have e : j = P.length := by omega
   rw [if_neg c, if_pos e, if_neg (by omega), zJ, J6, e]; omega
def grt (w : List Int) : Int := w.foldl jI 0
theorem JP {a b g : Int} : jI a b ≤ g ↔ a ≤ g ∧ b ≤ g := by unfold jI; split <;> omega
theorem zy : ∀ (w : List Int) (x g : Int), w.foldl jI x ≤ g ↔ x ≤ g ∧ ∀ y ∈ w, y ≤ g
 | [], x, g => by simp
 | a :: w, x, g => by
  rw [List.foldl_cons, zy w _ g, JP]
  simp only [List.mem_cons, forall_eq_or_imp]
  constructor
  ·rintro ⟨⟨h1, h2⟩, h3⟩; exact ⟨h1, h2, h3⟩
  ·rintro ⟨h1, h2, h3⟩; exact ⟨⟨h1, h2⟩, h3⟩
theorem GV {w : List Int} {g : Int} : grt w ≤ g ↔ 0 ≤ g ∧ ∀ y ∈ w, y ≤ g := zy w 0 g
theorem BG (w : List Int) : 0 ≤ grt w := (GV.1 (Int.le_refl (grt w))).1
theorem yH {k : Nat} {cs : List Int} (hk : 2097152 ≤ k) (hl : cs.length ≤ 1048576) (t : Int) : bd.f k cs t = some (wait cs t) := by
 have key : ∀ (d i n : Nat) (out : List Int) (f l : Int), cs.length - i = d → i ≤ cs.length → d < n →
   ((places cs t i = [] ∧ out = [] ∧ f = -1) ∨ ∃ Q, places cs t i = f :: Q ∧ out = dif f Q ∧ l = fK f Q) → bd.l0 k n cs t out f l i = some (wait cs t) := by
  intro d
  induction d with
  | zero =>
   intro i n out f l hd hi hn I
   obtain rfl : i = cs.length := by omega
   cases n with
   | zero => omega
   | succ n =>
    have hb := fW cs t cs.length
    have hpl := gZ cs t cs.length
    simp only [bd.l0, bd.s0]
    rw [if_neg (by omega)]
    rcases I with ⟨h1, h2, h3⟩ | ⟨Q, h1, h2, h3⟩
    ·rw [if_neg (by omega), h2]; unfold wait; rw [h1]; rfl
    ·rw [h1] at hb hpl
     have b1 := hb f (by simp)
     have b2 := hb _ (ki Q f)
     have hq := og Q f
     simp at hpl
     rw [if_pos b1.1, h2, if_pos (by omega), h3, w64 (x := (cs.length : Int) - fK f Q) (by omega) (by omega), w64 (by omega) (by omega)]
     unfold wait; rw [h1]; rfl
  | succ d ih =>
   intro i n out f l hd hi hn I
   cases n with
   | zero => omega
   | succ n =>
    have hb := fW cs t i
    have hpl := gZ cs t i
    simp only [bd.l0, bd.s0]
    rw [cu (by omega), if_pos (by omega), if_pos (by omega), if_pos (by omega)]
    by_cases c : rd cs i = t
    ·rw [if_pos c]
     have hp : places cs t (i + 1) = places cs t i ++ [(i : Int)] := if_pos c
     rcases I with ⟨h1, h2, h3⟩ | ⟨Q, h1, h2, h3⟩
     ·rw [if_pos (by omega)]
      exact ih (i + 1) n _ _ _ (by omega) (by omega) (by omega) (.inr ⟨[], by rw [hp, h1]; rfl, h2, rfl⟩)
     ·rw [h1] at hb hpl
      have b1 := hb f (by simp)
      have b2 := hb _ (ki Q f)
      have hq := og Q f
      simp at hpl
      rw [if_neg (by omega), h2, if_pos (by omega), h3, w64 (by omega) (by omega)]
      exact ih (i + 1) n _ _ _ (by omega) (by omega) (by omega) (.inr ⟨Q ++ [(i : Int)], by rw [hp, h1]; rfl, (Dz Q f i).symm, (pL Q f i).symm⟩)
    ·rw [if_neg c]
     have hp : places cs t (i + 1) = places cs t i := if_neg c
     exact ih (i + 1) n _ _ _ (by clear I; omega) (by clear I; omega) (by clear I; omega) (by rw [hp]; exact I)
 unfold bd.f bd.g
 exact key cs.length 0 k [] _ _ (by omega) (by omega) (by omega) (.inl ⟨rfl, rfl, rfl⟩)
theorem xg {k : Nat} {cs : List Int} (hk : 2097152 ≤ k) (hl : cs.length ≤ 1048576) (t : Int) : bk.f k cs t = some (wait cs t) := by
 have hb := fW cs t cs.length
 have hpl := gZ cs t cs.length
 have key1 : ∀ (d j n : Nat), (places cs t cs.length).length - j = d → j ≤ (places cs t cs.length).length → d < n → bk.l1 k n cs (places cs t cs.length) ((wait cs t).take j) (places cs t cs.length).length j = some (wait cs t) := by
  have hwl : (wait cs t).length = (places cs t cs.length).length := yP _ _
  intro d
  induction d with
  | zero =>
   intro j n hd hj hn
   cases n with
   | zero => omega
   | succ n =>
    simp only [bk.l1, bk.s1]
    rw [if_neg (by omega), List.take_of_length_le (by omega)]
  | succ d ih =>
   intro j n hd hj hn
   cases n with
   | zero => omega
   | succ n =>
    have hr := NG (cs.length : Int) (P := places cs t cs.length) (j := j) (by omega)
    have e : (wait cs t).take (j + 1) = (wait cs t).take j ++ [rd (wait cs t) j] := by rw [wg (by omega), List.take_succ_eq_append_getElem (by omega)]
    have b1 := hb _ (fq (l := places cs t cs.length) (i := j) (by omega))
    have tl : ((wait cs t).take j).length ≤ 1048576 := by rw [List.length_take]; omega
    simp only [bk.l1, bk.s1]
    rw [cu (by omega), if_pos (by omega), if_pos (by omega), if_pos (by omega)]
    have next := ih (j + 1) n (by omega) (by omega) (by omega)
    by_cases c : j + 1 < (places cs t cs.length).length
    ·have b2 := hb _ (fq (l := places cs t cs.length) (i := j + 1) c)
     rw [if_pos c] at hr
     rw [if_pos (by omega), if_pos (by omega), if_pos (by omega), if_pos (by omega), w64 (by omega) (by omega), ← hr]
     rw [e] at next
     exact next
    ·have b2 := hb _ (fq (l := places cs t cs.length) (i := 0) (by omega))
     rw [if_neg c] at hr
     have e0 : rd (places cs t cs.length) 0 = rd (places cs t cs.length) ((0 : Nat) : Int) := rfl
     rw [if_neg (by omega), if_pos (by omega), tr, Option.bind_some, if_pos (by omega), e0, w64 (x := rd (places cs t cs.length) ((0 : Nat) : Int) + cs.length) (by omega) (by omega), w64 (by omega) (by omega), ← hr]
     rw [e] at next
     exact next
 have key0 : ∀ (d i n : Nat), cs.length - i = d → i ≤ cs.length → d < n → bk.l0 k n cs t (places cs t i) cs cs.length i = some (wait cs t) := by
  intro d
  induction d with
  | zero =>
   intro i n hd hi hn
   obtain rfl : i = cs.length := by omega
   cases n with
   | zero => omega
   | succ n =>
    simp only [bk.l0, bk.s0]
    rw [if_neg (by omega)]
    exact key1 _ 0 k rfl (by omega) (by omega)
  | succ d ih =>
   intro i n hd hi hn
   cases n with
   | zero => omega
   | succ n =>
    have hpi := gZ cs t i
    simp only [bk.l0, bk.s0]
    rw [cu (by omega), if_pos (by omega), if_pos (by omega), if_pos (by omega)]
    have next := ih (i + 1) n (by omega) (by omega) (by omega)
    by_cases c : rd cs i = t
    ·rw [if_pos c, if_pos (by omega)]
     rw [show places cs t (i + 1) = places cs t i ++ [(i : Int)] from if_pos c] at next
     exact next
    ·rw [if_neg c]
     rw [show places cs t (i + 1) = places cs t i from if_neg c] at next
     exact next
 unfold bk.f bk.g
 exact key0 cs.length 0 k (by omega) (by omega) (by omega)
theorem AB {cs : List Int} (t : Int) : (wait cs t).length ≤ cs.length := by
 unfold wait; rw [yP]; exact gZ cs t cs.length
theorem qP {k : Nat} {w : List Int} (hk : 2097152 ≤ k) (hw : w.length ≤ 1048576) : bA.f k w = some (grt w) := by
 have key : ∀ (d i n : Nat) (x : Int), w.length - i = d → i ≤ w.length → d < n → bA.l0 k n x w w.length i = some ((w.drop i).foldl jI x) := by
  intro d
  induction d with
  | zero =>
   intro i n x hd hi hn
   cases n with
   | zero => omega
   | succ n =>
    simp only [bA.l0, bA.s0]
    rw [if_neg (by omega), List.drop_eq_nil_of_le (by omega)]; rfl
  | succ d ih =>
   intro i n x hd hi hn
   cases n with
   | zero => omega
   | succ n =>
    simp only [bA.l0, bA.s0]
    rw [cu (by omega), if_pos (by omega), if_pos (by omega), if_pos (by omega), drop_cons (by omega), ih (i + 1) n _ (by omega) (by omega) (by omega)]; rfl
 unfold bA.f bA.g
 exact key w.length 0 k 0 (by omega) (by omega) (by omega)
theorem q9 {k : Nat} {cs : List Int} (hk : 2097152 ≤ k) (hl : cs.length ≤ 1048576) (t : Int) : aJ.f k cs t = some (grt (wait cs t)) := by
 have hw : (wait cs t).length ≤ 1048576 := by have := AB (cs := cs) t; omega
 have key : ∀ (d i n : Nat) (x : Int), (wait cs t).length - i = d → i ≤ (wait cs t).length → d < n → aJ.l0 k n (wait cs t) x i = some (((wait cs t).drop i).foldl jI x) := by
  intro d
  induction d with
  | zero =>
   intro i n x hd hi hn
   cases n with
   | zero => omega
   | succ n =>
    simp only [aJ.l0, aJ.s0]
    rw [if_neg (by omega), List.drop_eq_nil_of_le (by omega)]; rfl
  | succ d ih =>
   intro i n x hd hi hn
   cases n with
   | zero => omega
   | succ n =>
    simp only [aJ.l0, aJ.s0]
    rw [cu (by omega), if_pos (by omega), if_pos (by omega), if_pos (by omega), drop_cons (by omega), ih (i + 1) n _ (by omega) (by omega) (by omega)]; rfl
 unfold aJ.f aJ.g
 rw [yH hk hl, Option.bind_some]
 exact key (wait cs t).length 0 k 0 (by omega) (by omega) (by omega)
def okT (cs : List Int) (t g : Int) : Bool := decide (1 ≤ (wait cs t).length ∧ grt (wait cs t) ≤ g)
def qL (p c : Int) : Bool := decide (-1 ≤ c ∧ c ≤ wrap64 (p - 1))
def kb (p : Int) (cs : List Int) : Bool := decide (1 ≤ cs.length ∧ cs.length ≤ 120) && cs.all (qL p)
theorem Fi {k : Nat} {l : List Int} (hk : 2097152 ≤ k) (hl : l.length ≤ 1048576) (m : Int) : ij.f k l m = some (kb m l) := by
 have key : cD.f k l m = some (l.all (qL m)) := by
  obtain ⟨j, h1, h2⟩ := DN (L := af.l0 k) (p := fun x => !qL m x) (l := l) (c := m)
   (fun n i hi => by
    simp only [af.l0, af.s0]
    rw [if_pos (by omega), if_pos (by omega), if_pos (by omega)]
    simp only [cR.f, iE.f, gJ, Option.bind_some, cu (show i ≤ 9223372036854775806 by omega)]
    unfold qL
    cases decide (-1 ≤ rd l i ∧ rd l i ≤ wrap64 (m - 1)) <;> simp)
   (fun n => by
    simp only [af.l0, af.s0]
    rw [if_neg (by omega)]) l.length 0 k (by omega) (by omega) (by omega)
  unfold cD.f bI.f af.f af.g
  rw [show af.l0 k k l m l.length 0 = some j from h1, Option.bind_some, Option.bind_some]
  rw [List.drop_zero] at h2
  congr 1
  exact Dk (p := fun x => !qL m x) (fun _ => rfl) h2
 unfold ij.f kb
 rw [tr, Option.bind_some, gJ, Option.bind_some]
 by_cases c : 1 ≤ l.length ∧ l.length ≤ 120
 ·rw [if_pos (decide_eq_true (by omega)), key, Option.bind_some, decide_eq_true c, Bool.true_and]
 ·rw [if_neg (by simp; omega), decide_eq_false c, Bool.false_and]
theorem Fx {k : Nat} {l : List Int} (hk : 2097152 ≤ k) (hl : l.length ≤ 1048576) (m : Int) : bM.f k l m = some (kb m l) := by
 have key : ∀ (d i n : Nat), l.length - i = d → i ≤ l.length → d < n → bM.l0 k n l m i = some (decide (1 ≤ l.length ∧ l.length ≤ 120) && (l.drop i).all (qL m)) := by
  intro d
  induction d with
  | zero =>
   intro i n hd hi hn
   cases n with
   | zero => omega
   | succ n =>
    simp only [bM.l0, bM.s0]
    rw [if_neg (by omega), jO, Option.bind_some, List.drop_eq_nil_of_le (by omega), List.all_nil, Bool.and_true]
    congr 1
    rw [decide_eq_decide]; omega
  | succ d ih =>
   intro i n hd hi hn
   cases n with
   | zero => omega
   | succ n =>
    simp only [bM.l0, bM.s0]
    rw [cu (by omega), if_pos (by omega), if_pos (by omega), if_pos (by omega), jO, Option.bind_some, drop_cons (by omega), List.all_cons, ih (i + 1) n (by omega) (by omega) (by omega)]
    unfold qL
    by_cases c : -1 ≤ rd l i ∧ rd l i ≤ wrap64 (m - 1)
    ·rw [if_pos (decide_eq_true c), decide_eq_true c, Bool.true_and]
    ·rw [if_neg (by simpa using c), decide_eq_false c, Bool.false_and, Bool.and_false]
 unfold bM.f bM.g
 exact key l.length 0 k (by omega) (by omega) (by omega)
end Go.Proofs.Ytcbhhbkghbnljaa.Vf
