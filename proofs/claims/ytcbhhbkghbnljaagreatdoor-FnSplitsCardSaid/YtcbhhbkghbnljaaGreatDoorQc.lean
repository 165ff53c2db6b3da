/- Splits, plainly: the law gives true. Conditions: as each theorem states. My own. -/
import Derived.Test.YtcbhhbkghbnljaaGreatDoorQb
set_option linter.unusedVariables false
set_option linter.unusedSimpArgs false
namespace Go.Proofs.YtcbhhbkghbnljaaGreatDoor.Vf
open Go Go.V Go.RowKit
theorem putA_len (K M : Nat) (l : List Int) : (putA K M l).length = M := by simp [putA]
theorem putA_at {K M : Nat} {l : List Int} {c : Nat} (h : c < M) : (putA K M l).getD c [] = rowA K M l l.length c := by
 unfold putA
 rw [List.getD_eq_getElem?_getD, List.getElem?_map, List.getElem?_range h]; rfl
theorem rowA_rd {K M : Nat} {l : List Int} {n c s : Nat} (h : s < n) : rd (rowA K M l n c) s = rd (slA K M l s) c := by
 rw [rd_lt (by rw [rowA_len]; exact h)]
 unfold rowA
 rw [List.getElem_map, List.getElem_range]
theorem count_one {α : Type} {p : α → Bool} : ∀ {l : List α}, (∀ i j : Nat, (hi : i < l.length) → (hj : j < l.length) → p l[i] = true → p l[j] = true → i = j) → l.countP p ≤ 1
 | [], _ => Nat.zero_le _
 | a :: l, h => by
  rw [List.countP_cons]
  have ih := count_one (p := p) (l := l) fun i j hi hj h1 h2 => by
   have := h (i + 1) (j + 1) (by simp; omega) (by simp; omega) (by simpa using h1) (by simpa using h2)
   omega
  by_cases c : p a = true
  ·rw [if_pos c]
   have : l.countP p = 0 := by
    rw [List.countP_eq_zero]
    intro x hx hp
    obtain ⟨j, hj, e⟩ := List.getElem_of_mem hx
    have := h 0 (j + 1) (by simp) (by simp; omega) (by simpa using c) (by simpa [e] using hp)
    omega
   omega
  ·rw [if_neg c]; omega
section
variable {K M : Nat} {l : List Int}
theorem put_has1 (hK : K ≤ 8) (hS : SetsOk K M l) {s : Nat} (hs : s < l.length) (t : Nat) : has (putA K M l) s t ≤ 1 := by
 have hsl := (slA_sl hK hS hs).1
 have el : ∀ c (hc : c < (putA K M l).length), rd ((putA K M l)[c]) s = rd (slA K M l s) c := fun c hc => by
  have := putA_at (K := K) (M := M) (l := l) (c := c) (by rw [putA_len] at hc; exact hc)
  rw [List.getD_eq_getElem?_getD, List.getElem?_eq_getElem hc, Option.getD_some] at this
  rw [this, rowA_rd hs]
 refine count_one fun i j hi hj h1 h2 => ?_
 have h1 := of_decide_eq_true h1
 have h2 := of_decide_eq_true h2
 rw [el i hi] at h1
 rw [el j hj] at h2
 rw [putA_len] at hi hj
 exact hsl.inj i j hi hj (h1.trans h2.symm) (by omega)
theorem put_has (hK : K ≤ 8) (hS : SetsOk K M l) {s : Nat} (hs : s < l.length) {t : Nat} (ht : t < K) : 0 < has (putA K M l) s t ↔ bitS (rd l s) t = true := by
 obtain ⟨hsl, hall⟩ := slA_sl hK hS hs
 unfold has
 rw [List.countP_pos_iff]
 constructor
 ·rintro ⟨r, hr, e⟩
  have e := of_decide_eq_true e
  obtain ⟨c, hc, rfl⟩ := List.getElem_of_mem hr
  have hcM : c < M := by rw [putA_len] at hc; exact hc
  have := putA_at (K := K) (M := M) (l := l) hcM
  rw [List.getD_eq_getElem?_getD, List.getElem?_eq_getElem hc, Option.getD_some] at this
  rw [this, rowA_rd hs] at e
  exact hsl.bit c hcM t e
 ·intro hb
  obtain ⟨c, hc, e⟩ := rd_iff.1 (hall t ht hb)
  have hcM : c < M := by rw [hsl.ok.len] at hc; exact hc
  refine ⟨rowA K M l l.length c, ?_, decide_eq_true (by rw [rowA_rd hs]; exact e)⟩
  unfold putA
  exact List.mem_map.2 ⟨c, List.mem_range.2 hcM, rfl⟩
theorem put_row (h1 : 1 ≤ l.length) (h2 : l.length ≤ 120) (hK : 1 ≤ K ∧ K ≤ 8) {c : Nat} (hc : c < M) : turnsW K (rowA K M l l.length c) = true := by
 unfold turnsW
 rw [Bool.and_eq_true, List.all_eq_true, rowA_len]
 refine ⟨decide_eq_true ⟨h1, h2⟩, fun x hx => ?_⟩
 unfold turnW
 unfold rowA at hx
 obtain ⟨j, hj, rfl⟩ := List.mem_map.1 hx
 have := (slA_ok K M l j).rd hc
 rw [w64 (by omega) (by omega)]
 exact decide_eq_true (by omega)
theorem put_ch (h1 : 1 ≤ l.length) (h2 : l.length ≤ 120) (hK : 1 ≤ K ∧ K ≤ 8) (hM : 1 ≤ M ∧ M ≤ 4) : areCh (K : Int) (putA K M l) = true ∧ ((putA K M l).getD 0 []).length = l.length := by
 have e0 : ((putA K M l).getD 0 []).length = l.length := by rw [putA_at (by omega), rowA_len]
 refine ⟨?_, e0⟩
 unfold areCh
 rw [e0, putA_len, Bool.and_eq_true, Bool.and_eq_true, List.all_eq_true]
 refine ⟨decide_eq_true (by omega), decide_eq_true (by omega), fun r hr => ?_⟩
 unfold putA at hr
 obtain ⟨c, hc, rfl⟩ := List.mem_map.1 hr
 exact chRow_t (put_row h1 h2 hK (List.mem_range.1 hc)) (rowA_len K M l _ _)
theorem clR_no {L : List (List Int)} {s : Nat} : ∀ {d i : Nat}, (∀ t : Nat, i ≤ t → t < i + d → has L s t ≤ 1) → clR L s i d = []
 | 0, i, _ => rfl
 | d + 1, i, h => by
  simp only [clR]
  rw [if_neg (by have := h i (Nat.le_refl _) (by omega); omega), clR_no fun t h1 h2 => h t (by omega) (by omega)]; rfl
theorem clS_no {K : Nat} {L : List (List Int)} : ∀ {d s : Nat}, (∀ u : Nat, s ≤ u → u < s + d → ∀ t : Nat, t < K → has L u t ≤ 1) → clS K L s d = []
 | 0, s, _ => rfl
 | d + 1, s, h => by
  simp only [clS]
  rw [clR_no fun t _ h2 => h s (Nat.le_refl _) (by omega) t (by omega), clS_no fun u h1 h2 => h u (by omega) (by omega)]; rfl
theorem put_clash (h1 : 1 ≤ l.length) (h2 : l.length ≤ 120) (hK : 1 ≤ K ∧ K ≤ 8) (hM : 1 ≤ M ∧ M ≤ 4) (hS : SetsOk K M l) : clash K (putA K M l) = [] := by
 unfold clash
 rw [(put_ch h1 h2 hK hM).2]
 exact clS_no fun u _ hu t _ => put_has1 (by omega) hS (by omega) t
end
def orS (sl : List Int) : Nat → Nat
 | 0 => 0
 | c + 1 => if 0 ≤ rd sl c then orS sl c ||| 2 ^ (rd sl c).toNat else orS sl c
theorem orS_bit (sl : List Int) (t : Nat) : ∀ c, (orS sl c).testBit t = true ↔ ∃ p : Nat, p < c ∧ rd sl p = t
 | 0 => by simp [orS]
 | c + 1 => by
  unfold orS
  have ih := orS_bit sl t c
  by_cases h : 0 ≤ rd sl c
  ·rw [if_pos h, Nat.testBit_or, Bool.or_eq_true, ih, Nat.testBit_two_pow]
   constructor
   ·rintro (⟨p, h1, h2⟩ | h1)
    ·exact ⟨p, by omega, h2⟩
    ·have h1 := of_decide_eq_true h1
     exact ⟨c, by omega, by omega⟩
   ·rintro ⟨p, h1, h2⟩
    by_cases e : p = c
    ·subst e; exact .inr (decide_eq_true (by omega))
    ·exact .inl ⟨p, by omega, h2⟩
  ·rw [if_neg h, ih]
   constructor
   ·rintro ⟨p, h1, h2⟩; exact ⟨p, by omega, h2⟩
   ·rintro ⟨p, h1, h2⟩
    by_cases e : p = c
    ·subst e; omega
    ·exact ⟨p, by omega, h2⟩
theorem orS_lt {K M : Nat} {s : Int} {sl : List Int} (hK : K ≤ 8) (h : Sl K M s sl) : ∀ c, c ≤ M → orS sl c < 256
 | 0, _ => by simp [orS]
 | c + 1, hc => by
  unfold orS
  have ih := orS_lt hK h c (by omega)
  split
  ·have := h.ok.rd (show c < M by omega)
   exact Nat.or_lt_two_pow (n := 8) ih (Nat.pow_lt_pow_right (by omega) (by omega))
  ·exact ih
theorem orS_set {K M : Nat} {l : List Int} (hK : K ≤ 8) (hS : SetsOk K M l) {s : Nat} (hs : s < l.length) : (orS (slA K M l s) M : Int) = rd l s := by
 obtain ⟨hsl, hall⟩ := slA_sl hK hS hs
 obtain ⟨h0, h1, -⟩ := hS s hs
 obtain ⟨n, hn, hn2⟩ := setOf (K := K) (M := M) (by omega) ⟨h0, h1⟩
 rw [hn]
 congr 1
 apply Nat.eq_of_testBit_eq
 intro t
 have hb : bitS (rd l s) t = n.testBit t := by unfold bitS; rw [hn, Int.toNat_natCast]
 rw [Bool.eq_iff_iff, orS_bit]
 constructor
 ·rintro ⟨p, hp, e⟩
  rw [← hb]; exact hsl.bit p hp t e
 ·intro h
  have hp := pow8 K (by omega)
  have htK : t < K := by
   rcases Nat.lt_or_ge t K with h' | h'
   ·exact h'
   ·exfalso
    have : n < 2 ^ t := Nat.lt_of_lt_of_le (by rw [hn] at h1; omega) (Nat.pow_le_pow_right (by omega) h')
    rw [Nat.testBit_lt_two_pow this] at h; cases h
  obtain ⟨p, hp', e⟩ := rd_iff.1 (hall t htK (by rw [hb]; exact h))
  exact ⟨p, by rw [hsl.ok.len] at hp'; exact hp', e⟩
theorem good_step {G : List Int} {m v : Int} (h : isT G = true) (hc : cnt G ≤ 4000) (h0 : 0 ≤ v) (h1 : v < cnt G) (hv : (lastS G m).getD v.toNat false = true) :
  ∃ (x : Nat) (T : List Int), (nextO G m v).1 = x ∧ x < 2 ^ G.length ∧ (popc x : Int) ≤ m ∧ stepS G (ofN G v) x = some T ∧ num G T = (nextO G m v).2 ∧ 0 ≤ (nextO G m v).2 ∧ (nextO G m v).2 < cnt G ∧ (lastS G m).getD (nextO G m v).2.toNat false = true := by
 obtain ⟨o, hr, h3, h4, h5⟩ := lastS_good h hc h0 h1 hv
 have e : nextO G m v = o := by unfold nextO; rw [hr]; rfl
 rw [e]
 have hm := List.mem_of_find?_eq_some hr
 obtain ⟨x, hx, ho⟩ := List.mem_filterMap.1 hm
 obtain ⟨h6, h7⟩ := List.mem_filter.1 hx
 have h8 := List.mem_range'.1 h6
 obtain ⟨b1, b2, b3, -, b5⟩ := opE_bnd h (ofN_st v (isT_gp h)) ho
 exact ⟨x, ofN G o.2, b1, by obtain ⟨i, hi, rfl⟩ := h8; omega, of_decide_eq_true h7, b5, num_ofN (isT_gp h) b2 b3, h3, h4, h5⟩
theorem canS_mono {G : List Int} {m : Int} (h : isT G = true) (hc : cnt G ≤ 4000) (hs : canS G m = true) {m' : Int} (hm : m ≤ m') : canS G m' = true := by
 have hp := cnt_pos (isT_gp h)
 refine lastS_sup (G := G) (m := m') h hc (X := fun v => (v : Int) < cnt G ∧ (lastS G m).getD v false = true) (fun v hv => hv.1) (fun v hv => ?_) _ ⟨by omega, hs⟩
 obtain ⟨x, T, a1, a2, a3, a4, a5, a6, a7, a8⟩ := good_step (m := m) (v := (v : Int)) h hc (by omega) hv.1 (by rw [Int.toNat_natCast]; exact hv.2)
 exact ⟨x, T, a2, by omega, a4, by rw [a5]; omega, by rw [a5]; exact a8⟩
theorem chans_least {G : List Int} (h : isT G = true) (hc : cnt G ≤ 4000) : ∀ (d : Nat) (x : Int), 1 ≤ x → (∀ y : Int, 1 ≤ y → y < x → canS G y = false) → (chans G d x).2 = 0 → canS G (chans G d x).1 = true ∧ ∀ y : Int, 1 ≤ y → y < (chans G d x).1 → canS G y = false
 | 0, x, _, _, h0 => by simp [chans] at h0
 | d + 1, x, hx, hl, h0 => by
  unfold chans at h0 ⊢
  by_cases c : canS G x = true
  ·rw [if_pos c]; exact ⟨c, hl⟩
  ·rw [if_neg c] at h0 ⊢
   refine chans_least h hc d (x + 1) (by omega) (fun y h1 h2 => ?_) h0
   by_cases e : y = x
   ·subst e; simpa using c
   ·exact hl y h1 (by omega)
theorem fewest_iff {G : List Int} {m : Int} (h : isT G = true) (hc : cnt G ≤ 4000) (hm : 1 ≤ m ∧ m ≤ 4) (h0 : (fewestR G).2 = 0) : canS G m = decide ((fewestR G).1 ≤ m) := by
 have hf : code8 G 1 = 0 := by
  by_cases c : code8 G 1 = 0
  ·exact c
  ·unfold fewestR at h0; rw [if_neg c] at h0; exact absurd h0 c
 have e : fewestR G = chans G 4 1 := by unfold fewestR; rw [if_pos hf]
 rw [e] at h0 ⊢
 obtain ⟨h1, h2⟩ := chans_least h hc 4 1 (by omega) (fun y a b => by omega) h0
 by_cases c : (chans G 4 1).1 ≤ m
 ·rw [decide_eq_true c]; exact canS_mono h hc h1 c
 ·rw [decide_eq_false c]; exact h2 m hm.1 (by omega)
theorem stepSA_rd {x : Nat} : ∀ {j : Nat} {G S T : List Int}, S.length = G.length → stepSA x j G S = some T → ∀ t : Nat, t < G.length → rd T t = if x.testBit (j + t) = true then rd G t else rd S t - 1
 | j, [], [], T, _, _, t, ht => absurd ht (Nat.not_lt_zero _)
 | j, g :: G, s :: S, T, hl, h, t, ht => by
  have z : ∀ (a : Int) (l : List Int), rd (a :: l) ((0 : Nat) : Int) = a := fun a l => rfl
  simp only [stepSA] at h
  by_cases c : x.testBit j = true
  ·rw [if_pos c] at h
   obtain ⟨T', h1, rfl⟩ := Option.map_eq_some_iff.1 h
   cases t with
   | zero => rw [z, Nat.add_zero, if_pos c, z]
   | succ t =>
    rw [rd_cons, rd_cons, rd_cons, show j + (t + 1) = j + 1 + t by omega]
    exact stepSA_rd (by simpa using hl) h1 t (by simpa using ht)
  ·rw [if_neg c] at h
   by_cases d : s < 2
   ·rw [if_pos d] at h; cases h
   ·rw [if_neg d] at h
    obtain ⟨T', h1, rfl⟩ := Option.map_eq_some_iff.1 h
    cases t with
    | zero => rw [z, Nat.add_zero, if_neg c, z]
    | succ t =>
     rw [rd_cons, rd_cons, rd_cons, show j + (t + 1) = j + 1 + t by omega]
     exact stepSA_rd (by simpa using hl) h1 t (by simpa using ht)
 | j, [], _ :: _, T, hl, _, t, ht => by simp at hl
 | j, _ :: _, [], T, hl, _, t, ht => by simp at hl
def tgS (G : List Int) (a e : Int) : Int := match stepS G (ofN G a) e.toNat with
 | some T => num G T
 | none => 0
def endS (G : List Int) : Int → List Int → Int
 | a, [] => a
 | a, e :: es => endS G (tgS G a e) es
def OpS (G : List Int) (m a e : Int) : Prop := ∃ (x : Nat) (T : List Int), e = x ∧ x < 2 ^ G.length ∧ (popc x : Int) ≤ m ∧ stepS G (ofN G a) x = some T
def OKV (G : List Int) (m : Int) : Int → List Int → Prop
 | _, [] => True
 | a, e :: es => OpS G m a e ∧ OKV G m (tgS G a e) es
theorem endS_app (G : List Int) : ∀ (xs ys : List Int) (a : Int), endS G a (xs ++ ys) = endS G (endS G a xs) ys
 | [], ys, a => rfl
 | x :: xs, ys, a => endS_app G xs ys _
theorem OKV_app (G : List Int) (m : Int) : ∀ (xs ys : List Int) (a : Int), OKV G m a (xs ++ ys) ↔ OKV G m a xs ∧ OKV G m (endS G a xs) ys
 | [], ys, a => by simp [OKV, endS]
 | x :: xs, ys, a => by
  show (OpS G m a x ∧ OKV G m (tgS G a x) (xs ++ ys)) ↔ (OpS G m a x ∧ OKV G m (tgS G a x) xs) ∧ OKV G m (endS G (tgS G a x) xs) ys
  rw [OKV_app G m xs ys, and_assoc]
theorem tgS_of {G : List Int} {a : Int} {x : Nat} {T : List Int} (h : stepS G (ofN G a) x = some T) : tgS G a (x : Int) = num G T := by
 unfold tgS; rw [Int.toNat_natCast, h]
structure PlayK (G : List Int) (m a v : Int) (came out : List Int) : Prop where
 ok : OKV G m a out
 at_ : endS G a out = v
 came_ : ∀ u : Nat, u < came.length → 0 ≤ rd came u → (rd came u).toNat < out.length ∧ endS G a (out.take (rd came u).toNat) = u
theorem playS_round {G : List Int} {m : Int} (h : isT G = true) (hc : cnt G ≤ 4000) {a : Int} : ∀ (n : Nat) (v : Int) (came out : List Int) (r : List Int × List Int), PlayS G m v came out → PlayK G m a v came out → playS G m n v came out = some r →
  ∃ b, OKV G m b r.2 ∧ endS G b r.2 = b ∧ 1 ≤ r.2.length
 | 0, v, came, out, r, I, J, hp => by cases hp
 | n + 1, v, came, out, r, I, J, hp => by
  have hv0 := I.v0; have hv1 := I.v1; have hcl := I.cl
  have ev : ((v.toNat : Nat) : Int) = v := by omega
  unfold playS at hp
  split at hp
  ·rename_i hb
   cases hp
   obtain ⟨j1, j2⟩ := J.came_ v.toNat (by omega) (by rw [ev]; exact hb)
   rw [ev] at j1 j2
   have hok := J.ok
   rw [← List.take_append_drop (rd came v).toNat out] at hok
   obtain ⟨k1, k2⟩ := (OKV_app G m _ _ a).1 hok
   rw [j2] at k2
   refine ⟨v, k2, ?_, ?_⟩
   ·have := J.at_
    rw [← List.take_append_drop (rd came v).toNat out, endS_app, j2] at this
    exact this
   ·show 1 ≤ (out.drop (rd came v).toNat).length
    rw [List.length_drop]; omega
  ·rename_i hb
   obtain ⟨x, T, a1, a2, a3, a4, a5, -, -, -⟩ := good_step h hc hv0 hv1 I.lv
   refine playS_round (a := a) h hc n _ _ _ r (I.next h hc hb) ?_ hp
   have et : tgS G v (nextO G m v).1 = (nextO G m v).2 := by rw [a1, tgS_of a4, a5]
   refine ⟨(OKV_app G m _ _ a).2 ⟨J.ok, by rw [J.at_]; exact ⟨⟨x, T, a1, a2, a3, a4⟩, trivial⟩⟩, ?_, fun u hu hr => ?_⟩
   ·rw [endS_app, J.at_]; exact et
   ·have hu' : u < came.length := by simpa using hu
    have hvl : v.toNat < came.length := by omega
    have hset : rd (came.set v.toNat (out.length : Int)) u = if u = v.toNat then (out.length : Int) else rd came u := rd_set hvl
    rw [hset] at hr ⊢
    by_cases e : u = v.toNat
    ·rw [if_pos e, Int.toNat_natCast]
     refine ⟨by simp, ?_⟩
     rw [List.take_append_of_le_length (Nat.le_refl _), List.take_length, J.at_, e, ev]
    ·rw [if_neg e] at hr ⊢
     obtain ⟨j1, j2⟩ := J.came_ u hu' hr
     refine ⟨by simp; omega, ?_⟩
     rw [List.take_append_of_le_length (by omega)]
     exact j2
theorem playOnR_round {G : List Int} {m : Int} (h0 : (playOnR G m).2.2 = 0) : (isT G = true ∧ (1 ≤ m ∧ m ≤ 4) ∧ cnt G ≤ 4000) ∧ canS G m = true ∧ ∃ b, OKV G m b (playOnR G m).2.1 ∧ endS G b (playOnR G m).2.1 = b ∧ 1 ≤ (playOnR G m).2.1.length := by
 by_cases hf : code8 G m = 0
 ·by_cases hs : canS G m = true
  ·obtain ⟨h1, hm, h3⟩ := code8_zero hf
   obtain ⟨r, e, e2, -, -⟩ := playOnR_eq hf hs
   refine ⟨⟨h1, hm, h3⟩, hs, ?_⟩
   rw [e2]
   refine playS_round (a := cnt G - 1) h1 h3 _ _ _ _ r (playS_start h1 h3 hs) ⟨trivial, rfl, fun u hu hr => ?_⟩ e
   exfalso
   have : rd (List.replicate (cnt G).toNat (-1 : Int)) u = -1 := by
    rw [rd_nat, List.getD_eq_getElem?_getD, List.getElem?_replicate, if_pos (by simpa using hu)]; rfl
   omega
  ·unfold playOnR at h0
   rw [if_pos hf, if_neg hs] at h0
   cases h0
 ·unfold playOnR at h0
  rw [if_neg hf] at h0
  exact absurd h0 hf
theorem OKV.turn {G : List Int} {m b : Int} {cs : List Int} {L : List (List Int)} (h : isT G = true) (hk : OKV G m b cs) (he : endS G b cs = b) {t : Nat} (ht : t < G.length) (hL : ∀ s : Nat, s < cs.length → (0 < has L s t ↔ bitS (rd cs s) t = true)) :
  Turn (togL L cs.length (t : Int)) (t : Int) (rd G t) (fun j => rd (ofN G (endS G b (cs.take j))) t) := by
 refine ⟨fun j hj => ?_, fun j _ => stt_at (ofN_st _ (isT_gp h)) ht, ?_⟩
 ·rw [togL_len] at hj
  have e1 : cs.take (j + 1) = cs.take j ++ [rd cs j] := by rw [rd_lt hj, List.take_succ_eq_append_getElem hj]
  have hk1 : OKV G m b (cs.take j ++ [rd cs j]) := by
   have := hk
   rw [← List.take_append_drop (j + 1) cs, e1] at this
   exact ((OKV_app G m _ _ b).1 this).1
  obtain ⟨-, ⟨x, T, a1, a2, a3, a4⟩, -⟩ := (OKV_app G m _ _ b).1 hk1
  have hst := ofN_st (endS G b (cs.take j)) (isT_gp h)
  have hT := stepS_st (isT_gp h) hst a4
  have e2 : endS G b (cs.take (j + 1)) = num G T := by
   rw [e1, endS_app]
   show tgS G _ (rd cs j) = _
   rw [a1, tgS_of a4]
  show rd (ofN G (endS G b (cs.take (j + 1)))) t = if rd (togL L cs.length (t : Int)) j = t then rd G t else rd (ofN G (endS G b (cs.take j))) t - 1
  rw [e2, ofN_num (isT_gp h) hT, stepSA_rd hst.length a4 t ht, Nat.zero_add, togL_rd L hj]
  have hb : bitS (rd cs j) t = x.testBit t := by unfold bitS; rw [a1, Int.toNat_natCast]
  by_cases c : x.testBit t = true
  ·have hh : 0 < has L j t := (hL j hj).2 (by rw [hb]; exact c)
   rw [if_pos c, if_pos hh, if_pos rfl]
  ·have hh : ¬ 0 < has L j t := fun q => c (by rw [← hb]; exact (hL j hj).1 q)
   rw [if_neg c, if_neg hh, if_neg (by omega)]
 ·show rd (ofN G (endS G b (cs.take (togL L cs.length (t : Int)).length))) t = rd (ofN G (endS G b (cs.take 0))) t
  rw [togL_len, List.take_length, he, List.take_zero]; rfl
theorem okW_turn {G : List Int} {L : List (List Int)} {n t : Nat} {X : Nat → Int} (hn : 1 ≤ n ∧ n ≤ 120) (h0 : (L.getD 0 []).length = n) (hg : 1 ≤ rd G t) (T : Turn (togL L n (t : Int)) (t : Int) (rd G t) X) : okW G L t = true := by
 obtain ⟨w, h1, h2, -, h4⟩ := waits_f (k := 2097152) (Nat.le_refl _) T (by rw [togL_len]; exact hn.1) (by rw [togL_len]; omega)
 rw [impl_waits_f (Nat.le_refl _) (by rw [togL_len]; omega)] at h1
 obtain rfl := Option.some.inj h1
 have hgw : gw L t = grt (wait (togL L n (t : Int)) t) := by unfold gw; rw [h0]
 have h5 := wait_last (cs := togL L n (t : Int)) (t := t) (fun e => by rw [e] at h2; simp at h2)
 have h6 : grt (wait (togL L n (t : Int)) t) ≤ rd G t := grt_le.2 ⟨by omega, h4⟩
 exact okW_t (by rw [hgw]; omega) (by rw [hgw]; omega)
theorem srvC_all {G : List Int} {L : List (List Int)} : ∀ (d i : Nat), (∀ t : Nat, i ≤ t → t < i + d → okW G L t = true) → srvC G L i d = true
 | 0, i, _ => rfl
 | d + 1, i, h => by
  unfold srvC
  rw [h i (Nat.le_refl _) (by omega), Bool.true_and]
  exact srvC_all d (i + 1) fun t h1 h2 => h t (by omega) (by omega)
theorem serve_round {k : Nat} {G : List Int} {m : Int} (hk : 2097152 ≤ k) (hG : G.length ≤ 1048576) (h0 : (playOnR G m).2.2 = 0) (hn : (playOnR G m).2.1.length ≤ 120) :
  ∃ L, impl_PutSets.f k (G.length : Int) m (playOnR G m).2.1 = some (L, 0) ∧ impl_ServeTogether.f k G L = some (true, 0) := by
 obtain ⟨⟨h, hm, hc⟩, -, b, hk2, he, h1⟩ := playOnR_round h0
 obtain ⟨-, hsets⟩ := playOnR_sets h0
 have hT := isT_iff.1 h
 have hlen : 1 ≤ G.length ∧ G.length ≤ 8 := by omega
 obtain ⟨M, rfl⟩ := Int.eq_ofNat_of_zero_le (show 0 ≤ m by omega)
 have hp := pow8 G.length (by omega)
 generalize hcs : (playOnR G (M : Int)).2.1 = cs at *
 have hS : SetsOk G.length M cs := fun n hn => by
  obtain ⟨x, e1, e2, e3⟩ := hsets _ (rd_mem hn)
  rw [e1, Int.toNat_natCast]
  have : ((x : Nat) : Int) < ((2 ^ G.length : Nat) : Int) := by omega
  exact ⟨by omega, by rw [← hp.2.2]; exact this, by omega⟩
 have hV : putV (G.length : Int) (M : Int) cs = true := by
  unfold putV
  rw [decide_eq_true (by omega), decide_eq_true hm, decide_eq_true ⟨h1, hn⟩, Int.toNat_natCast, Int.toNat_natCast, setsOk_iff.2 hS]; rfl
 refine ⟨putA G.length M cs, ?_, ?_⟩
 ·rw [impl_putSets_f hk (by omega)]
  unfold putR
  rw [if_pos hV, Int.toNat_natCast, Int.toNat_natCast]
 ·obtain ⟨q1, q2⟩ := put_ch (K := G.length) (M := M) (l := cs) h1 hn hlen (by omega)
  have hLb : Lb (putA G.length M cs) := by
   refine ⟨by rw [putA_len]; omega, fun r hr => ?_⟩
   unfold putA at hr
   obtain ⟨c, _, rfl⟩ := List.mem_map.1 hr
   rw [rowA_len]; omega
  rw [impl_serveTog_f hk hG hLb]
  unfold svT
  rw [if_pos h, if_pos q1, put_clash h1 hn hlen (by omega) hS, if_neg (by decide)]
  congr 2
  refine srvC_all _ _ fun t _ ht => ?_
  have ht : t < G.length := by omega
  refine okW_turn ⟨h1, hn⟩ q2 (by have := isT_gp h _ (rd_mem (l := G) ht); exact this.1) (OKV.turn h hk2 he ht fun s hs => put_has hlen.2 hS hs ht)
theorem keep_step {G : List Int} {v c : Int} (hc : c ∈ keep G (lasting G) v) : ∃ T, step G (ofN G v) c = some T ∧ (lasting G).getD (num G T).toNat false = true ∧ -1 ≤ c ∧ c < G.length := by
 obtain ⟨hm1, hm2⟩ := List.mem_filter.1 hc
 unfold chs at hm1
 obtain ⟨i, hi, rfl⟩ := List.mem_map.1 hm1
 have hi := List.mem_range.1 hi
 cases hs : step G (ofN G v) ((i : Int) - 1) with
 | none => simp [goodC, hs] at hm2
 | some T => exact ⟨T, rfl, by simpa [goodC, hs] using hm2, by omega, by omega⟩
def psC (l : List Int) (n : Nat) (c : Int) : List Nat := (List.range n).filter fun i => decide (rd l i = c)
theorem own_ps (l S : List Int) (c : Int) : ∀ n, subL l S c n = (psC l n c).map fun i : Nat => rd S i
 | 0 => rfl
 | n + 1 => by
  unfold psC
  rw [List.range_succ, List.filter_append, List.map_append]
  have := own_ps l S c n
  unfold psC at this
  simp only [subL]
  rw [this]
  congr 1
  by_cases e : rd l n = c
  ·rw [if_pos e, List.filter_cons, if_pos (decide_eq_true e)]; rfl
  ·rw [if_neg e, List.filter_cons, if_neg (by rw [decide_eq_true_eq]; exact e)]; rfl
theorem ps_mem {l : List Int} {n i : Nat} {c : Int} : i ∈ psC l n c ↔ i < n ∧ rd l i = c := by
 unfold psC; rw [List.mem_filter, List.mem_range, decide_eq_true_eq]
theorem nd_inj {l : List Nat} (h : l.Nodup) {i j : Nat} (hi : i < l.length) (hj : j < l.length) (e : l[i] = l[j]) : i = j := by
 have hp := List.pairwise_iff_getElem.1 h
 rcases Nat.lt_trichotomy i j with c | c | c
 ·exact absurd e (hp i j hi hj c)
 ·exact c
 ·exact absurd e.symm (hp j i hj hi c)
theorem ps_nd (l : List Int) (n : Nat) (c : Int) : (psC l n c).Nodup := List.Pairwise.filter _ List.nodup_range
theorem own_len (l S : List Int) (c : Int) (h : l.length = S.length) : (ownG l S c).length = (psC l l.length c).length := by unfold ownG; rw [own_ps, List.length_map]
theorem own_rd {l S : List Int} {c : Int} {r : Nat} (hr : r < (psC l l.length c).length) : rd (ownG l S c) r = rd S ((psC l l.length c)[r] : Nat) := by
 unfold ownG
 rw [own_ps, rd_lt (by rw [List.length_map]; exact hr), List.getElem_map]
theorem sub_stt {G S l : List Int} {c : Int} (hs : Stt G S) (hl : l.length = G.length) : Stt (ownG l G c) (ownG l S c) := by
 have hsl := hs.length
 refine stt_of ?_ fun t ht => ?_
 ·unfold ownG; rw [own_ps, own_ps, List.length_map, List.length_map]
 ·rw [own_len l G c hl] at ht
  rw [own_rd ht, own_rd ht]
  have := (ps_mem.1 (List.getElem_mem ht)).1
  exact stt_at hs (by omega)
structure Spl (G l : List Int) (m : Nat) : Prop where
 len : l.length = G.length
 el : ∀ i : Nat, i < l.length → 0 ≤ rd l i ∧ rd l i < m
 can : ∀ c : Nat, c < m → ownG l G c = [] ∨ (isT (ownG l G c) = true ∧ cnt (ownG l G c) ≤ 4000 ∧ canF (ownG l G c) = true)
theorem split_can {G l : List Int} {m : Nat} (h : isT G = true) (hc : cnt G ≤ 4000) (hS : Spl G l m) : canS G m = true := by
 have hG := isT_gp h
 have hlen := isT_len h
 have hcp := cnt_pos hG
 have hll := hS.len
 -- the states whose parts last
 have key := lastS_sup (G := G) (m := (m : Int)) h hc (X := fun v => (v : Int) < cnt G ∧ ∀ c : Nat, c < m → ownG l G c ≠ [] → (lasting (ownG l G c)).getD (num (ownG l G c) (ownG l (ofN G (v : Int)) c)).toNat false = true) (fun v hv => hv.1) (fun v hv => by
  obtain ⟨hv1, hv2⟩ := hv
  have hst := ofN_st (v : Int) hG
  have hsl := hst.length
  -- a choice for each channel
  have pick : ∀ c : Nat, ∃ (ch : Int) (T : List Int), -1 ≤ ch ∧ (c < m → ownG l G c ≠ [] → step (ownG l G c) (ownG l (ofN G (v : Int)) c) ch = some T ∧ (lasting (ownG l G c)).getD (num (ownG l G c) T).toNat false = true ∧ Stt (ownG l G c) T ∧ ch < (ownG l G c).length) := fun c => by
   by_cases hcm : c < m ∧ ownG l G c ≠ []
   ·obtain ⟨h1, h2, h3⟩ := (hS.can c hcm.1).resolve_left hcm.2
    have hg2 := isT_gp h1
    have hss := sub_stt (c := (c : Int)) hst hll
    obtain ⟨b1, b2⟩ := num_bnd hg2 hss
    have hne := lasting_good h1 h2 b1 b2 (hv2 c hcm.1 hcm.2)
    obtain ⟨ch, hch⟩ := List.exists_mem_of_ne_nil _ hne
    obtain ⟨T, q1, q2, q3, q4⟩ := keep_step hch
    rw [ofN_num hg2 hss] at q1
    exact ⟨ch, T, q3, fun _ _ => ⟨q1, q2, step_st hg2 hss q1, q4⟩⟩
   ·exact ⟨-1, [], by omega, fun a b => absurd ⟨a, b⟩ hcm⟩
  let ch : Nat → Int := fun c => Classical.choose (pick c)
  have hch : ∀ c : Nat, ∃ (T : List Int), -1 ≤ ch c ∧ (c < m → ownG l G c ≠ [] → step (ownG l G c) (ownG l (ofN G (v : Int)) c) (ch c) = some T ∧ (lasting (ownG l G c)).getD (num (ownG l G c) T).toNat false = true ∧ Stt (ownG l G c) T ∧ ch c < (ownG l G c).length) := fun c => Classical.choose_spec (pick c)
  let p : Nat → Bool := fun t => decide (0 ≤ ch (rd l t).toNat ∧ (psC l l.length (rd l t))[(ch (rd l t).toNat).toNat]? = some t)
  let T : List Int := (List.range G.length).map fun t : Nat => if p t = true then rd G t else rd (ofN G (v : Int)) t - 1
  have hTl : T.length = G.length := by simp [T]
  have hTr : ∀ t : Nat, t < G.length → rd T t = if p t = true then rd G t else rd (ofN G (v : Int)) t - 1 := fun t ht => by
   rw [rd_lt (by rw [hTl]; exact ht)]
   simp only [T]
   rw [List.getElem_map, List.getElem_range]
  -- a task and its place on its channel
  have place : ∀ t : Nat, t < G.length → ∃ (c r : Nat), c < m ∧ rd l t = c ∧ ∃ hr : r < (psC l l.length (c : Int)).length, (psC l l.length (c : Int))[r] = t ∧ (p t = true ↔ ch c = r) := fun t ht => by
   obtain ⟨e0, e1⟩ := hS.el t (by omega)
   obtain ⟨c, hcc⟩ := Int.eq_ofNat_of_zero_le e0
   obtain ⟨r, hr, er⟩ := List.getElem_of_mem (ps_mem.2 ⟨show t < l.length by omega, hcc⟩)
   refine ⟨c, r, by omega, hcc, hr, er, ?_⟩
   obtain ⟨-, hc1, -⟩ := hch c
   show decide (0 ≤ ch (rd l t).toNat ∧ (psC l l.length (rd l t))[(ch (rd l t).toNat).toNat]? = some t) = true ↔ _
   rw [hcc, Int.toNat_natCast, decide_eq_true_eq]
   constructor
   ·rintro ⟨a1, a2⟩
    obtain ⟨b1, b2⟩ := List.getElem?_eq_some_iff.1 a2
    have := nd_inj (ps_nd l l.length (c : Int)) b1 hr (b2.trans er.symm)
    omega
   ·intro a
    refine ⟨by omega, ?_⟩
    rw [a, Int.toNat_natCast, List.getElem?_eq_getElem hr, er]
  -- what a channel's step says of its tasks
  have stp : ∀ (c r : Nat), c < m → ∀ hr : r < (psC l l.length (c : Int)).length, ∃ Tc : List Int, step (ownG l G c) (ownG l (ofN G (v : Int)) c) (ch c) = some Tc ∧ (lasting (ownG l G c)).getD (num (ownG l G c) Tc).toNat false = true ∧ Tc.length = (psC l l.length (c : Int)).length ∧
    1 ≤ rd Tc r ∧ rd Tc r = if (r : Int) = ch c then rd G ((psC l l.length (c : Int))[r] : Nat) else rd (ofN G (v : Int)) ((psC l l.length (c : Int))[r] : Nat) - 1 := fun c r hcm hr => by
   have hne : ownG l G c ≠ [] := fun e => by
    have := own_len l G c hll
    rw [e] at this; simp at this; omega
   obtain ⟨Tc, -, hc2⟩ := hch c
   obtain ⟨q1, q2, q3, q4⟩ := hc2 hcm hne
   have hl2 := own_len l G c hll
   refine ⟨Tc, q1, q2, by rw [q3.length, hl2], (stt_at q3 (by rw [hl2]; exact hr)).1, ?_⟩
   have := stepA_rd (j := 0) (sub_stt (c := (c : Int)) hst hll) q1 (show r < (ownG l G c).length by rw [hl2]; exact hr)
   rw [this, Int.zero_add, own_rd hr, own_rd hr]
  have hbit : ∀ t : Nat, t < G.length → (mk p G.length).testBit t = p t := fun t ht => by rw [mk_bit, decide_eq_true ht, Bool.true_and]
  have hstep : stepS G (ofN G (v : Int)) (mk p G.length) = some T := by
   unfold stepS
   refine stepSA_of hsl hTl fun t ht => ?_
   rw [Nat.zero_add, hbit t ht, hTr t ht]
   obtain ⟨c, r, c1, c2, hr, er, c3⟩ := place t ht
   obtain ⟨Tc, -, -, -, d1, d2⟩ := stp c r c1 hr
   rw [er] at d2
   constructor
   ·intro hp; rw [if_pos hp]
   ·intro hp
    rw [if_neg (by rw [hp]; decide)]
    rw [if_neg (fun e => by rw [c3.2 e.symm] at hp; cases hp)] at d2
    exact ⟨by omega, rfl⟩
  have hT := stepS_st hG hst hstep
  obtain ⟨b1, b2⟩ := num_bnd hG hT
  have hpop : popc (mk p G.length) ≤ m := by
   unfold popc
   have sub : ∀ t ∈ (List.range 8).filter fun i => (mk p G.length).testBit i, t < G.length ∧ p t = true := fun t ht => by
    obtain ⟨-, h2⟩ := List.mem_filter.1 ht
    rw [mk_bit, Bool.and_eq_true, decide_eq_true_eq] at h2
    exact h2
   have nd : (((List.range 8).filter fun i => (mk p G.length).testBit i).map fun t : Nat => (rd l t).toNat).Nodup := by
    unfold List.Nodup
    rw [List.pairwise_map]
    have h0 : ((List.range 8).filter fun i => (mk p G.length).testBit i).Nodup := List.Pairwise.filter _ List.nodup_range
    refine List.Pairwise.imp_of_mem (fun {a b} ha hb hab e => hab ?_) h0
    obtain ⟨a1, a2⟩ := sub a ha
    obtain ⟨b1, b2⟩ := sub b hb
    obtain ⟨c, r, c1, c2, hr, er, c3⟩ := place a a1
    obtain ⟨c', r', c1', c2', hr', er', c3'⟩ := place b b1
    have ecc : c = c' := by rw [c2, c2'] at e; simpa using e
    subst ecc
    have h3 := c3.1 a2
    have h4 := c3'.1 b2
    have : r = r' := by omega
    subst this
    rw [← er, ← er']
   have := nd_len (m := List.range m) nd fun x hx => by
    obtain ⟨t, ht, rfl⟩ := List.mem_map.1 hx
    obtain ⟨a1, -⟩ := sub t ht
    have := hS.el t (by omega)
    exact List.mem_range.2 (by omega)
   rw [List.length_map, List.length_range] at this
   exact this
  refine ⟨mk p G.length, T, mk_lt _ _, by omega, hstep, by omega, fun c hcm hne => ?_⟩
  rw [show (((num G T).toNat : Nat) : Int) = num G T by omega, ofN_num hG hT]
  obtain ⟨r0, hr0⟩ : ∃ r, r < (psC l l.length (c : Int)).length := ⟨0, by
   have := own_len l G c hll
   have : 0 < (ownG l G c).length := List.length_pos_iff.2 hne
   omega⟩
  obtain ⟨Tc, q1, q2, q3, -, -⟩ := stp c r0 hcm hr0
  have e : ownG l T c = Tc := by
   refine ext_rd (by rw [own_len l T c (by omega), q3]) fun r hr => ?_
   rw [own_len l T c (by omega)] at hr
   obtain ⟨Tc', q1', -, -, -, d2⟩ := stp c r hcm hr
   obtain rfl := Option.some.inj (q1.symm.trans q1')
   obtain ⟨g1, g2⟩ := ps_mem.1 (List.getElem_mem hr)
   rw [own_rd hr, hTr _ (by omega), d2]
   obtain ⟨c', r', c1', c2', hr', er', c3'⟩ := place _ (show (psC l l.length (c : Int))[r] < G.length by omega)
   have ecc : c = c' := by rw [g2] at c2'; omega
   subst ecc
   have err : r' = r := nd_inj (ps_nd l l.length (c : Int)) hr' hr er'
   subst err
   by_cases hp : (r' : Int) = ch c
   ·rw [if_pos hp, if_pos (c3'.2 hp.symm)]
   ·rw [if_neg hp, if_neg (fun hq => hp (c3'.1 hq).symm)]
  rw [e]; exact q2)
 refine key _ ⟨by omega, fun c hcm hne => ?_⟩
 obtain ⟨h1, h2, h3⟩ := (hS.can c hcm).resolve_left hne
 rw [show (((cnt G - 1).toNat : Nat) : Int) = cnt G - 1 by omega, ofN8_full h]
 unfold canF at h3
 have : num (ownG l G c) (ownG l G c) = cnt (ownG l G c) - 1 := by
  unfold num
  rw [numA8_self 0 (isT_gp h1)]; omega
 rw [this]; exact h3
theorem sub_app {l G : List Int} {x c : Int} : ∀ {i : Nat}, i ≤ l.length → subL (l ++ [x]) G c i = subL l G c i
 | 0, _ => rfl
 | i + 1, hi => by
  simp only [subL]
  rw [sub_app (by omega)]
  have : rd (l ++ [x]) (i : Int) = rd l i := by rw [rd_app1, if_pos (by omega)]
  rw [this]
theorem own_app (l G : List Int) (x c : Int) : ownG (l ++ [x]) G c = ownG l G c ++ if x = c then [rd G l.length] else [] := by
 unfold ownG
 rw [List.length_append, List.length_singleton]
 simp only [subL]
 have e : rd (l ++ [x]) (l.length : Int) = x := by rw [rd_app1, if_neg (Nat.lt_irrefl _), if_pos rfl]
 rw [sub_app (Nat.le_refl _), e]
def GoodL (k : Nat) (G : List Int) (m : Nat) (l : List Int) : Prop := (∀ i : Nat, i < l.length → 0 ≤ rd l i ∧ rd l i < m) ∧ ∀ c : Nat, c < m → ownG l G c = [] ∨ canO k (ownG l G c) = some true
theorem splL_true {rec : List Int → Option (Bool × List Int)} {can : List Int → Int → Option Bool} {l r : List Int} : ∀ {d i : Nat}, splL rec can l d i = some (true, r) → ∃ j : Nat, i ≤ j ∧ j < i + d ∧ can (l ++ [(j : Int)]) j = some true ∧ rec (l ++ [(j : Int)]) = some (true, r)
 | 0, i, h => by simp [splL] at h
 | d + 1, i, h => by
  simp only [splL] at h
  obtain ⟨b, e1, h⟩ := Option.bind_eq_some_iff.1 h
  have rest : splL rec can l d (i + 1) = some (true, r) → ∃ j : Nat, i ≤ j ∧ j < i + (d + 1) ∧ can (l ++ [(j : Int)]) j = some true ∧ rec (l ++ [(j : Int)]) = some (true, r) := fun h => by
   obtain ⟨j, h1, h2, h3⟩ := splL_true h
   exact ⟨j, by omega, by omega, h3⟩
  by_cases hb : b = true
  ·rw [if_pos hb] at h
   obtain ⟨s, e2, h⟩ := Option.bind_eq_some_iff.1 h
   by_cases hs : s.1 = true
   ·rw [if_pos hs] at h
    obtain rfl := Option.some.inj h
    exact ⟨i, Nat.le_refl _, by omega, by rw [e1, hb], e2⟩
   ·rw [if_neg hs] at h; exact rest h
  ·rw [if_neg hb] at h; exact rest h
theorem splO_good {k m : Nat} {G : List Int} : ∀ {f : Nat} {l l2 : List Int}, GoodL k G m l → splO k G m f l = some (true, l2) → GoodL k G m l2
 | 0, l, l2, _, h => by cases h
 | f + 1, l, l2, hg, h => by
  simp only [splO] at h
  by_cases q : l.length = G.length
  ·rw [if_pos q] at h
   obtain ⟨-, rfl⟩ := Prod.mk.inj (Option.some.inj h)
   exact hg
  ·rw [if_neg q] at h
   obtain ⟨j, -, h2, h3, h4⟩ := splL_true h
   refine splO_good (f := f) ⟨fun i hi => ?_, fun c hc => ?_⟩ h4
   ·rw [rd_app1]
    rw [List.length_append, List.length_singleton] at hi
    by_cases e : i < l.length
    ·rw [if_pos e]; exact hg.1 i e
    ·rw [if_neg e, if_pos (by omega)]; omega
   ·by_cases e : (j : Int) = c
    ·rw [← e]; exact .inr h3
    ·rw [own_app, if_neg e, List.append_nil]; exact hg.2 c hc
theorem fsplit_spl {k : Nat} {G : List Int} {m : Int} {r : List Int × Int} (hk : 2097152 ≤ k) (hl : G.length ≤ 1048576) (hr : impl_FirstSplit.f k G m = some r) (h0 : r.2 = 0) : (isT G = true ∧ (1 ≤ m ∧ m ≤ 4) ∧ cnt G ≤ 4000) ∧ Spl G r.1 m.toNat := by
 unfold impl_FirstSplit.f impl_isChannels.f at hr
 rw [if_pos hk, within_f] at hr
 simp only [Option.bind_some] at hr
 rw [statesCode_f hk hl, Option.bind_some] at hr
 cases h : isT G with
 | false => rw [h] at hr; simp at hr; rw [← hr] at h0; cases h0
 | true =>
  rw [h] at hr
  have hG := isT_len h
  by_cases hm : 1 ≤ m ∧ m ≤ 4
  ·by_cases hc : 4000 < cnt G
   ·simp [hm, hc] at hr; rw [← hr] at h0; cases h0
   ·obtain ⟨mm, rfl⟩ := Int.eq_ofNat_of_zero_le (show 0 ≤ m by omega)
    obtain ⟨b, l2, r1, -, r3⟩ := split_f (m := mm) hk h (by omega) (by omega) k [] (by simp) (by simp; omega)
    have hG9 : ∀ x ∈ G, 0 ≤ x ∧ x < 100 := fun x hx => by have := (isT_iff.1 h).2 x hx; omega
    simp only [hm, hc, decide_true, if_true, if_false, and_self] at hr
    rw [if_pos ⟨by omega, by omega, by omega, hG9⟩, Int.toNat_natCast, r1, Option.bind_some] at hr
    cases b with
    | false =>
     have hr : some (([] : List Int), (4 : Int)) = some r := hr
     rw [← Option.some.inj hr] at h0; cases h0
    | true =>
     have hr : some (l2, (0 : Int)) = some r := hr
     obtain rfl := Option.some.inj hr
     refine ⟨⟨rfl, hm, by omega⟩, ?_⟩
     rw [Int.toNat_natCast]
     have hl2 := r3 rfl
     obtain ⟨g1, g2⟩ := splO_good (l := []) ⟨fun i hi => absurd hi (Nat.not_lt_zero _), fun c _ => .inl rfl⟩ r1
     refine ⟨hl2, g1, fun c hcm => ?_⟩
     by_cases hne : ownG l2 G c = []
     ·exact .inl hne
     ·refine .inr ?_
      have hgp := fs_gp (l := l2) (c := (c : Int)) (isT_gp h) (show l2.length ≤ G.length by omega)
      have hlen : (ownG l2 G c).length ≤ l2.length := subL_len l2 G c l2.length
      have hT : isT (ownG l2 G c) = true := isT_iff.2 ⟨⟨List.length_pos_iff.2 hne, by omega⟩, hgp⟩
      have hcnt : cnt (ownG l2 G c) ≤ 4000 := by
       have := fs_cnt (l := l2) (c := (c : Int)) (isT_gp h) l2.length (by omega)
       rw [hl2, List.take_length] at this
       unfold ownG
       rw [hl2]; omega
      have := (g2 c hcm).resolve_left hne
      rw [canO_f hk hT hcnt] at this
      exact ⟨hT, hcnt, Option.some.inj this⟩
  ·simp [hm] at hr; rw [← hr] at h0; cases h0
def l08Table : List (List Int) := [[1, 2, 2], [1, 1], [2, 2, 2], [2, 2, 3, 3], [1, 3, 3, 3], [2, 3, 3, 3], [1, 1, 1, 1], [1, 1, 1, 1, 1], [3, 3, 3, 3, 3], [2, 4, 4, 4]]
theorem l08Table_len : ∀ i : Nat, i < 10 → 1 ≤ (rdOf ([] : List Int) l08Table i).length ∧ (rdOf ([] : List Int) l08Table i).length ≤ 8 := by decide
theorem drawTwo_ok {k : Nat} (hk : 2097152 ≤ k) {c : List Int} (hb : ∀ x ∈ c, 0 ≤ x ∧ x ≤ 255) (hl : c.length ≤ 4096) : Gv (spec_DrawFirstSplit.f k c) fun r => r.1.length ≤ 1009 := by
 unfold spec_DrawFirstSplit.f spec_l08DrawTwo.f
 have fin : ∀ {s : SrcT}, Src s → ∀ {l : List Int}, 1 ≤ l.length → l.length ≤ 1000 → Gv ((spec_l01Bad.f k s l).bind fun t6 => (spec_l01Near.f (t6.2.1, t6.2.2.1, t6.2.2.2) 4).bind fun t7 => (spec_l01Pick.f (t7.2.1, t7.2.2.1, t7.2.2.2) [1, 2, 2, 3, t7.1]).bind fun t8 => some (t6.1, t8.1)) fun r => r.1.length ≤ 1009 := fun {s} S {l} h1 h2 =>
  Gv.bind (bad_ok hk S h1 h2) fun b hb => Gv.bind (drawNear_ok hb.1 4) fun n hn => Gv.bind (pick_ok hn _ (by simp)) fun p hp => Gv.ok hb.2
 refine Gv.bind (P := fun r => r.1.length ≤ 1009) (Gv.bind (from_ok hk hb hl) fun s hs => Gv.bind (l02DrawOf_ok hk hs) fun t ht => Gv.bind (next_ok ht.1 2) fun z hz => ?_) fun r hr => Gv.ok hr
 refine Gv.ite (fun _ => ?_) fun _ => fin hz.1 ht.2.1 (by omega)
 refine Gv.bind (next_ok hz.1 10) fun y hy => ?_
 have hy2 := hy.2.2 (by omega)
 refine Gv.pos hy2.1 (Gv.pos hy2.2 ?_)
 obtain ⟨i, hi⟩ := Int.eq_ofNat_of_zero_le hy2.1
 have htab := l08Table_len i (by omega)
 have e : rdOf ([] : List Int) [[1, 2, 2], [1, 1], [2, 2, 2], [2, 2, 3, 3], [1, 3, 3, 3], [2, 3, 3, 3], [1, 1, 1, 1], [1, 1, 1, 1, 1], [3, 3, 3, 3, 3], [2, 4, 4, 4]] y.1 = rdOf ([] : List Int) l08Table i := by rw [hi]; rfl
 rw [e, own_ok _ (by omega), Option.bind_some]
 exact fin hy.1 htab.1 (by omega)
theorem drawSets_ok {k : Nat} (hk : 2097152 ≤ k) {c : List Int} (hb : ∀ x ∈ c, 0 ≤ x ∧ x ≤ 255) (hl : c.length ≤ 4096) : Gv (spec_DrawPutSets.f k c) fun r => r.2.2.length ≤ 1000 := by
 have inner : ∀ {K M : Nat} {x8 : List Int} {x9 : Int} {r0 : (List Int) → Int → Int → Int → Int → List Int → Int → Option (Int × Int × List Int)}, 1 ≤ M → x8.length ≤ 100 → (∀ (s : SrcT) (x : Int), Src s → Gv (r0 s.1 s.2.1 s.2.2 K M (x8 ++ [x]) (wrap64 (x9 - 1))) fun r => r.2.2.length ≤ 1000) →
   ∀ (x n : Nat) (s : SrcT), Src s → x < 256 → x < n → Gv (spec_DrawPutSets.l1 k r0 n s.1 s.2.1 s.2.2 K M x8 x9 (x : Int)) fun r => r.2.2.length ≤ 1000 := by
  intro K M x8 x9 r0 hM h8 cont x
  induction x using Nat.strongRecOn with
  | ind x ih =>
   intro n s S hx hn
   obtain ⟨n, rfl⟩ : ∃ m, n = m + 1 := ⟨n - 1, by omega⟩
   simp only [spec_DrawPutSets.l1, spec_DrawPutSets.s1]
   rw [size8_f hk hx, Option.bind_some]
   by_cases q : (M : Int) < (popc x : Int)
   ·rw [if_pos q]
    have hx0 : 0 < x := by
     rcases Nat.eq_zero_or_pos x with h | h
     ·subst h; exact absurd q (by rw [show popc 0 = 0 by decide]; omega)
     ·exact h
    have hs := (popc_step x hx hx0).2
    rw [show (x : Int) - 1 = ((x - 1 : Nat) : Int) by omega, w64 (by omega) (by omega), andV_nat (by omega) (by omega)]
    exact ih _ hs n s S (by omega) (by omega)
   ·rw [if_neg q, if_pos (by omega)]
    exact cont s x S
 have outer : ∀ {K M : Nat}, 1 ≤ K → K ≤ 8 → 1 ≤ M → ∀ (d n : Nat) (x8 : List Int) (s : SrcT), Src s → x8.length + d ≤ 100 → d < n → Gv (spec_DrawPutSets.l0 k n s.1 s.2.1 s.2.2 K M x8 (d : Int)) fun r => r.2.2.length ≤ 1000 := by
  intro K M hK hK8 hM d
  induction d with
  | zero =>
   intro n x8 s S h8 hn
   obtain ⟨n, rfl⟩ : ∃ m, n = m + 1 := ⟨n - 1, by omega⟩
   simp only [spec_DrawPutSets.l0, spec_DrawPutSets.s0]
   rw [if_neg (by omega)]
   refine Gv.bind (next_ok S 16) fun z hz => Gv.ite (fun _ => Gv.bind (pick_ok hz.1 _ (by simp)) fun p _ => Gv.ok (by show x8.length ≤ 1000; omega)) fun _ => Gv.ite (fun _ => Gv.bind (pick_ok hz.1 _ (by simp)) fun p _ => Gv.pos (by omega) (Gv.ok (by show (x8 ++ [p.1]).length ≤ 1000; simp; omega))) fun _ => Gv.ok (by show x8.length ≤ 1000; omega)
  | succ d ih =>
   intro n x8 s S h8 hn
   obtain ⟨n, rfl⟩ : ∃ m, n = m + 1 := ⟨n - 1, by omega⟩
   simp only [spec_DrawPutSets.l0, spec_DrawPutSets.s0]
   have hp := pow_le8 hK8
   rw [if_pos (by omega), u64_nat (by omega), if_neg (by omega), shlV_nat hK8]
   refine Gv.bind (next_ok S _) fun z hz => ?_
   have hz2 := hz.2.2 (by omega)
   obtain ⟨x, hx⟩ := Int.eq_ofNat_of_zero_le hz2.1
   rw [hx]
   refine inner hM (by omega) (fun s x S => ?_) x k z.2 hz.1 (by omega) (by omega)
   rw [show ((d + 1 : Nat) : Int) - 1 = (d : Int) by omega, w64 (by omega) (by omega)]
   exact ih n _ s S (by simp; omega) (by omega)
 unfold spec_DrawPutSets.f spec_DrawPutSets.g
 refine Gv.bind (from_ok hk hb hl) fun s hs => Gv.bind (next_ok hs 6) fun a ha => Gv.bind (next_ok ha.1 4) fun b hb => Gv.bind (next_ok hb.1 8) fun e he => ?_
 have ha2 := ha.2.2 (by omega)
 have hb2 := hb.2.2 (by omega)
 have he2 := he.2.2 (by omega)
 obtain ⟨i, hi⟩ := Int.eq_ofNat_of_zero_le ha2.1
 obtain ⟨j, hj⟩ := Int.eq_ofNat_of_zero_le hb2.1
 obtain ⟨n, hn⟩ := Int.eq_ofNat_of_zero_le he2.1
 rw [hi, hj, hn, show (1 : Int) + i = ((1 + i : Nat) : Int) by omega, show (1 : Int) + j = ((1 + j : Nat) : Int) by omega, show (1 : Int) + n = ((1 + n : Nat) : Int) by omega, w64 (by omega) (by omega), w64 (by omega) (by omega), w64 (by omega) (by omega)]
 exact outer (by omega) (by omega) (by omega) (1 + n) k [] e.2 he.1 (by simp; omega) (by omega)
noncomputable def finE (k : Nat) (G : List Int) (m : Int) (round : List Int) (c : Int) : Option Bool := if c = 0 then (if 120 < (round.length : Int) then (some true) else ((impl_PutSets.f k (G.length : Int) m round).bind fun t20 => (impl_ServeTogether.f k G t20.1).bind fun t21 => if t20.2 = 0 then (if t21.2 = 0 then (some t21.1) else (some false)) else (some false))) else (some true)
theorem finE_ok {k : Nat} {G : List Int} {m : Int} (hk : 2097152 ≤ k) (hG : G.length ≤ 1048576) : finE k G m (playOnR G m).2.1 (playOnR G m).2.2 = some true := by
 unfold finE
 by_cases c : (playOnR G m).2.2 = 0
 ·rw [if_pos c]
  by_cases d : 120 < ((playOnR G m).2.1.length : Int)
  ·rw [if_pos d]
  ·rw [if_neg d]
   obtain ⟨L, h1, h2⟩ := serve_round hk hG c (by omega)
   rw [h1, Option.bind_some, h2, Option.bind_some, if_pos rfl, if_pos rfl]
 ·rw [if_neg c]
section
variable {k : Nat} {G l2 : List Int} {m : Nat}
theorem spl_l3 (hk : 2097152 ≤ k) (hS : Spl G l2 m) (hG : G.length ≤ 8) {round : List Int} {c3 : Int} {r2 : List Int → Int → List Int → List Int → Int → Int → Option Bool} {c : Nat} (hc : c < m) (next : r2 G m l2 round c3 (wrap64 ((c : Int) + 1)) = some true) :
  ∀ (d i n : Nat), i + d = l2.length → d < n → laws_FnSplits.l3 k r2 n G m l2 round c3 c (subL l2 G c i) i = some true := by
 have hl := hS.len
 intro d
 induction d with
 | zero =>
  intro i n hi hn
  obtain ⟨n, rfl⟩ : ∃ m, n = m + 1 := ⟨n - 1, by omega⟩
  obtain rfl : i = l2.length := by omega
  simp only [laws_FnSplits.l3, laws_FnSplits.s3]
  rw [if_neg (by omega)]
  show (if 0 < ((ownG l2 G c).length : Int) then _ else _) = some true
  by_cases e : 0 < ((ownG l2 G c).length : Int)
  ·rw [if_pos e]
   obtain ⟨h1, h2, h3⟩ := (hS.can c hc).resolve_left (fun q => by rw [q] at e; simp at e)
   show (impl_CanServe.f k (ownG l2 G c)).bind _ = _
   have hlen := isT_len h1
   rw [impl_CanServe_f hk (by omega), Option.bind_some]
   have hf : few (ownG l2 G c) = 0 := by unfold few; rw [if_pos h1, if_neg (by omega)]
   have e2 : canR (ownG l2 G c) = (true, 0) := by
    unfold canR
    rw [if_pos hf]
    unfold canF at h3
    rw [h3]
   rw [e2, if_pos rfl, if_pos rfl]
   exact next
  ·rw [if_neg e]; exact next
 | succ d ih =>
  intro i n hi hn
  obtain ⟨n, rfl⟩ : ∃ m, n = m + 1 := ⟨n - 1, by omega⟩
  simp only [laws_FnSplits.l3, laws_FnSplits.s3]
  have nx := ih (i + 1) n (by omega) (by omega)
  have hlen := subL_len l2 G c i
  rw [if_pos (by omega), if_pos (by omega), if_pos (by omega), w64n (by omega)]
  by_cases e : rd l2 i = c
  ·rw [if_pos e, if_pos (by omega), if_pos (by omega), if_pos (by omega)]
   simp only [subL] at nx
   rw [if_pos e] at nx
   exact nx
  ·rw [if_neg e]
   simp only [subL] at nx
   rw [if_neg e, List.append_nil] at nx
   exact nx
theorem spl_l2 (hk : 2097152 ≤ k) (hS : Spl G l2 m) (hm : m ≤ 4) (hG : G.length ≤ 8) {round : List Int} {c3 : Int} (hfin : finE k G m round c3 = some true) : ∀ (d c n : Nat), c + d = m → d < n → laws_FnSplits.l2 k n G m l2 round c3 c = some true := by
 have hl := hS.len
 intro d
 induction d with
 | zero =>
  intro c n hi hn
  obtain ⟨n, rfl⟩ : ∃ m, n = m + 1 := ⟨n - 1, by omega⟩
  simp only [laws_FnSplits.l2, laws_FnSplits.s2]
  rw [if_neg (by omega)]
  exact hfin
 | succ d ih =>
  intro c n hi hn
  obtain ⟨n, rfl⟩ : ∃ m, n = m + 1 := ⟨n - 1, by omega⟩
  simp only [laws_FnSplits.l2, laws_FnSplits.s2]
  rw [if_pos (by omega)]
  exact spl_l3 hk hS hG (by omega) (by rw [w64n (by omega)]; exact ih (c + 1) n (by omega) (by omega)) l2.length 0 k (by omega) (by omega)
end
theorem tail_ok {k : Nat} {G : List Int} {m : Int} {r : List Int × Int} (hk : 2097152 ≤ k) (hG : G.length ≤ 1048576) (hr : impl_FirstSplit.f k G m = some r) {sets : List Int} {put : List (List Int)} {r0 : List Int → Int → List Int → Int → Bool → Int → List Int → Int → Int → Int → List Int → List (List Int) → Int → Option Bool}
  {r1 : List Int → Int → List Int → Int → Bool → Int → List Int → Int → Int → Int → List Int → List (List Int) → Int → Int → Int → Option Bool} {s : Int} (hs : ¬ s < (sets.length : Int)) :
  laws_FnSplits.s0 k r0 r1 (laws_FnSplits.l2 k k) G m r.1 r.2 (canOnR G m).1 (canOnR G m).2 (playOnR G m).2.1 (playOnR G m).2.2 (fewestR G).1 (fewestR G).2 sets put s = some true := by
 simp only [laws_FnSplits.s0]
 rw [if_neg hs]
 by_cases hc : code8 G m = 0
 ·obtain ⟨h, hm, hcn⟩ := code8_zero hc
  have e1 : canOnR G m = (canS G m, 0) := by unfold canOnR; rw [if_pos hc]
  have e2 : canS G m = decide ((playOnR G m).2.2 = 0) := by
   by_cases q : canS G m = true
   ·obtain ⟨p, -, p2, -, -⟩ := playOnR_eq hc q
    rw [q, p2]; rfl
   ·have : (playOnR G m).2.2 = 4 := by unfold playOnR; rw [if_pos hc, if_neg q]
    rw [this]; simpa using q
  have hfin := finE_ok (m := m) hk hG
  have hlen := isT_len h
  have two : (if r.2 = 0 then (laws_FnSplits.l2 k k G m r.1 (playOnR G m).2.1 (playOnR G m).2.2 0) else finE k G m (playOnR G m).2.1 (playOnR G m).2.2) = some true := by
   by_cases q : r.2 = 0
   ·rw [if_pos q]
    obtain ⟨-, hS⟩ := fsplit_spl hk hG hr q
    obtain ⟨M, rfl⟩ := Int.eq_ofNat_of_zero_le (show 0 ≤ m by omega)
    exact spl_l2 hk hS (by rw [Int.toNat_natCast]; omega) hlen.2 hfin M 0 k (by rw [Int.toNat_natCast]; omega) (by omega)
   ·rw [if_neg q]; exact hfin
  have can : r.2 = 0 → canS G m = true := fun q => by
   obtain ⟨-, hS⟩ := fsplit_spl hk hG hr q
   have := split_can h hcn hS
   rw [show ((m.toNat : Nat) : Int) = m by omega] at this
   exact this
  have three : (if r.2 = 0 then (if canS G m = true then (if r.2 = 0 then (laws_FnSplits.l2 k k G m r.1 (playOnR G m).2.1 (playOnR G m).2.2 0) else finE k G m (playOnR G m).2.1 (playOnR G m).2.2) else (some false)) else (if r.2 = 0 then (laws_FnSplits.l2 k k G m r.1 (playOnR G m).2.1 (playOnR G m).2.2 0) else finE k G m (playOnR G m).2.1 (playOnR G m).2.2)) = some true := by
   by_cases q : r.2 = 0
   ·rw [if_pos q, if_pos (can q)]; exact two
   ·rw [if_neg q]; exact two
  rw [e1]
  rw [if_pos (show (canS G m, (0 : Int)).2 = 0 from rfl), if_pos (show (canS G m, (0 : Int)).1 = decide ((playOnR G m).2.2 = 0) from e2)]
  by_cases f0 : (fewestR G).2 = 0
  ·rw [if_pos f0, if_pos (show (canS G m, (0 : Int)).1 = decide ((fewestR G).1 ≤ m) from fewest_iff h hcn hm f0)]
   exact three
  ·rw [if_neg f0]
   exact three
 ·have e1 : canOnR G m = (false, code8 G m) := by unfold canOnR; rw [if_neg hc]
  have e2 : (playOnR G m).2.2 = code8 G m := by unfold playOnR; rw [if_neg hc]
  have e3 : r.2 = code8 G m := by
   have hr2 := hr
   unfold impl_FirstSplit.f at hr2
   have h8 := code8_impl (m := m) hk hG
   obtain ⟨t1, h1, h2⟩ := Option.bind_eq_some_iff.1 h8
   rw [if_pos hk, h1, Option.bind_some, h2, Option.bind_some, if_neg hc] at hr2
   rw [← Option.some.inj hr2]
  rw [e1]
  rw [if_neg (show ¬ (false, code8 G m).2 = 0 from hc), if_neg (show ¬ (false, code8 G m).1 = true from Bool.false_ne_true), if_pos (show r.2 = (false, code8 G m).2 from e3), e2, decide_eq_true (show code8 G m = (false, code8 G m).2 from rfl)]
section
variable {k : Nat} {K M : Nat} {l : List Int}
theorem sets_l1 (hK : K ≤ 8) (hS : SetsOk K M l) {s : Nat} (hs : s < l.length) (hM : M ≤ 1000) (hl : l.length ≤ 1000) {G l2 : List Int} {m c1 c2 : Int} {b : Bool} {rnd : List Int} {c3 f1 f2 : Int}
  {r0 : List Int → Int → List Int → Int → Bool → Int → List Int → Int → Int → Int → List Int → List (List Int) → Int → Option Bool} (next : r0 G m l2 c1 b c2 rnd c3 f1 f2 l (putA K M l) (wrap64 ((s : Int) + 1)) = some true) :
  ∀ (d c n : Nat), c + d = M → d < n → laws_FnSplits.l1 k r0 n G m l2 c1 b c2 rnd c3 f1 f2 l (putA K M l) s (orS (slA K M l s) c : Nat) c = some true := by
 obtain ⟨hsl, -⟩ := slA_sl hK hS hs
 intro d
 induction d with
 | zero =>
  intro c n hi hn
  obtain ⟨n, rfl⟩ : ∃ m, n = m + 1 := ⟨n - 1, by omega⟩
  obtain rfl : c = M := by omega
  simp only [laws_FnSplits.l1, laws_FnSplits.s1]
  rw [if_neg (by rw [putA_len]; omega), if_pos (by omega), if_pos (by omega), if_pos (orS_set hK hS hs)]
  exact next
 | succ d ih =>
  intro c n hi hn
  obtain ⟨n, rfl⟩ : ∃ m, n = m + 1 := ⟨n - 1, by omega⟩
  simp only [laws_FnSplits.l1, laws_FnSplits.s1]
  have e : rdOf ([] : List Int) (putA K M l) (c : Int) = rowA K M l l.length c := by rw [rdOf_rw, putA_at (by omega)]
  have nx := ih (c + 1) n (by omega) (by omega)
  have ho := orS_lt hK hsl c (by omega)
  have hv := hsl.ok.rd (show c < M by omega)
  rw [if_pos (by rw [putA_len]; omega), if_pos (by omega), if_pos (by rw [putA_len]; omega), if_pos (by omega), e, rowA_len, if_pos (by omega), rowA_rd hs, w64n (by omega)]
  by_cases q : 0 ≤ rd (slA K M l s) c
  ·obtain ⟨v, hv2⟩ := Int.eq_ofNat_of_zero_le q
   have hp := pow_le8 (show v ≤ 8 by omega)
   rw [if_pos q, if_pos (by omega), if_pos (by rw [putA_len]; omega), if_pos (by omega), if_pos (by omega), hv2, u64_nat (by omega), if_neg (by omega), shlV_nat (by omega), orV_nat ho (by
    have : v < 8 := by omega
    exact Nat.lt_of_le_of_lt (Nat.pow_le_pow_right (by omega) (show v ≤ 7 by omega)) (by decide))]
   have eo : orS (slA K M l s) (c + 1) = orS (slA K M l s) c ||| 2 ^ v := by
    show (if 0 ≤ rd (slA K M l s) c then _ else _) = _
    rw [if_pos q, hv2, Int.toNat_natCast]
   rw [eo] at nx
   exact nx
  ·rw [if_neg q]
   have eo : orS (slA K M l s) (c + 1) = orS (slA K M l s) c := by
    show (if 0 ≤ rd (slA K M l s) c then _ else _) = _
    rw [if_neg q]
   rw [eo] at nx
   exact nx
theorem sets_l0 (hk : 2097152 ≤ k) (hK : K ≤ 8) (hS : SetsOk K M l) (hM : M ≤ 1000) (hl : l.length ≤ 1000) {G : List Int} {m : Int} {r : List Int × Int} (hG : G.length ≤ 1048576) (hr : impl_FirstSplit.f k G m = some r) : ∀ (d s n : Nat), s + d = l.length → d < n →
  laws_FnSplits.l0 k n G m r.1 r.2 (canOnR G m).1 (canOnR G m).2 (playOnR G m).2.1 (playOnR G m).2.2 (fewestR G).1 (fewestR G).2 l (putA K M l) s = some true := by
 intro d
 induction d with
 | zero =>
  intro s n hi hn
  obtain ⟨n, rfl⟩ : ∃ m, n = m + 1 := ⟨n - 1, by omega⟩
  simp only [laws_FnSplits.l0]
  exact tail_ok hk hG hr (by omega)
 | succ d ih =>
  intro s n hi hn
  obtain ⟨n, rfl⟩ : ∃ m, n = m + 1 := ⟨n - 1, by omega⟩
  simp only [laws_FnSplits.l0]
  have nx := ih (s + 1) n (by omega) (by omega)
  have h1 := sets_l1 (k := k) hK hS (show s < l.length by omega) hM hl (G := G) (m := m) (l2 := r.1) (c1 := r.2) (b := (canOnR G m).1) (c2 := (canOnR G m).2) (rnd := (playOnR G m).2.1) (c3 := (playOnR G m).2.2) (f1 := (fewestR G).1) (f2 := (fewestR G).2) (r0 := laws_FnSplits.l0 k n) (by rw [w64n (by omega)]; exact nx) M 0 k (by omega) (by omega)
  unfold laws_FnSplits.s0
  rw [if_pos (by omega)]
  exact h1
end
theorem law_FnSplits {k : Nat} {l : List Int} (hk : 2097152 ≤ k) (hb : ∀ x ∈ l, 0 ≤ x ∧ x ≤ 255) : laws_FnSplits.f k l = some true := by
 unfold laws_FnSplits.f laws_FnSplits.g laws_big.f
 rw [Option.bind_some]
 by_cases hbig : 4096 < (l.length : Int)
 ·rw [if_pos (decide_eq_true hbig)]
 rw [if_neg (by simpa using hbig)]
 obtain ⟨⟨G, m⟩, e1, hG⟩ := drawTwo_ok hk hb (show l.length ≤ 4096 by omega)
 obtain ⟨⟨a0, a1, sets⟩, e2, hsets⟩ := drawSets_ok hk hb (show l.length ≤ 4096 by omega)
 simp only at hG hsets
 obtain ⟨r, r1, r2, r3⟩ := fsplit_f (m := m) hk (show G.length ≤ 1048576 by omega)
 obtain ⟨p1, p2⟩ := playOnR_len G m
 rw [e1, Option.bind_some, r1, Option.bind_some, r2, Option.bind_some, if_pos rfl, likeInts_self hk (by omega), Option.bind_some, if_pos rfl]
 simp only
 rw [impl_CanServeOn_f hk (by omega), Option.bind_some, spec_CanServeOn_f hk (by omega), Option.bind_some, if_pos rfl, if_pos rfl, impl_LeastPlayOn_f hk (by omega), Option.bind_some, spec_LeastPlayOn_f hk (by omega), Option.bind_some, if_pos rfl, likeInts_self hk (by omega), Option.bind_some, if_pos rfl, likeInts_self hk (by omega), Option.bind_some, if_pos rfl,
  impl_FewestChannels_f hk (by omega), Option.bind_some, spec_FewestChannels_f hk (by omega), Option.bind_some, if_pos rfl, if_pos rfl, e2, Option.bind_some]
 simp only
 rw [impl_putSets_f hk (by omega), Option.bind_some, spec_putSets_f hk, Option.bind_some, if_pos rfl]
 have tail := tail_ok (sets := []) (put := []) (s := 0) (r0 := fun _ _ _ _ _ _ _ _ _ _ _ _ _ => none) (r1 := fun _ _ _ _ _ _ _ _ _ _ _ _ _ _ _ => none) hk (show G.length ≤ 1048576 by omega) r1 (by simp)
 simp only [laws_FnSplits.s0] at tail
 rw [if_neg (by simp)] at tail
 by_cases hv : putV a0 a1 sets = true
 ·have e3 : putR a0 a1 sets = (putA a0.toNat a1.toNat sets, 0) := by unfold putR; rw [if_pos hv]
  rw [e3]
  simp only
  unfold putV at hv
  rw [Bool.and_eq_true, Bool.and_eq_true, Bool.and_eq_true, decide_eq_true_eq, decide_eq_true_eq, decide_eq_true_eq] at hv
  obtain ⟨v1, v2, v3, v4⟩ := hv
  obtain ⟨K, rfl⟩ := Int.eq_ofNat_of_zero_le (show 0 ≤ a0 by omega)
  obtain ⟨M, rfl⟩ := Int.eq_ofNat_of_zero_le (show 0 ≤ a1 by omega)
  rw [Int.toNat_natCast, Int.toNat_natCast] at *
  have hS := setsOk_iff.1 v4
  have hrow : ∀ r ∈ putA K M sets, r.length = sets.length := fun r hr => by
   unfold putA at hr
   obtain ⟨c, _, rfl⟩ := List.mem_map.1 hr
   exact rowA_len K M sets _ _
  have hLb : Lb (putA K M sets) := ⟨by rw [putA_len]; omega, fun r hr => by rw [hrow r hr]; omega⟩
  obtain ⟨q1, q2⟩ := put_ch (K := K) (M := M) (l := sets) v3.1 v3.2 (by omega) (by omega)
  have ecl : clT (K : Int) (putA K M sets) = ([], 0) := by
   unfold clT
   rw [if_pos q1, Int.toNat_natCast, put_clash v3.1 v3.2 (by omega) (by omega) hS]
  rw [rows9_self hk (by rw [putA_len]; omega) (fun r hr => by rw [hrow r hr]; omega), Option.bind_some, if_pos rfl, if_pos trivial, impl_clashesOf_f hk hLb, ecl, Option.bind_some]
  rw [if_pos (show (([] : List (List Int)), (0 : Int)).2 = 0 from rfl), if_pos (show ((([] : List (List Int)), (0 : Int)).1.length : Int) = 0 from rfl), if_pos (by rw [putA_len])]
  exact sets_l0 hk (by omega) hS (by omega) (by omega) (by omega) r1 sets.length 0 k (by omega) (by omega)
 ·have e3 : putR a0 a1 sets = ([], 2) := by unfold putR; rw [if_neg hv]
  rw [e3]
  simp only
  rw [rows9_self hk (by simp) (fun r hr => by cases hr), Option.bind_some, if_pos rfl, if_neg (by decide)]
  exact tail
end Go.Proofs.YtcbhhbkghbnljaaGreatDoor.Vf
