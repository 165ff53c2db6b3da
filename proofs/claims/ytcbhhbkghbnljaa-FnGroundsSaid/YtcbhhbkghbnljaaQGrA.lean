/- Distances on a ground: what a search in breadth finds. -/
import Derived.Test.YtcbhhbkghbnljaaQBase
set_option linter.unusedVariables false
set_option linter.unusedSimpArgs false
namespace Go.Proofs.Ytcbhhbkghbnljaa.Vf
open Go Go.V Go.RowKit

/-- A walk, by the places from which its steps start. -/
def Wk (nr : Nat → Nat → Bool) (n : Nat) : Nat → List Nat → Nat → Prop
  | a, [], b => a = b
  | a, x :: l, b => x = a ∧ ∃ c, c < n ∧ nr a c = true ∧ Wk nr n c l b

theorem Wk.app {nr : Nat → Nat → Bool} {n : Nat} : ∀ {l m : List Nat} {a b c : Nat}, Wk nr n a l b → Wk nr n b m c → Wk nr n a (l ++ m) c
  | [], _, _, _, _, h, g => by cases h; exact g
  | _ :: _, _, _, _, _, ⟨e, d, h1, h2, h3⟩, g => ⟨e, d, h1, h2, h3.app g⟩

theorem Wk.one {nr : Nat → Nat → Bool} {n a b : Nat} (hb : b < n) (h : nr a b = true) : Wk nr n a [a] b := ⟨rfl, b, hb, h, rfl⟩

theorem Wk.rev {nr : Nat → Nat → Bool} {n : Nat} (sy : ∀ a b, a < n → b < n → nr a b = true → nr b a = true) : ∀ {l : List Nat} {a b : Nat}, a < n → Wk nr n a l b → ∃ m, m.length = l.length ∧ Wk nr n b m a
  | [], _, _, _, h => ⟨[], rfl, h.symm⟩
  | x :: l, a, b, ha, ⟨e, d, h1, h2, h3⟩ => by
    obtain ⟨m, hm, hw⟩ := Wk.rev sy h1 h3
    exact ⟨m ++ [d], by simp [hm], hw.app (Wk.one ha (sy _ _ ha h1 h2))⟩

/-! ### The search -/

def scanG (nr : Nat → Nat → Bool) (a : Nat) : Nat → Nat → List Int → List Nat → List Int × List Nat
  | _, 0, out, q => (out, q)
  | j, d + 1, out, q => if out.getD j 0 < 0 ∧ nr a j = true then scanG nr a (j + 1) d (out.set j (out.getD a 0 + 1)) (q ++ [j]) else scanG nr a (j + 1) d out q

def bfsG (nr : Nat → Nat → Bool) (n : Nat) : Nat → List Int → List Nat → List Int
  | 0, out, _ => out
  | _ + 1, out, [] => out
  | f + 1, out, a :: q => bfsG nr n f (scanG nr a 0 n out q).1 (scanG nr a 0 n out q).2

def dst (nr : Nat → Nat → Bool) (n i : Nat) : List Int := bfsG nr n (n + 1) ((List.replicate n (-1)).set i 0) [i]

theorem getD_set {l : List Int} {i j : Nat} {v : Int} (hj : j < l.length) : (l.set i v).getD j 0 = if i = j then v else l.getD j 0 := by
  rw [List.getD_eq_getElem?_getD, List.getD_eq_getElem?_getD, List.getElem?_set]
  by_cases h : i = j
  · subst h; simp [hj]
  · simp [h]

def ng (out : List Int) : Nat := out.countP fun x => decide (x < 0)

theorem ng_set {l : List Int} {j : Nat} {v : Int} (hj : j < l.length) (h : l.getD j 0 < 0) (hv : 0 ≤ v) : ng (l.set j v) + 1 = ng l := by
  have e : l.getD j 0 = l[j] := by rw [List.getD_eq_getElem?_getD, List.getElem?_eq_getElem hj, Option.getD_some]
  have hp : 0 < ng l := List.countP_pos_iff.2 ⟨l[j], List.getElem_mem hj, by rw [e] at h; simpa using h⟩
  unfold ng at hp ⊢
  rw [List.countP_set hj, if_pos (by rw [e] at h; simpa using h), if_neg (by simpa using hv)]
  omega

structure Sc (nr : Nat → Nat → Bool) (n i a j : Nat) (out : List Int) (q : List Nat) : Prop where
  len : out.length = n
  zero : out.getD i 0 = 0
  low : ∀ x, x < n → -1 ≤ out.getD x 0
  cn : ∀ x, x < n → out.getD x 0 + ng out + 1 ≤ n
  qok : ∀ x, x ∈ q → x < n ∧ 0 ≤ out.getD x 0
  srt : q.Pairwise fun x y => out.getD x 0 ≤ out.getD y 0
  top : ∀ b, b < n → ∀ x, x ∈ q → out.getD b 0 ≤ out.getD x 0 + 1
  done : ∀ x, x < n → 0 ≤ out.getD x 0 → x ∉ q → ∀ b, b < n → (x = a → b < j) → nr x b = true → 0 ≤ out.getD b 0 ∧ out.getD b 0 ≤ out.getD x 0 + 1
  wk : ∀ x, x < n → 0 ≤ out.getD x 0 → ∃ l, (l.length : Int) = out.getD x 0 ∧ Wk nr n i l x
  ha : a < n
  h0 : 0 ≤ out.getD a 0
  h1 : ∀ x, x ∈ q → out.getD a 0 ≤ out.getD x 0
  h2 : ∀ b, b < n → out.getD b 0 ≤ out.getD a 0 + 1

/-- The state of the search between the places. -/
structure Bs (nr : Nat → Nat → Bool) (n i : Nat) (out : List Int) (q : List Nat) : Prop where
  len : out.length = n
  zero : out.getD i 0 = 0
  low : ∀ x, x < n → -1 ≤ out.getD x 0
  cn : ∀ x, x < n → out.getD x 0 + ng out + 1 ≤ n
  qok : ∀ x, x ∈ q → x < n ∧ 0 ≤ out.getD x 0
  srt : q.Pairwise fun x y => out.getD x 0 ≤ out.getD y 0
  top : ∀ b, b < n → ∀ x, x ∈ q → out.getD b 0 ≤ out.getD x 0 + 1
  done : ∀ x, x < n → 0 ≤ out.getD x 0 → x ∉ q → ∀ b, b < n → nr x b = true → 0 ≤ out.getD b 0 ∧ out.getD b 0 ≤ out.getD x 0 + 1
  wk : ∀ x, x < n → 0 ≤ out.getD x 0 → ∃ l, (l.length : Int) = out.getD x 0 ∧ Wk nr n i l x

theorem Bs.pop {nr : Nat → Nat → Bool} {n i a : Nat} {out : List Int} {q : List Nat} (B : Bs nr n i out (a :: q)) : Sc nr n i a 0 out q where
  len := B.len
  zero := B.zero
  low := B.low
  cn := B.cn
  qok := fun x h => B.qok x (List.mem_cons_of_mem _ h)
  srt := (List.pairwise_cons.1 B.srt).2
  top := fun b hb x h => B.top b hb x (List.mem_cons_of_mem _ h)
  done := fun x hx h0 hq b hb hj hn => by
    by_cases e : x = a
    · exact absurd (hj e) (by omega)
    · exact B.done x hx h0 (by simp [e, hq]) b hb hn
  wk := B.wk
  ha := (B.qok a (List.mem_cons_self ..)).1
  h0 := (B.qok a (List.mem_cons_self ..)).2
  h1 := fun x h => (List.pairwise_cons.1 B.srt).1 x h
  h2 := fun b hb => B.top b hb a (List.mem_cons_self ..)

theorem Sc.bs {nr : Nat → Nat → Bool} {n i a : Nat} {out : List Int} {q : List Nat} (S : Sc nr n i a n out q) : Bs nr n i out q where
  len := S.len
  zero := S.zero
  low := S.low
  cn := S.cn
  qok := S.qok
  srt := S.srt
  top := S.top
  done := fun x hx h0 hq b hb hn => S.done x hx h0 hq b hb (fun _ => hb) hn
  wk := S.wk

theorem Sc.skip {nr : Nat → Nat → Bool} {n i a j : Nat} {out : List Int} {q : List Nat} (S : Sc nr n i a j out q) (hj : j < n) (h : ¬ (out.getD j 0 < 0 ∧ nr a j = true)) : Sc nr n i a (j + 1) out q :=
  { S with
    done := fun x hx h0 hq b hb hjb hn => by
      by_cases e : x = a ∧ b = j
      · obtain ⟨rfl, rfl⟩ := e
        have : ¬ out.getD b 0 < 0 := fun c => h ⟨c, hn⟩
        exact ⟨by omega, S.h2 b hb⟩
      · exact S.done x hx h0 hq b hb (fun ea => by have := hjb ea; omega) hn }

theorem Sc.push {nr : Nat → Nat → Bool} {n i a j : Nat} {out : List Int} {q : List Nat} (S : Sc nr n i a j out q) (hj : j < n) (h : out.getD j 0 < 0) (hn : nr a j = true) : Sc nr n i a (j + 1) (out.set j (out.getD a 0 + 1)) (q ++ [j]) := by
  have hl : j < out.length := by rw [S.len]; exact hj
  have g : ∀ x, x < n → (out.set j (out.getD a 0 + 1)).getD x 0 = if j = x then out.getD a 0 + 1 else out.getD x 0 := fun x hx => getD_set (by rw [S.len]; exact hx)
  have hi : (out.set j (out.getD a 0 + 1)).getD i 0 = 0 := by
    by_cases hin : i < n
    · rw [g i hin, if_neg (fun e => by rw [e, S.zero] at h; omega)]; exact S.zero
    · rw [List.getD_eq_getElem?_getD, List.getElem?_eq_none (by rw [List.length_set, S.len]; omega)]; rfl
  have hne : ∀ x, 0 ≤ out.getD x 0 → j ≠ x := fun x hx e => by rw [e] at h; omega
  have ga : (out.set j (out.getD a 0 + 1)).getD a 0 = out.getD a 0 := by rw [g a S.ha, if_neg (hne a S.h0)]
  have gj : (out.set j (out.getD a 0 + 1)).getD j 0 = out.getD a 0 + 1 := by rw [g j hj, if_pos rfl]
  have gq : ∀ x, x ∈ q → (out.set j (out.getD a 0 + 1)).getD x 0 = out.getD x 0 := fun x hx => by rw [g x (S.qok x hx).1, if_neg (hne x (S.qok x hx).2)]
  have hng := ng_set hl h (v := out.getD a 0 + 1) (by have := S.h0; omega)
  have h0 := S.h0
  refine { len := by rw [List.length_set]; exact S.len, zero := hi, low := ?_, cn := ?_, qok := ?_, srt := ?_, top := ?_, done := ?_, wk := ?_, ha := S.ha, h0 := by rw [ga]; exact S.h0, h1 := ?_, h2 := ?_ }
  · intro x hx
    rw [g x hx]
    have := S.low x hx
    split <;> omega
  · intro x hx
    rw [g x hx]
    have := S.cn x hx
    have := S.cn a S.ha
    split <;> omega
  · intro x hx
    rcases List.mem_append.1 hx with hx | hx
    · rw [gq x hx]; exact S.qok x hx
    · simp only [List.mem_singleton] at hx
      subst hx
      rw [gj]; exact ⟨hj, by omega⟩
  · rw [List.pairwise_append]
    refine ⟨S.srt.imp_of_mem fun {x y} hx hy hh => by rw [gq x hx, gq y hy]; exact hh, List.pairwise_singleton _ _, fun x hx y hy => ?_⟩
    simp only [List.mem_singleton] at hy
    subst hy
    rw [gj, gq x hx]
    exact S.h2 x (S.qok x hx).1
  · intro b hb x hx
    rw [g b hb]
    have e1 := S.h2 b hb
    rcases List.mem_append.1 hx with hx | hx
    · rw [gq x hx]
      have e2 := S.top b hb x hx
      have e3 := S.h1 x hx
      split <;> omega
    · simp only [List.mem_singleton] at hx
      subst hx
      rw [gj]
      split <;> omega
  · intro x hx hx0 hxq b hb hjb hnn
    have hxj : j ≠ x := fun e => hxq (by simp [e])
    have hxq' : x ∉ q := fun e => hxq (List.mem_append_left _ e)
    rw [g x hx, if_neg hxj] at hx0 ⊢
    rw [g b hb]
    by_cases e : x = a ∧ b = j
    · obtain ⟨rfl, rfl⟩ := e
      rw [if_pos rfl]; omega
    · have := S.done x hx hx0 hxq' b hb (fun ea => by have := hjb ea; omega) hnn
      rw [if_neg (hne b this.1)]
      exact this
  · intro x hx hx0
    rw [g x hx] at hx0 ⊢
    by_cases e : j = x
    · subst e
      rw [if_pos rfl]
      obtain ⟨l, hl, hw⟩ := S.wk a S.ha S.h0
      exact ⟨l ++ [a], by simp [hl], hw.app (Wk.one hj hn)⟩
    · rw [if_neg e] at hx0 ⊢
      exact S.wk x hx hx0
  · intro x hx
    rw [ga]
    rcases List.mem_append.1 hx with hx | hx
    · rw [gq x hx]; exact S.h1 x hx
    · simp only [List.mem_singleton] at hx
      subst hx
      rw [gj]; omega
  · intro b hb
    rw [ga, g b hb]
    have := S.h2 b hb
    split <;> omega

theorem scan_ok {nr : Nat → Nat → Bool} {n i a : Nat} : ∀ (d j : Nat) (out : List Int) (q : List Nat), j + d = n → Sc nr n i a j out q → Sc nr n i a n (scanG nr a j d out q).1 (scanG nr a j d out q).2 ∧ ng (scanG nr a j d out q).1 + (scanG nr a j d out q).2.length = ng out + q.length
  | 0, j, out, q, hd, S => ⟨by obtain rfl : j = n := hd; exact S, rfl⟩
  | d + 1, j, out, q, hd, S => by
    unfold scanG
    by_cases h : out.getD j 0 < 0 ∧ nr a j = true
    · rw [if_pos h]
      have ih := scan_ok d (j + 1) _ _ (by omega) (S.push (by omega) h.1 h.2)
      refine ⟨ih.1, ih.2.trans ?_⟩
      have := ng_set (l := out) (j := j) (v := out.getD a 0 + 1) (by rw [S.len]; omega) h.1 (by have := S.h0; omega)
      simp only [List.length_append, List.length_singleton]
      omega
    · rw [if_neg h]
      exact scan_ok d (j + 1) _ _ (by omega) (S.skip (by omega) h)

theorem bfsG_ok {nr : Nat → Nat → Bool} {n i : Nat} : ∀ (f : Nat) (out : List Int) (q : List Nat), ng out + q.length < f → Bs nr n i out q → Bs nr n i (bfsG nr n f out q) []
  | 0, _, _, h, _ => by omega
  | f + 1, out, [], h, B => B
  | f + 1, out, a :: q, h, B => by
    have s := scan_ok n 0 out q (by omega) B.pop
    simp only [List.length_cons] at h
    exact bfsG_ok f _ _ (by omega) s.1.bs

theorem ng_start {n i : Nat} (hi : i < n) : ng ((List.replicate n (-1)).set i 0) + 1 = n := by
  rw [ng_set (by simpa using hi) (by rw [List.getD_eq_getElem?_getD, List.getElem?_replicate, if_pos hi]; decide) (by omega)]
  unfold ng
  rw [List.countP_replicate]; rfl

theorem bs_start {nr : Nat → Nat → Bool} {n i : Nat} (hi : i < n) : Bs nr n i ((List.replicate n (-1)).set i 0) [i] := by
  have hng := ng_start hi
  have g : ∀ x, x < n → ((List.replicate n (-1 : Int)).set i 0).getD x 0 = if i = x then 0 else -1 := fun x hx => by
    rw [getD_set (by simpa using hx), List.getD_eq_getElem?_getD, List.getElem?_replicate, if_pos hx]; rfl
  refine { len := by simp, zero := by rw [g i hi, if_pos rfl], low := ?_, cn := ?_, qok := ?_, srt := List.pairwise_singleton _ _, top := ?_, done := ?_, wk := ?_ }
  · intro x hx; rw [g x hx]; split <;> omega
  · intro x hx; rw [g x hx]; split <;> omega
  · intro x hx
    simp only [List.mem_singleton] at hx
    subst hx
    exact ⟨hi, by rw [g x hi, if_pos rfl]; omega⟩
  · intro b hb x hx
    simp only [List.mem_singleton] at hx
    subst hx
    rw [g x hi, g b hb, if_pos rfl]; split <;> omega
  · intro x hx h0 hq
    rw [g x hx, if_neg (fun e => hq (by simp [e]))] at h0
    omega
  · intro x hx h0
    rw [g x hx] at h0 ⊢
    by_cases e : i = x
    · rw [if_pos e]; exact ⟨[], rfl, e⟩
    · rw [if_neg e] at h0; omega

theorem dst_bs {nr : Nat → Nat → Bool} {n i : Nat} (hi : i < n) : Bs nr n i (dst nr n i) [] := by
  have := ng_start hi
  exact bfsG_ok (n + 1) _ _ (by simp only [List.length_singleton]; omega) (bs_start hi)

/-! ### Distances -/

def dis (nr : Nat → Nat → Bool) (n i j : Nat) : Int := (dst nr n i).getD j 0

theorem dis_walk {nr : Nat → Nat → Bool} {n i : Nat} (hi : i < n) : ∀ {l : List Nat} {a b : Nat}, a < n → Wk nr n a l b → 0 ≤ dis nr n i a → 0 ≤ dis nr n i b ∧ dis nr n i b ≤ dis nr n i a + l.length
  | [], a, b, ha, h, h0 => by cases h; exact ⟨h0, by simp⟩
  | x :: l, a, b, ha, ⟨e, c, h1, h2, h3⟩, h0 => by
    have s := (dst_bs (nr := nr) hi).done a ha h0 (by simp) c h1 h2
    have ih := dis_walk hi h1 h3 s.1
    refine ⟨ih.1, ?_⟩
    have e1 : dis nr n i c ≤ dis nr n i a + 1 := s.2
    have := ih.2
    simp only [List.length_cons]
    omega

theorem dis_self {nr : Nat → Nat → Bool} {n i : Nat} (hi : i < n) : dis nr n i i = 0 := (dst_bs hi).zero
theorem dis_low {nr : Nat → Nat → Bool} {n i j : Nat} (hi : i < n) (hj : j < n) : -1 ≤ dis nr n i j := (dst_bs hi).low j hj
theorem dis_up {nr : Nat → Nat → Bool} {n i j : Nat} (hi : i < n) (hj : j < n) : dis nr n i j + 1 ≤ n := by
  have : dis nr n i j + ng (dst nr n i) + 1 ≤ n := (dst_bs (nr := nr) hi).cn j hj
  omega
theorem dst_len {nr : Nat → Nat → Bool} {n i : Nat} (hi : i < n) : (dst nr n i).length = n := (dst_bs hi).len
theorem dis_wk {nr : Nat → Nat → Bool} {n i j : Nat} (hi : i < n) (hj : j < n) (h : 0 ≤ dis nr n i j) : ∃ l, (l.length : Int) = dis nr n i j ∧ Wk nr n i l j := (dst_bs hi).wk j hj h
theorem dis_of {nr : Nat → Nat → Bool} {n i j : Nat} (hi : i < n) {l : List Nat} (w : Wk nr n i l j) : 0 ≤ dis nr n i j ∧ dis nr n i j ≤ l.length := by
  have := dis_walk hi hi w (by rw [dis_self hi]; omega)
  rw [dis_self hi] at this
  exact ⟨this.1, by omega⟩

theorem dis_sym {nr : Nat → Nat → Bool} {n i j : Nat} (sy : ∀ a b, a < n → b < n → nr a b = true → nr b a = true) (hi : i < n) (hj : j < n) : dis nr n i j = dis nr n j i := by
  have key : ∀ {i j}, i < n → j < n → 0 ≤ dis nr n i j → 0 ≤ dis nr n j i ∧ dis nr n j i ≤ dis nr n i j := fun {i j} hi hj h => by
    obtain ⟨l, hl, w⟩ := dis_wk hi hj h
    obtain ⟨m, hm, w'⟩ := w.rev sy hi
    have := dis_of hj w'
    exact ⟨this.1, by omega⟩
  have b1 := dis_low (nr := nr) hi hj
  have b2 := dis_low (nr := nr) hj hi
  by_cases h : 0 ≤ dis nr n i j
  · have k1 := key hi hj h
    have k2 := key hj hi k1.1
    omega
  · by_cases h' : 0 ≤ dis nr n j i
    · have := key hj hi h'; omega
    · omega

theorem dis_near {nr : Nat → Nat → Bool} {n i j : Nat} (rf : ∀ a, a < n → nr a a = true) (hi : i < n) (hj : j < n) : nr i j = true ↔ dis nr n i j = 0 ∨ dis nr n i j = 1 := by
  constructor
  · intro h
    have := dis_of hi (Wk.one hj h)
    simp only [List.length_singleton] at this
    omega
  · intro h
    obtain ⟨l, hl, w⟩ := dis_wk hi hj (show 0 ≤ dis nr n i j by omega)
    match l, hl, w with
    | [], _, w => cases w; exact rf i hi
    | [x], _, ⟨_, c, _, h2, h3⟩ => cases h3; exact h2
    | x :: y :: l, hl, _ => simp only [List.length_cons] at hl; omega

theorem dis_trans {nr : Nat → Nat → Bool} {n i j m : Nat} (hi : i < n) (hj : j < n) (hm : m < n) (h1 : 0 ≤ dis nr n i j) (h2 : 0 ≤ dis nr n j m) : 0 ≤ dis nr n i m := by
  obtain ⟨l, _, w⟩ := dis_wk hi hj h1
  obtain ⟨l', _, w'⟩ := dis_wk hj hm h2
  exact (dis_of hi (w.app w')).1

end Go.Proofs.Ytcbhhbkghbnljaa.Vf
