/- Ways back to a state: the search finds the shortest. -/
import Derived.Test.YtcbhhbkghbnljaaQ02b
set_option linter.unusedVariables false
set_option linter.unusedSimpArgs false
namespace Go.Proofs.Ytcbhhbkghbnljaa.Vf
open Go Go.V Go.RowKit

def Edge (G : List Int) (x y : Int) : Prop := ∃ c ∈ keep G (lasting G) x, y = tgt G x c

/-- A walk of so many slots. -/
def Walk (G : List Int) (a : Int) : Nat → Int → Prop
  | 0, b => a = b
  | n + 1, b => ∃ c, Walk G a n c ∧ Edge G c b

theorem Walk.las {G : List Int} (h : isT G = true) {a : Int} (ha : Las G a) : ∀ {n : Nat} {b : Int}, Walk G a n b → Las G b
  | 0, b, e => by have e : a = b := e; rw [← e]; exact ha
  | n + 1, b, ⟨c, hw, x, hx, e⟩ => by rw [e]; exact (keep_las h (Walk.las h ha hw) hx).1

theorem Walk.trans {G : List Int} {a b : Int} {m : Nat} (h : Walk G a m b) : ∀ {n : Nat} {c : Int}, Walk G b n c → Walk G a (m + n) c
  | 0, c, e => by have e : b = c := e; rw [← e]; exact h
  | n + 1, c, ⟨d, hw, he⟩ => ⟨d, Walk.trans h hw, he⟩

/-- What stands while one looks for the way back. -/
structure BI (G : List Int) (fr : Int) (P : Int → Prop) (cur nxt : List Int) (seen : List Bool) (rn : Nat) : Prop where
  sl : (seen.length : Int) = cnt G
  r1 : 1 ≤ rn
  cw : ∀ x ∈ cur, Walk G fr (rn - 1) x
  nw : ∀ x ∈ nxt, Walk G fr rn x
  pr : ∀ x, P x → ∀ y, Edge G x y → y ≠ fr ∧ seen.getD y.toNat false = true
  un : ∀ s x, s ≤ rn - 1 → Walk G fr s x → P x ∨ x ∈ cur
  se : ∀ i : Nat, seen.getD i false = true → P (i : Int) ∨ (i : Int) ∈ cur ∨ (i : Int) ∈ nxt
  no : ∀ s, 1 ≤ s → s ≤ rn - 1 → ¬ Walk G fr s fr
  sz : cur.length + nxt.length + falses seen ≤ 4001

/-- What is found. -/
def Found (G : List Int) (fr r : Int) : Prop := (r = 0 ∧ ∀ s, 1 ≤ s → ¬ Walk G fr s fr) ∨ (∃ rn : Nat, r = (rn : Int) ∧ 1 ≤ rn ∧ Walk G fr rn fr ∧ ∀ s, 1 ≤ s → s < rn → ¬ Walk G fr s fr)

theorem inn_none {G : List Int} {fr v : Int} : ∀ (cs : List Int) (seen : List Bool) (nxt : List Int), inn G fr v cs seen nxt = none → ∃ c ∈ cs, tgt G v c = fr
  | [], seen, nxt, e => by simp [inn] at e
  | c :: cs, seen, nxt, e => by
    simp only [inn] at e
    split at e
    · rename_i h; exact ⟨c, by simp, h⟩
    · split at e
      · obtain ⟨c', h1, h2⟩ := inn_none cs _ _ e; exact ⟨c', by simp [h1], h2⟩
      · obtain ⟨c', h1, h2⟩ := inn_none cs _ _ e; exact ⟨c', by simp [h1], h2⟩

theorem bfs_ok {G : List Int} (h : isT G = true) (hc : cnt G ≤ 4000) {fr : Int} (hf : Las G fr) : ∀ (n : Nat) (P : Int → Prop) (cur nxt : List Int) (seen : List Bool) (rn : Nat), BI G fr P cur nxt seen rn →
    2 * (cur.length + nxt.length + falses seen) + (if nxt = [] then 0 else 1) < n → ∃ r, bfs G fr n cur nxt seen (rn : Int) = some r ∧ Found G fr r
  | 0, P, cur, nxt, seen, rn, I, hn => by omega
  | n + 1, P, v :: cur, nxt, seen, rn, I, hn => by
    have hv := Walk.las h hf (I.cw v (by simp))
    have hr1 := I.r1
    simp only [bfs]
    cases hi : inn G fr v (keep G (lasting G) v) seen nxt with
    | none =>
      obtain ⟨c, hc1, hc2⟩ := inn_none _ _ _ hi
      refine ⟨_, rfl, .inr ⟨rn, rfl, hr1, ?_, fun s h1 h2 => I.no s h1 (by omega)⟩⟩
      have : Walk G fr (rn - 1 + 1) fr := ⟨v, I.cw v (by simp), c, hc1, hc2.symm⟩
      rwa [show rn - 1 + 1 = rn by omega] at this
    | some p =>
      obtain ⟨q1, q2, q3, q4, q5, q6, q7⟩ := inn_ok h hv _ _ _ _ (fun c hc => hc) I.sl hi
      have hsz := I.sz
      simp only [List.length_cons] at hsz hn
      refine bfs_ok h hc hf n (fun x => P x ∨ x = v) cur p.2 p.1 rn ⟨by rw [q1]; exact I.sl, hr1, fun x hx => I.cw x (by simp [hx]), fun x hx => ?_, ?_, fun s x hs hw => ?_, fun i hi' => ?_, I.no, by omega⟩ ?_
      · rcases q5 x hx with hx | ⟨c, hc1, rfl⟩
        · exact I.nw x hx
        · have : Walk G fr (rn - 1 + 1) (tgt G v c) := ⟨v, I.cw v (by simp), c, hc1, rfl⟩
          rwa [show rn - 1 + 1 = rn by omega] at this
      · rintro x (hx | rfl) y ⟨c, hc1, rfl⟩
        · obtain ⟨a, b⟩ := I.pr x hx _ ⟨c, hc1, rfl⟩
          exact ⟨a, q4 _ b⟩
        · exact q3 c hc1
      · rcases I.un s x hs hw with hx | hx
        · exact .inl (.inl hx)
        · rcases List.mem_cons.1 hx with rfl | hx
          · exact .inl (.inr rfl)
          · exact .inr hx
      · rcases q7 i hi' with hx | hx
        · rcases I.se i hx with hx | hx | hx
          · exact .inl (.inl hx)
          · rcases List.mem_cons.1 hx with hx | hx
            · exact .inl (.inr hx)
            · exact .inr (.inl hx)
          · exact .inr (.inr (q6 _ hx))
        · exact .inr (.inr hx)
      · split <;> (split at hn <;> omega)
  | n + 1, P, [], nxt, seen, rn, I, hn => by
    have hr1 := I.r1
    have all : ∀ s x, s ≤ rn - 1 → Walk G fr s x → P x := fun s x hs hw => (I.un s x hs hw).resolve_right (by simp)
    have hfr : P fr := all 0 fr (by omega) rfl
    have next : ∀ s x, Walk G fr s x → (∀ z, (∃ s', s' + 1 = s ∧ Walk G fr s' z) → P z) → 1 ≤ s → x ≠ fr ∧ seen.getD x.toNat false = true := by
      intro s x hw hz hs
      cases s with
      | zero => omega
      | succ s =>
        obtain ⟨z, hw', he⟩ := hw
        exact I.pr z (hz z ⟨s, rfl, hw'⟩) x he
    simp only [bfs]
    by_cases hnx : nxt = []
    · rw [if_pos hnx]
      have reach : ∀ s x, Walk G fr s x → P x := by
        intro s
        induction s with
        | zero => intro x hw; exact all 0 x (by omega) hw
        | succ s ih =>
          intro x hw
          have hx := Walk.las h hf hw
          have hx0 := hx.v0
          have h2 := (next (s + 1) x hw (fun z ⟨s', e, hw'⟩ => ih z (by rw [show s = s' by omega]; exact hw')) (by omega)).2
          rcases I.se _ h2 with h3 | h3 | h3
          · rwa [show ((x.toNat : Nat) : Int) = x by omega] at h3
          · simp at h3
          · rw [hnx] at h3; simp at h3
      refine ⟨0, rfl, .inl ⟨rfl, fun s hs hw => ?_⟩⟩
      exact (next s fr hw (fun z ⟨s', _, hw'⟩ => reach s' z hw') hs).1 rfl
    · rw [if_neg hnx]
      simp only [List.length_nil] at hn
      rw [if_neg hnx] at hn
      have := bfs_ok h hc hf n P nxt [] seen (rn + 1) ⟨I.sl, by omega, fun x hx => I.nw x hx, fun x hx => by simp at hx, I.pr, fun s x hs hw => ?_, fun i hi' => ?_, fun s h1 h2 hw => ?_, by have := I.sz; simp at this ⊢; omega⟩ (by simp; omega)
      · rw [show (((rn + 1 : Nat) : Nat) : Int) = (rn : Int) + 1 by omega] at this
        exact this
      · by_cases hs' : s ≤ rn - 1
        · exact .inl (all s x hs' hw)
        · have hsr : s = rn := by omega
          have hx := Walk.las h hf hw
          have hx0 := hx.v0
          have h2 := (next s x hw (fun z ⟨s', e, hw'⟩ => all s' z (by omega) hw') (by omega)).2
          rcases I.se _ h2 with h3 | h3 | h3
          · rw [show ((x.toNat : Nat) : Int) = x by omega] at h3; exact .inl h3
          · simp at h3
          · rw [show ((x.toNat : Nat) : Int) = x by omega] at h3; exact .inr h3
      · rcases I.se i hi' with h3 | h3 | h3
        · exact .inl h3
        · simp at h3
        · exact .inr (.inl h3)
      · by_cases hs' : s ≤ rn - 1
        · exact I.no s h1 hs' hw
        · exact (next s fr hw (fun z ⟨s', e, hw'⟩ => all s' z (by omega) hw') h1).1 rfl

theorem bfs_start {G : List Int} (h : isT G = true) (hc : cnt G ≤ 4000) {fr : Int} (hf : Las G fr) : ∃ r, bfs G fr 8005 [fr] [] (List.replicate (cnt G).toNat false) 1 = some r ∧ Found G fr r := by
  have hp := cnt_pos (isT_gp h)
  have hfl := falses_rep (cnt G).toNat
  refine bfs_ok h hc hf 8005 (fun _ => False) [fr] [] _ 1 ⟨by simp; omega, by omega, fun x hx => ?_, fun x hx => by simp at hx, fun x hx => hx.elim, fun s x hs hw => ?_, fun i hi => ?_, fun s h1 h2 => by omega, by simp; omega⟩ (by simp; omega)
  · rw [List.mem_singleton] at hx
    rw [hx]; exact (rfl : fr = fr)
  · obtain rfl : s = 0 := by omega
    have hw : fr = x := hw
    exact .inr (by simp [hw])
  · rw [List.getD_eq_getElem?_getD, List.getElem?_replicate] at hi
    split at hi <;> simp at hi

/-! ### Every way back passes each task's turn -/

theorem stepA_rd {c : Int} : ∀ {j : Int} {G S T : List Int} {t : Nat}, Stt G S → stepA c j G S = some T → t < G.length → rd T t = if j + t = c then rd G t else rd S t - 1
  | j, [], [], T, t, _, _, ht => by simp at ht
  | j, g :: G, s :: S, T, t, hs, h, ht => by
    have hr : ∀ (a : Int) (l : List Int) (i : Nat), rd (a :: l) ((i + 1 : Nat) : Int) = rd l (i : Int) := fun a l i => by rw [rd_nat, rd_nat]; rfl
    have h0 : ∀ (a : Int) (l : List Int), rd (a :: l) ((0 : Nat) : Int) = a := fun a l => rfl
    simp only [stepA] at h
    by_cases e : j = c
    · rw [if_pos e] at h
      obtain ⟨T', h1, rfl⟩ := Option.map_eq_some_iff.1 h
      cases t with
      | zero => rw [h0, h0, if_pos (by omega)]
      | succ t =>
        rw [hr, hr, hr, stepA_rd hs.2 h1 (by simpa using ht), if_neg (by omega), if_neg (by omega)]
    · rw [if_neg e] at h
      split at h
      · cases h
      · obtain ⟨T', h1, rfl⟩ := Option.map_eq_some_iff.1 h
        cases t with
        | zero => rw [h0, h0, h0, if_neg (by omega)]
        | succ t =>
          rw [hr, hr, hr, stepA_rd hs.2 h1 (by simpa using ht)]
          by_cases e2 : j + 1 + (t : Int) = c
          · rw [if_pos e2, if_pos (by omega)]
          · rw [if_neg e2, if_neg (by omega)]
  | j, [], _ :: _, _, _, h, _, _ => h.elim
  | j, _ :: _, [], _, _, h, _, _ => h.elim

/-- Right behind a turn of a task. -/
def Full (G : List Int) (t : Nat) (b : Int) : Prop := rd (ofN G b) t = rd G t

theorem Walk.passes {G : List Int} (h : isT G = true) {a : Int} (ha : Las G a) {t : Nat} (ht : t < G.length) : ∀ {n : Nat} {b : Int}, Walk G a n b →
    (∃ i x, i ≤ n ∧ Walk G a i x ∧ Walk G x (n - i) b ∧ Full G t x) ∨ rd (ofN G b) t = rd (ofN G a) t - n
  | 0, b, e => by
    have e : a = b := e
    right; rw [e]; simp
  | n + 1, b, ⟨c, hw, x, hx, e⟩ => by
    have hcl := Walk.las h ha hw
    rcases Walk.passes h ha ht hw with ⟨i, y, h1, h2, h3, h4⟩ | h5
    · left
      refine ⟨i, y, by omega, h2, ?_, h4⟩
      rw [show n + 1 - i = (n - i) + 1 by omega]
      exact ⟨c, h3, x, hx, e⟩
    · obtain ⟨_, T, hs, hT, et, _⟩ := keep_las h hcl hx
      have hb : ofN G b = T := by rw [e, et]; exact ofN_num (isT_gp h) hT
      have hrd := stepA_rd (t := t) (ofN_st c (isT_gp h)) hs ht
      by_cases ex : (0 : Int) + t = x
      · left
        refine ⟨n + 1, b, Nat.le_refl _, ⟨c, hw, x, hx, e⟩, ?_, ?_⟩
        · rw [Nat.sub_self]; exact (rfl : b = b)
        · unfold Full; rw [hb, hrd, if_pos ex]
      · right
        rw [hb, hrd, if_neg ex, h5]
        omega

/-- A way back, begun at another of its states. -/
theorem Walk.turn {G : List Int} (h : isT G = true) {a : Int} (ha : Las G a) {t : Nat} (ht : t < G.length) {n : Nat} (hn : 1 ≤ n) (hw : Walk G a n a) : ∃ b, Las G b ∧ Full G t b ∧ Walk G b n b := by
  rcases Walk.passes h ha ht hw with ⟨i, x, h1, h2, h3, h4⟩ | h5
  · refine ⟨x, Walk.las h ha h2, h4, ?_⟩
    have := Walk.trans h3 h2
    rwa [show n - i + i = n by omega] at this
  · omega

end Go.Proofs.Ytcbhhbkghbnljaa.Vf
