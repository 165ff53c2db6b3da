/- Plays: rounds of least plays serve, and have at least the fewest slots. -/
import Derived.Test.YtcbhhbkghbnljaaQServe
import Derived.Test.YtcbhhbkghbnljaaQ02f
import Derived.Test.YtcbhhbkghbnljaaQStates
set_option linter.unusedVariables false
set_option linter.unusedSimpArgs false
namespace Go.Proofs.Ytcbhhbkghbnljaa.Vf
open Go Go.V Go.RowKit

/-! ### Choices in a row -/

/-- The state behind some choices. -/
def endR (G : List Int) : Int → List Int → Int
  | a, [] => a
  | a, c :: cs => endR G (tgt G a c) cs
/-- Each of them keeps. -/
def OKR (G : List Int) : Int → List Int → Prop
  | _, [] => True
  | a, c :: cs => c ∈ keep G (lasting G) a ∧ OKR G (tgt G a c) cs

theorem endR_app (G : List Int) : ∀ (xs ys : List Int) (a : Int), endR G a (xs ++ ys) = endR G (endR G a xs) ys
  | [], ys, a => rfl
  | x :: xs, ys, a => endR_app G xs ys _
theorem OKR_app (G : List Int) : ∀ (xs ys : List Int) (a : Int), OKR G a (xs ++ ys) ↔ OKR G a xs ∧ OKR G (endR G a xs) ys
  | [], ys, a => by simp [OKR, endR]
  | x :: xs, ys, a => by
    show (x ∈ keep G (lasting G) a ∧ OKR G (tgt G a x) (xs ++ ys)) ↔ (x ∈ keep G (lasting G) a ∧ OKR G (tgt G a x) xs) ∧ OKR G (endR G (tgt G a x) xs) ys
    rw [OKR_app G xs ys, and_assoc]

theorem OKR.las {G : List Int} (h : isT G = true) : ∀ {cs : List Int} {a : Int}, Las G a → OKR G a cs → Las G (endR G a cs)
  | [], a, ha, _ => ha
  | c :: cs, a, ha, hk => OKR.las h (cs := cs) (keep_las h ha hk.1).1 hk.2

theorem OKR.walk {G : List Int} : ∀ {cs : List Int} {a : Int}, OKR G a cs → Walk G a cs.length (endR G a cs)
  | [], a, _ => (rfl : a = a)
  | c :: cs, a, hk => by
    have h1 : Walk G a 1 (tgt G a c) := ⟨a, (rfl : a = a), c, hk.1, rfl⟩
    have := Walk.trans h1 (OKR.walk (cs := cs) hk.2)
    rw [List.length_cons, Nat.add_comm]
    exact this

theorem OKR.mem {G : List Int} {m : Int} (hm : m = G.length) : ∀ {cs : List Int} {a : Int}, OKR G a cs → ∀ c ∈ cs, -1 ≤ c ∧ c ≤ m - 1
  | [], a, _, c, hc => by cases hc
  | x :: cs, a, hk, c, hc => by
    rcases List.mem_cons.1 hc with rfl | hc
    · obtain ⟨hm1, _⟩ := List.mem_filter.1 hk.1
      unfold chs at hm1
      obtain ⟨z, hz, e⟩ := List.mem_map.1 hm1
      have := List.mem_range.1 hz
      omega
    · exact OKR.mem hm hk.2 c hc

/-- A round leads each task round. -/
theorem OKR.turn {G : List Int} (h : isT G = true) {a : Int} (ha : Las G a) {cs : List Int} (hk : OKR G a cs) (he : endR G a cs = a) {t : Nat} (ht : t < G.length) : Turn cs (t : Int) (rd G t) (fun j => rd (ofN G (endR G a (cs.take j))) t) := by
  refine ⟨fun j hj => ?_, fun j _ => stt_at (ofN_st _ (isT_gp h)) ht, ?_⟩
  · have e1 : cs.take (j + 1) = cs.take j ++ [rd cs j] := by rw [rd_lt hj, List.take_succ_eq_append_getElem hj]
    have hk1 : OKR G a (cs.take j ++ [rd cs j]) := by
      have := hk
      rw [← List.take_append_drop (j + 1) cs, e1] at this
      exact ((OKR_app G _ _ a).1 this).1
    obtain ⟨k1, k2⟩ := (OKR_app G _ _ a).1 hk1
    have hl := OKR.las h ha k1
    obtain ⟨_, T, hs, hT, et, _⟩ := keep_las h hl k2.1
    have e2 : endR G a (cs.take (j + 1)) = num G T := by rw [e1, endR_app]; exact et
    show rd (ofN G (endR G a (cs.take (j + 1)))) t = if rd cs j = t then rd G t else rd (ofN G (endR G a (cs.take j))) t - 1
    rw [e2, ofN_num (isT_gp h) hT, stepA_rd (t := t) (ofN_st _ (isT_gp h)) hs ht]
    by_cases c : rd cs j = t
    · rw [if_pos c, if_pos (by omega)]
    · rw [if_neg c, if_neg (by omega)]
  · show rd (ofN G (endR G a (cs.take cs.length))) t = rd (ofN G (endR G a (cs.take 0))) t
    rw [List.take_length, he]; rfl

/-! ### The least play -/

structure PlayJ (G : List Int) (a v : Int) (came out : List Int) : Prop where
  ok : OKR G a out
  at_ : endR G a out = v
  came_ : ∀ u : Nat, u < came.length → 0 ≤ rd came u → (rd came u).toNat < out.length ∧ endR G a (out.take (rd came u).toNat) = u

theorem play_round {G : List Int} (h : isT G = true) (hc : cnt G ≤ 4000) {a : Int} (ha : Las G a) : ∀ (n : Nat) (v : Int) (came out : List Int) (r : List Int × List Int), PlayI G v came out → PlayJ G a v came out → play G n v came out = some r →
    ∃ b, Las G b ∧ OKR G b r.2 ∧ endR G b r.2 = b ∧ 1 ≤ r.2.length
  | 0, v, came, out, r, I, J, hp => by cases hp
  | n + 1, v, came, out, r, I, J, hp => by
    have hv0 := I.v0; have hv1 := I.v1; have hcl := I.cl
    have ev : ((v.toNat : Nat) : Int) = v := by omega
    unfold play at hp
    split at hp
    · rename_i hb
      cases hp
      obtain ⟨j1, j2⟩ := J.came_ v.toNat (by omega) (by rw [ev]; exact hb)
      rw [ev] at j1 j2
      have hok := J.ok
      rw [← List.take_append_drop (rd came v).toNat out] at hok
      obtain ⟨k1, k2⟩ := (OKR_app G _ _ a).1 hok
      rw [j2] at k2
      refine ⟨v, ⟨hv0, hv1, I.lv⟩, k2, ?_, ?_⟩
      · have := J.at_
        rw [← List.take_append_drop (rd came v).toNat out, endR_app, j2] at this
        exact this
      · show 1 ≤ (out.drop (rd came v).toNat).length
        rw [List.length_drop]; omega
    · rename_i hb
      refine play_round h hc ha n _ _ _ r (I.next h hc hb) ?_ hp
      have hne := lasting_good h hc hv0 hv1 I.lv
      have hk : rd (keep G (lasting G) v) 0 ∈ keep G (lasting G) v := rd_mem (l := keep G (lasting G) v) (i := 0) (List.length_pos_iff.2 hne)
      refine ⟨(OKR_app G _ _ a).2 ⟨J.ok, by rw [J.at_]; exact ⟨hk, trivial⟩⟩, ?_, fun u hu hr => ?_⟩
      · rw [endR_app, J.at_]; rfl
      · have hu' : u < came.length := by simpa using hu
        have hvl : v.toNat < came.length := by omega
        have hset : rd (came.set v.toNat (out.length : Int)) u = if u = v.toNat then (out.length : Int) else rd came u := rd_set hvl
        rw [hset] at hr ⊢
        by_cases e : u = v.toNat
        · rw [if_pos e, Int.toNat_natCast]
          refine ⟨by simp, ?_⟩
          rw [List.take_append_of_le_length (Nat.le_refl _), List.take_length, J.at_, e, ev]
        · rw [if_neg e] at hr ⊢
          obtain ⟨j1, j2⟩ := J.came_ u hu' hr
          refine ⟨by simp; omega, ?_⟩
          rw [List.take_append_of_le_length (by omega)]
          exact j2

/-- The round of a least play. -/
theorem playR_round {G : List Int} (hf : few G = 0) (hs : canB G = true) : ∃ b, Las G b ∧ OKR G b (playR G).2.1 ∧ endR G b (playR G).2.1 = b ∧ 1 ≤ (playR G).2.1.length ∧ (playR G).2.2 = 0 := by
  obtain ⟨h, hc⟩ := few_zero hf
  have hp := cnt_pos (isT_gp h)
  have hs' : (canR G).1 = true := by rw [canR_canB h hc]; exact hs
  obtain ⟨r, h1, h2, _, _⟩ := playR_eq hf hs'
  have hla : Las G (cnt G - 1) := ⟨by omega, by omega, hs⟩
  obtain ⟨b, b1, b2, b3, b4⟩ := play_round h hc hla 4001 _ _ _ r (play_start h hc hs') ⟨trivial, rfl, fun u hu hr => by
    exfalso
    have : rd (List.replicate (cnt G).toNat (-1 : Int)) u = -1 := by
      rw [rd_nat, List.getD_eq_getElem?_getD, List.getElem?_replicate, if_pos (by simpa using hu)]; rfl
    omega⟩ h1
  rw [h2]
  exact ⟨b, b1, b2, b3, b4, rfl⟩

/-! ### The fewest slots -/

theorem fewest_val {k : Nat} {G : List Int} (hk : 2097152 ≤ k) (hl : G.length ≤ 1048576) : ∃ r, spec_FewestSlots.f k G = some r ∧ impl_FewestSlots.f k G = some r ∧
    (few G = 0 → canB G = true → r.2 = 0 ∧ LeastAt G 0 (lasting G).length r.1) ∧ (few G = 0 → canB G = false → r.2 ≠ 0) ∧ (few G ≠ 0 → r.2 ≠ 0) := by
  unfold spec_FewestSlots.f spec_FewestSlots.g impl_FewestSlots.f impl_FewestSlots.g
  rw [l02Few_f hk hl, Option.bind_some, servable_f hk hl, Option.bind_some]
  by_cases hf : few G = 0
  · obtain ⟨h, hc⟩ := few_zero hf
    have hL := lasting_len h hc
    have hp := cnt_pos (isT_gp h)
    have hlen := isT_len h
    have hcan := can_few h hc
    have hcb := canR_canB h hc
    rw [show (if isT G = true then (if 4000 < cnt G then 3 else 0) else 1 : Int) = few G from rfl, if_pos hf, l02Lasting_f hk h hc, Option.bind_some, hL, w64 (by omega) (by omega), if_pos (by omega), if_pos (by omega)]
    by_cases hs : (canR G).1 = true
    · have e : servR G = (some (G, nxs G (lasting G).length, lasting G), 0) := by unfold servR; rw [if_pos hf, if_pos hs]
      rw [if_pos (show rdOf false (lasting G) (cnt G - 1) = true from by rw [← hs, hcan]; rfl), e, if_pos rfl]
      obtain ⟨y, hy1, hy2⟩ := max_f (k := k) (l := G) hk (by omega)
      obtain ⟨t, ht1, ht2⟩ := index_f (k := k) (l := G) hk (by omega) hy1
      rw [hy2, Option.bind_some, ht2, Option.bind_some, Option.bind_some]
      obtain ⟨q1, a1, a2⟩ := spec_few hk h hc (lasting G).length 0 k 0 (by omega) (by omega) (by omega) (least_begin G 0)
      obtain ⟨q2, b1, b2⟩ := impl_few (t := t) hk h hc ht1 (lasting G).length 0 k 0 (by omega) (by omega) (by omega) (least_begin G t)
      obtain rfl := least_same h hL (by omega) ht1 a2 b2
      exact ⟨_, a1, b1, fun _ _ => ⟨rfl, a2⟩, (fun _ hb => by rw [hcb, hb] at hs; cases hs), fun hn => absurd hf hn⟩
    · have e : servR G = (none, 4) := by unfold servR; rw [if_pos hf, if_neg hs]
      rw [if_neg (show ¬ rdOf false (lasting G) (cnt G - 1) = true from by rw [hcan] at hs; exact hs), e]
      exact ⟨_, rfl, rfl, (fun _ hb => absurd (by rw [hcb]; exact hb) hs), (fun _ _ => by decide), fun hn => absurd hf hn⟩
  · have e : servR G = (none, few G) := by unfold servR; rw [if_neg hf]
    rw [show (if isT G = true then (if 4000 < cnt G then 3 else 0) else 1 : Int) = few G from rfl, if_neg hf, e]
    exact ⟨_, rfl, if_neg hf, fun hn => absurd hn hf, fun hn => absurd hn hf, fun _ => hf⟩

/-- Rounds have at least the fewest slots. -/
theorem fewest_le {G : List Int} (h : isT G = true) (hc : cnt G ≤ 4000) {r : Int} (hr : LeastAt G 0 (lasting G).length r) {b : Int} (hb : Las G b) {n : Nat} (hn : 1 ≤ n) (hw : Walk G b n b) : 1 ≤ r ∧ r ≤ n := by
  have hL := lasting_len h hc
  have hlen := isT_len h
  obtain ⟨x, x1, x2, x3⟩ := Walk.turn h hb (t := 0) (by omega) hn hw
  have ex : ((x.toNat : Nat) : Int) = x := by have := x1.v0; omega
  rcases hr with ⟨_, h2⟩ | ⟨rn, h1, h2, _, h4⟩
  · exact absurd (by rw [ex]; exact x3) (h2 x.toNat (by have := x1.v1; have := x1.v0; omega) (by rw [ex]; exact x1) (by rw [ex]; exact x2) n hn)
  · refine ⟨by omega, ?_⟩
    by_cases c : n < rn
    · exact absurd (by rw [ex]; exact x3) (h4 x.toNat (by have := x1.v1; have := x1.v0; omega) (by rw [ex]; exact x1) (by rw [ex]; exact x2) n hn c)
    · omega

/-! ### The least gap -/

theorem leastGap_val {k : Nat} {G : List Int} {a : Int} (hk : 2097152 ≤ k) (hl : G.length ≤ 1048576) : ∃ r, spec_LeastGap.f k G a = some r ∧ impl_LeastGap.f k G a = some r ∧
    (r.2 = 0 → ∃ t : Nat, a = (t : Int) ∧ Gap G t ∧ 1 ≤ r.1 ∧ r.1 ≤ rd G t ∧ canB (G.set t r.1) = true ∧ ∀ z, 1 ≤ z → z < r.1 → ¬ canB (G.set t z) = true) := by
  unfold spec_LeastGap.f spec_LeastGap.g impl_LeastGap.f impl_LeastGap.g
  rw [l01Is_f hk hl, Option.bind_some, isTask_f G hl, Option.bind_some]
  by_cases ha : 0 ≤ a ∧ a < G.length
  · rw [decide_eq_true ha, servable_f hk hl, Option.bind_some]
    by_cases hT : isT G = true
    · rw [if_pos hT, l01K_f, Option.bind_some, w64 (by omega) (by omega), l01In_f, Option.bind_some, if_pos (by simp; omega), l02Few_f hk hl, Option.bind_some]
      by_cases hf : few G = 0
      · obtain ⟨h, hc⟩ := few_zero hf
        have hcan := canR_canB h hc
        rw [if_pos (show (if isT G = true then (if 4000 < cnt G then 3 else 0) else 1 : Int) = 0 from hf), l02Can_f hk h hc, Option.bind_some]
        by_cases hs : canB G = true
        · have e : servR G = (some (G, nxs G (lasting G).length, lasting G), 0) := by unfold servR; rw [if_pos hf, if_pos (by rw [hcan]; exact hs)]
          obtain ⟨t, rfl⟩ : ∃ t : Nat, a = (t : Int) := ⟨a.toNat, by omega⟩
          have I : Gap G t := ⟨h, hc, by omega⟩
          have h2 := I.bnd
          obtain ⟨m, h3, h4, h5, h6⟩ := gap_find (fun y => canB (G.set t y)) (rd G t) (by show canB _ = true; rw [set_self I.ht]; exact hs) (rd G t - 1).toNat 1 (by omega)
          have q1 := gap_up hk I h4 h5 h6 k 1 (by omega) h3 (by omega)
          have q2 := gap_down hk I h3 h5 h6 k (rd G t) h4 (by omega) (by omega)
          rw [set_self I.ht] at q2
          rw [if_pos (show List.getD _ _ _ = true from hs), e, if_pos rfl, own_f hl, Option.bind_some, clone_f hl, Option.bind_some, if_pos (by omega), if_pos (by omega), Int.toNat_natCast]
          exact ⟨_, q2, q1, fun _ => ⟨t, rfl, I, h3, h4, h5, h6⟩⟩
        · have e : servR G = (none, 4) := by unfold servR; rw [if_pos hf, if_neg (by rw [hcan]; exact hs)]
          rw [if_neg (show ¬ List.getD _ _ _ = true from hs), e]
          exact ⟨_, rfl, rfl, fun h0 => absurd h0 (by decide)⟩
      · have e : servR G = (none, few G) := by unfold servR; rw [if_neg hf]
        rw [if_neg (show ¬ (if isT G = true then (if 4000 < cnt G then 3 else 0) else 1 : Int) = 0 from hf), e]
        exact ⟨_, rfl, if_neg hf, fun h0 => absurd h0 hf⟩
    · have e : servR G = (none, 1) := by unfold servR few; rw [if_neg hT, if_neg (by omega)]
      rw [if_neg hT, e]
      exact ⟨_, rfl, rfl, fun h0 => absurd h0 (by decide)⟩
  · rw [decide_eq_false ha, servable_no hk hl, Option.bind_some]
    by_cases hT : isT G = true
    · rw [if_pos hT, l01K_f, Option.bind_some, w64 (by omega) (by omega), l01In_f, Option.bind_some, if_neg (by simp; omega), if_pos hT]
      exact ⟨_, rfl, rfl, fun h0 => absurd h0 (by decide)⟩
    · rw [if_neg hT, if_neg hT]
      exact ⟨_, rfl, rfl, fun h0 => absurd h0 (by decide)⟩

theorem drawLeastGap_ok {k : Nat} (hk : 2097152 ≤ k) {c : List Int} (hb : ∀ x ∈ c, 0 ≤ x ∧ x ≤ 255) (hl : c.length ≤ 4096) : Gv (spec_DrawLeastGap.f k c) fun r => r.1.length ≤ 1009 := by
  unfold spec_DrawLeastGap.f
  exact Gv.bind (from_ok hk hb hl) fun s S => Gv.bind (l02Draw_ok hk hb hl) fun r hr => Gv.bind (near_ok S _) fun q hq => Gv.ok hr

/-- The end of the law. -/
theorem plays_end {k : Nat} {G : List Int} {x : Int × Int} (hk : 2097152 ≤ k) (hl : G.length ≤ 1048576) (h1 : few G = 0 → canB G = true → x.2 = 0 ∧ LeastAt G 0 (lasting G).length x.1) (h2 : few G = 0 → canB G = false → x.2 ≠ 0) :
    (if (canR G).2 = 0 then (if (canR G).1 = (decide ((playR G).2.2 = 0)) then (if (canR G).1 = (decide (x.2 = 0)) then (if (playR G).2.2 = 0 then (if ((playR G).2.1.length : Int) < x.1 then (some false) else (if x.1 < 1 then (some false) else (if ((playR G).2.1.length : Int) ≤ 120 then ((impl_DoServe.f k G (playR G).2.1).bind fun t16 => if t16.2 = 0 then (some t16.1) else (some false)) else (some true)))) else (some (decide (((playR G).2.1.length : Int) = 0)))) else (some false)) else (some false)) else (if (playR G).2.2 = 0 then (if ((playR G).2.1.length : Int) < x.1 then (some false) else (if x.1 < 1 then (some false) else (if ((playR G).2.1.length : Int) ≤ 120 then ((impl_DoServe.f k G (playR G).2.1).bind fun t17 => if t17.2 = 0 then (some t17.1) else (some false)) else (some true)))) else (some (decide (((playR G).2.1.length : Int) = 0))))) = some true := by
  by_cases hf : few G = 0
  · obtain ⟨h, hc⟩ := few_zero hf
    have e2 : (canR G).2 = 0 := by unfold canR; rw [if_pos hf]
    have e1 : (canR G).1 = canB G := canR_canB h hc
    rw [if_pos e2, e1]
    cases hs : canB G with
    | true =>
      obtain ⟨b, b1, b2, b3, b4, b5⟩ := playR_round hf hs
      obtain ⟨x1, x2⟩ := h1 hf hs
      have hw := OKR.walk b2
      rw [b3] at hw
      obtain ⟨y1, y2⟩ := fewest_le h hc x2 b1 b4 hw
      rw [if_pos (decide_eq_true b5).symm, if_pos (decide_eq_true x1).symm, if_pos b5, if_neg (by omega), if_neg (by omega)]
      by_cases c : ((playR G).2.1.length : Int) ≤ 120
      · rw [if_pos c, doServe_f hk h b4 (by omega) (OKR.mem rfl b2) (fun t ht => ⟨by have := (isT_gp h) _ (rd_mem (l := G) (i := t) ht); omega, _, OKR.turn h b1 b2 b3 ht⟩), Option.bind_some, if_pos rfl]
      · rw [if_neg c]
    | false =>
      have x2 := h2 hf hs
      have e : playR G = ([], [], 4) := by unfold playR; rw [if_pos hf, if_neg (by rw [e1, hs]; decide)]
      rw [e, if_pos (by decide), if_pos (by rw [decide_eq_false x2]), if_neg (by decide)]
      rfl
  · have e2 : (canR G).2 ≠ 0 := by unfold canR; rw [if_neg hf]; exact hf
    have e : playR G = ([], [], few G) := by unfold playR; rw [if_neg hf]
    rw [if_neg e2, e, if_neg hf]
    rfl

theorem law_FnPlays {k : Nat} {l : List Int} (hk : 2097152 ≤ k) (hb : ∀ x ∈ l, 0 ≤ x ∧ x ≤ 255) : laws_FnPlays.f k l = some true := by
  unfold laws_FnPlays.f laws_big.f
  rw [Option.bind_some]
  by_cases hbig : 4096 < (l.length : Int)
  · rw [if_pos (decide_eq_true hbig)]
  rw [if_neg (by simpa using hbig)]
  obtain ⟨G, e1, hG⟩ := l02Draw_ok hk hb (show l.length ≤ 4096 by omega)
  obtain ⟨⟨Y, a⟩, e2, hY⟩ := drawLeastGap_ok hk hb (show l.length ≤ 4096 by omega)
  simp only at hY
  obtain ⟨x, f1, f2, f3, f4, f5⟩ := fewest_val (k := k) (G := G) hk (by omega)
  obtain ⟨y, g1, g2, g3⟩ := leastGap_val (k := k) (G := Y) (a := a) hk (by omega)
  have hp := playR_len G
  have fin := plays_end (x := x) hk (by omega) f3 f4
  unfold spec_DrawLeastPlay.f
  simp only [e1, e2, f1, f2, g1, g2, Option.bind_some]
  rw [impl_LeastPlay_f hk (by omega), spec_LeastPlay_f hk (by omega)]
  simp only [Option.bind_some]
  rw [if_pos trivial, likeInts_self hk (by omega), Option.bind_some, if_pos rfl, likeInts_self hk (by omega), Option.bind_some, if_pos rfl, if_pos trivial, if_pos trivial, impl_CanServe_f hk (by omega), spec_CanServe_f hk (by omega)]
  simp only [Option.bind_some]
  rw [if_pos trivial, if_pos trivial, if_pos trivial, if_pos trivial]
  by_cases hy : y.2 = 0
  · obtain ⟨t, rfl, I, m1, m2, m3, m4⟩ := g3 hy
    have ht := I.ht
    have hb40 := I.bnd
    have can : ∀ z, 1 ≤ z → z ≤ rd Y t → impl_CanServe.f k (Y.set t z) = some (canB (Y.set t z), 0) := by
      intro z z1 z2
      rw [impl_CanServe_f hk (by simp; omega)]
      have h' := I.isT z1 z2
      have hc' := I.cnt z1 z2
      have : few (Y.set t z) = 0 := by unfold few; rw [if_pos h', if_neg (by omega)]
      unfold canR canB
      rw [if_pos this]
    rw [if_pos hy, if_pos (by omega), if_pos (by omega), List.nil_append, if_pos (by omega), Int.toNat_natCast, can _ m1 m2, Option.bind_some, if_pos rfl]
    simp only
    rw [if_pos m3, if_pos (by omega), if_pos (by omega), if_neg (by omega)]
    by_cases c : 1 < y.1
    · rw [if_pos c, if_pos (by omega), if_pos (by simp; omega), w64 (by omega) (by omega), List.set_set, can _ (by omega) (by omega), Option.bind_some, if_pos rfl]
      simp only
      rw [if_neg (m4 (y.1 - 1) (by omega) (by omega))]
      exact fin
    · rw [if_neg c]
      exact fin
  · rw [if_neg hy]
    exact fin

end Go.Proofs.Ytcbhhbkghbnljaa.Vf
