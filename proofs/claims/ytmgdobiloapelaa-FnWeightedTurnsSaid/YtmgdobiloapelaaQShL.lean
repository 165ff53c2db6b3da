/- Pure: best turns have no greater mean than others, and turns from shares have their shares. Conditions: as each theorem states. My own. -/
import Derived.Test.YtmgdobiloapelaaQShC
import Derived.Test.YtmgdobiloapelaaQBestA
set_option linter.unusedVariables false
set_option linter.unusedSimpArgs false
namespace Go.Proofs.Ytmgdobiloapelaa.Vf
open Go Go.V Go.RowKit

/-! ### Means by weights, told -/

theorem meanW_f {k : Nat} {cs ws : List Int} (hk : 2097152 ≤ k) (ht : turnsW 8 cs = true) (hw : weightsB ws = true) (hh : hasL cs ws 0 = true) :
    ∃ t w g : Int, 1 ≤ g ∧ g * t = wsumL cs ws 0 ∧ g * w = (cs.length : Int) * tot ws ∧ impl_MeanByWeights.f k cs ws = some (t, w, 0) := by
  obtain ⟨⟨w1, w8⟩, wel, wt⟩ := weights_in hw
  have hcl : 1 ≤ cs.length ∧ cs.length ≤ 120 := by
    unfold turnsW at ht
    rw [Bool.and_eq_true] at ht
    exact of_decide_eq_true ht.1
  have hw100 : ws.all w100 = true := List.all_eq_true.2 fun x hx => decide_eq_true (wel x hx)
  have htot := tot_bnd hw100
  have wb := wsum_bnd hcl.2 hw100 hh
  have nb : 0 ≤ (cs.length : Int) * tot ws ∧ (cs.length : Int) * tot ws ≤ 120 * 800 := ⟨Int.mul_nonneg (by omega) htot.1, Int.mul_le_mul (by omega) (by omega) htot.1 (by omega)⟩
  have n1 : 1 ≤ (cs.length : Int) * tot ws := by
    have := Int.mul_le_mul (show (1 : Int) ≤ cs.length by omega) (show 1 ≤ tot ws by omega) (by omega) (by omega)
    omega
  obtain ⟨N, hN⟩ := Int.eq_ofNat_of_zero_le nb.1
  obtain ⟨t, w, g, g1, g2, g3, g4, _⟩ := fraction_ok (k := k) hk (a := wsumL cs ws 0) (b := N) wb.1 (by omega) (by omega) (by omega)
  refine ⟨t, w, g, g1, g2, by rw [g3, ← hN], ?_⟩
  have key : ∀ (d i m : Nat), i + d = ws.length → d < m → hasL cs (ws.drop i) i = true → impl_MeanByWeights.l0 k m cs ws ws ws.length i = some (t, w, 0) := by
    intro d
    induction d with
    | zero =>
      intro i m hd hm _
      cases m with
      | zero => omega
      | succ m =>
        simp only [impl_MeanByWeights.l0, impl_MeanByWeights.s0]
        rw [if_neg (by omega), impl_weighted_f hk hcl.2 w8 hw100 hh, Option.bind_some, length_f, Option.bind_some, total_f hk (by omega) hw100, Option.bind_some, w64 (by omega) (by omega), hN, g4, Option.bind_some]
    | succ d ih =>
      intro i m hd hm hx
      cases m with
      | zero => omega
      | succ m =>
        rw [drop_cons (by omega)] at hx
        obtain ⟨m1, m2⟩ := hasL_step hx
        simp only [impl_MeanByWeights.l0, impl_MeanByWeights.s0]
        rw [if_pos (by omega), if_pos (by omega), if_pos (by omega), w64n (by omega)]
        by_cases c : 0 < rd ws i
        · rw [if_pos c, contains_mem hk (by omega), Option.bind_some, if_pos (show memB cs (i : Int) = true from decide_eq_true (m1 c))]
          exact ih (i + 1) m (by omega) (by omega) m2
        · rw [if_neg c]
          exact ih (i + 1) m (by omega) (by omega) m2
  unfold impl_MeanByWeights.f impl_MeanByWeights.g
  rw [impl_weights_f hk (by omega), Option.bind_some, impl_code_f hk (by omega) (by simp), Option.bind_some]
  have hcode : wcode cs (weightsB ws) [] = 0 := by
    unfold wcode
    rw [ht, hw]; rfl
  rw [if_pos hcode]
  have := key ws.length 0 k (by omega) (by omega) (by rw [List.drop_zero]; exact hh)
  rw [Int.natCast_zero] at this
  exact this

/-! ### The best is the least -/

structure Bst (ws : List Int) (n : Nat) (r : List Int × Int) : Prop where
  len : r.1.length = n
  el : ∀ x ∈ r.1, 0 ≤ x ∧ x < ws.length
  val : validB ws.length r.1 = true
  sm : r.2 = wsumL r.1 ws 0

theorem mrg2_le {b r : List Int × Int} : (0 ≤ r.2 → 0 ≤ (mrg2 b r).2 ∧ (mrg2 b r).2 ≤ r.2) ∧ (0 ≤ b.2 → 0 ≤ (mrg2 b r).2 ∧ (mrg2 b r).2 ≤ b.2) := by
  unfold mrg2
  constructor
  · intro h
    split <;> omega
  · intro h
    split <;> omega

theorem specR_best {ws : List Int} (W : Wok ws) {n : Nat} (n8 : n ≤ 8) : ∀ (f : Nat) (l : List Int), n < l.length + f → l.length ≤ n → (∀ x ∈ l, 0 ≤ x ∧ x < ws.length) →
    ((specR ws n f l).2 < 0 ∨ Bst ws n (specR ws n f l)) ∧ ∀ t : List Int, l.length + t.length = n → (∀ x ∈ t, 0 ≤ x ∧ x < ws.length) → validB ws.length (l ++ t) = true → 0 ≤ (specR ws n f l).2 ∧ (specR ws n f l).2 ≤ wsumL (l ++ t) ws 0
  | 0, l, h1, h2, _ => by omega
  | f + 1, l, h1, h2, el => by
    unfold specR
    by_cases c : l.length = n
    · rw [if_pos c]
      refine ⟨?_, fun t ht _ hv => ?_⟩
      · by_cases v : validB ws.length l = true
        · rw [if_pos v]; exact Or.inr ⟨c, el, v, rfl⟩
        · rw [if_neg v]; exact Or.inl (by show (-1 : Int) < 0; omega)
      · have e : t = [] := List.eq_nil_of_length_eq_zero (by omega)
        subst e
        rw [List.append_nil] at hv ⊢
        rw [if_pos hv]
        exact ⟨(wsum_bnd (by omega) W.w100 (valid_has hv)).1, Int.le_refl _⟩
    · rw [if_neg c]
      have sub : ∀ i : Nat, i < ws.length → _ := fun i hi => specR_best W n8 f (l ++ [(i : Int)]) (by simp; omega) (by simp; omega) (fun x hx => by
        rcases List.mem_append.1 hx with hx | hx
        · exact el x hx
        · rw [List.mem_singleton.1 hx]; omega)
      have key : ∀ (d i : Nat) (b : List Int × Int), i + d = ws.length → (b.2 < 0 ∨ Bst ws n b) →
          ((specL (specR ws n f) l d i b).2 < 0 ∨ Bst ws n (specL (specR ws n f) l d i b)) ∧ (0 ≤ b.2 → 0 ≤ (specL (specR ws n f) l d i b).2 ∧ (specL (specR ws n f) l d i b).2 ≤ b.2) ∧
          ∀ j : Nat, i ≤ j → j < ws.length → 0 ≤ (specR ws n f (l ++ [(j : Int)])).2 → 0 ≤ (specL (specR ws n f) l d i b).2 ∧ (specL (specR ws n f) l d i b).2 ≤ (specR ws n f (l ++ [(j : Int)])).2 := by
        intro d
        induction d with
        | zero => intro i b hd hb; exact ⟨hb, fun h => ⟨h, Int.le_refl _⟩, fun j h1 h2 => by omega⟩
        | succ d ih =>
          intro i b hd hb
          simp only [specL]
          have good : (mrg2 b (specR ws n f (l ++ [(i : Int)]))).2 < 0 ∨ Bst ws n (mrg2 b (specR ws n f (l ++ [(i : Int)]))) := by
            unfold mrg2
            split
            · exact (sub i (by omega)).1
            · exact hb
          obtain ⟨i1, i2, i3⟩ := ih (i + 1) _ (by omega) good
          have m1 := mrg2_le (b := b) (r := specR ws n f (l ++ [(i : Int)]))
          refine ⟨i1, fun h => ?_, fun j h1 h2 h3 => ?_⟩
          · have a := m1.2 h
            have a2 := i2 a.1
            exact ⟨a2.1, Int.le_trans a2.2 a.2⟩
          · by_cases e : j = i
            · subst e
              have a := m1.1 h3
              have a2 := i2 a.1
              exact ⟨a2.1, Int.le_trans a2.2 a.2⟩
            · exact i3 j (by omega) h2 h3
      obtain ⟨k1, _, k3⟩ := key ws.length 0 ([], -1) (by omega) (Or.inl (by show (-1 : Int) < 0; omega))
      refine ⟨k1, fun t ht et hv => ?_⟩
      match t, ht, et, hv with
      | [], ht, _, _ => simp at ht; omega
      | x :: t, ht, et, hv =>
        obtain ⟨x0, x1⟩ := et x (List.mem_cons_self ..)
        obtain ⟨j, rfl⟩ := Int.eq_ofNat_of_zero_le x0
        have e : l ++ (j : Int) :: t = l ++ [(j : Int)] ++ t := by simp
        rw [e] at hv ⊢
        have s := (sub j (by omega)).2 t (by simp only [List.length_append, List.length_cons, List.length_nil] at ht ⊢; omega) (fun y hy => et y (List.mem_cons_of_mem _ hy)) hv
        have a := k3 j (by omega) (by omega) s.1
        exact ⟨a.1, Int.le_trans a.2 s.2⟩

/-! ### Draws -/

theorem drawBest_ok {k : Nat} (hk : 2097152 ≤ k) {c : List Int} (hb : ∀ x ∈ c, 0 ≤ x ∧ x ≤ 255) (hl : c.length ≤ 4096) : Gv (spec_DrawBestTurns.f k c) fun r => r.1.length ≤ 10 := by
  unfold spec_DrawBestTurns.f spec_DrawBestTurns.g
  refine Gv.bind (from_ok hk hb hl) fun s S => Gv.bind (drawWeights_ok hk S (m := 3) (by omega) (by omega)) fun w hw => ?_
  have key : ∀ (d i n : Nat) (out : List Int) (s : SrcT), Src s → i + d = out.length → out.length ≤ 10 → d < n → Gv (spec_DrawBestTurns.l0 k n s.1 s.2.1 s.2.2 out out.length i) fun r => r.1.length ≤ 10 := by
    intro d
    induction d with
    | zero =>
      intro i n out s S hd ho hn
      cases n with
      | zero => omega
      | succ n =>
        simp only [spec_DrawBestTurns.l0, spec_DrawBestTurns.s0]
        exact Gv.neg (by omega) (Gv.bind (drawNear_ok S _) fun a ha => Gv.bind (pick_ok ha _ (by simp)) fun b hb => Gv.ok ho)
    | succ d ih =>
      intro i n out s S hd ho hn
      cases n with
      | zero => omega
      | succ n =>
        simp only [spec_DrawBestTurns.l0, spec_DrawBestTurns.s0]
        rw [w64n (by omega)]
        refine Gv.pos (by omega) (Gv.bind (next_ok S _) fun a ha => Gv.ite (fun c => ?_) fun c => ih (i + 1) n _ a.2 ha.1 (by omega) ho (by omega))
        refine Gv.pos (by omega) (Gv.pos (by omega) (Gv.pos (by omega) (Gv.pos (by omega) ?_)))
        have := ih (i + 1) n (out.set (i : Int).toNat (maxV (rd out i) 1)) a.2 ha.1 (by rw [List.length_set]; omega) (by rw [List.length_set]; omega) (by omega)
        rw [List.length_set] at this
        exact this
  exact key w.1.length 0 k w.1 w.2 hw.1 (by omega) hw.2 (by omega)

theorem drawShares_ok {k : Nat} (hk : 2097152 ≤ k) {c : List Int} (hb : ∀ x ∈ c, 0 ≤ x ∧ x ≤ 255) (hl : c.length ≤ 4096) : Gv (spec_DrawSharesByWeights.f k c) fun r => r.1.length ≤ 10 := by
  unfold spec_DrawSharesByWeights.f
  exact Gv.bind (from_ok hk hb hl) fun s S => Gv.bind (drawWeights_ok hk S (m := 8) (by omega) (by omega)) fun w hw => Gv.bind (pick_ok hw.1 _ (by simp)) fun a ha => Gv.bind (drawNear_ok ha.1 _) fun b hb => Gv.ok hw.2

theorem drawTurnsS_ok {k : Nat} (hk : 2097152 ≤ k) {c : List Int} (hb : ∀ x ∈ c, 0 ≤ x ∧ x ≤ 255) (hl : c.length ≤ 4096) : Gv (spec_DrawTurnsFromShares.f k c) fun r => r.length ≤ 20 := by
  unfold spec_DrawTurnsFromShares.f spec_DrawTurnsFromShares.g
  refine Gv.bind (from_ok hk hb hl) fun s S => Gv.bind (pick_ok S _ (by simp)) fun w hw => Gv.bind (next_ok hw.1 8) fun a ha => ?_
  have b := ha.2.2 (by omega)
  obtain ⟨m, hm⟩ := Int.eq_ofNat_of_zero_le b.1
  have key : ∀ (d n : Nat) (out : List Int) (x : Int) (s : SrcT), Src s → 1 ≤ out.length + d → out.length + d ≤ 19 → d < n → Gv (spec_DrawTurnsFromShares.l0 k n s.1 s.2.1 s.2.2 out x (d : Int)) fun r => r.length ≤ 20 := by
    intro d
    induction d with
    | zero =>
      intro n out x s S h1 h2 hn
      cases n with
      | zero => omega
      | succ n =>
        simp only [spec_DrawTurnsFromShares.l0, spec_DrawTurnsFromShares.s0]
        refine Gv.neg (by omega) (Gv.bind (next_ok S 24) fun a ha => Gv.ite (fun _ => ?_) fun _ => Gv.ite (fun _ => ?_) fun _ => Gv.ok (by omega))
        · exact Gv.bind (pick_ok ha.1 _ (by simp)) fun b hb => Gv.pos (by omega) (Gv.ok (by rw [List.length_set]; omega))
        · exact Gv.pos (by omega) (Gv.ok (by rw [List.length_append, List.length_singleton]; omega))
    | succ d ih =>
      intro n out x s S h1 h2 hn
      cases n with
      | zero => omega
      | succ n =>
        simp only [spec_DrawTurnsFromShares.l0, spec_DrawTurnsFromShares.s0]
        rw [show wrap64 (((d + 1 : Nat) : Int) - 1) = (d : Int) by rw [w64 (by omega) (by omega)]; omega]
        refine Gv.pos (by omega) (Gv.bind (next_ok S _) fun a ha => Gv.pos (by omega) ?_)
        exact ih n _ x a.2 ha.1 (by rw [List.length_append, List.length_singleton]; omega) (by rw [List.length_append, List.length_singleton]; omega) (by omega)
  rw [hm] at b ⊢
  rw [show wrap64 (1 + ((m : Nat) : Int)) = ((m + 1 : Nat) : Int) by rw [w64 (by omega) (by omega)]; omega]
  exact key (m + 1) k [] _ a.2 ha.1 (by simp) (by simp; omega) (by omega)

/-! ### The law -/

theorem likeIntsW {k : Nat} (hk : 2097152 ≤ k) {l : List Int} (hl : l.length ≤ 1048576) : laws_likeInts.f k l l = some true := by
  have key : ∀ (d i n : Nat), l.length - i = d → i ≤ l.length → d < n → laws_likeInts.l0 k n l l i = some true := by
    intro d
    induction d with
    | zero =>
      intro i n hd hi hn
      cases n with
      | zero => omega
      | succ n =>
        simp only [laws_likeInts.l0, laws_likeInts.s0]
        rw [if_neg (by omega)]
    | succ d ih =>
      intro i n hd hi hn
      cases n with
      | zero => omega
      | succ n =>
        simp only [laws_likeInts.l0, laws_likeInts.s0]
        rw [w64n (by omega), if_pos (by omega), if_pos (by omega), if_pos (by omega), if_pos (by omega), if_pos (by omega), if_pos trivial]
        exact ih (i + 1) n (by omega) (by omega) (by omega)
  unfold laws_likeInts.f laws_likeInts.g
  rw [if_pos rfl]
  exact key l.length 0 k (by omega) (by omega) (by omega)

theorem sumW_f {k : Nat} {l : List Int} (hk : 2097152 ≤ k) (hl : l.length ≤ 1000) (hb : ∀ x ∈ l, -1000 ≤ x ∧ x ≤ 1000) : laws_sum.f k l = some l.sum := by
  have key : ∀ (d i m : Nat) (a : Int), i + d = l.length → d < m → -1000 * i ≤ a → a ≤ 1000 * i → laws_sum.l0 k m l a i = some (a + (l.drop i).sum) := by
    intro d
    induction d with
    | zero =>
      intro i m a hd hm h0 h1
      cases m with
      | zero => omega
      | succ m =>
        simp only [laws_sum.l0, laws_sum.s0]
        rw [if_neg (by omega), List.drop_eq_nil_of_le (by omega)]; simp
    | succ d ih =>
      intro i m a hd hm h0 h1
      cases m with
      | zero => omega
      | succ m =>
        have b := hb _ (rd_mem (l := l) (i := i) (by omega))
        simp only [laws_sum.l0, laws_sum.s0]
        rw [if_pos (by omega), if_pos (by omega), if_pos (by omega), w64n (by omega), w64 (by omega) (by omega), ih (i + 1) m _ (by omega) (by omega) (by omega) (by omega), drop_cons (i := i) (by omega), List.sum_cons, Int.add_assoc]
  unfold laws_sum.f laws_sum.g
  have := key l.length 0 k 0 (by omega) (by omega) (by omega) (by omega)
  rw [List.drop_zero, Int.zero_add, Int.natCast_zero] at this
  exact this

noncomputable def gE (k : Nat) (ws : List Int) (n : Int) (best : List Int) (code : Int) : Option Bool :=
  if code = 0 then ((impl_SharesByWeights.f k ws n).bind fun t18 => (impl_TurnsFromShares.f k t18.1).bind fun t19 => (impl_MeanByWeights.f k best ws).bind fun t20 => (impl_MeanByWeights.f k t19.1 ws).bind fun t21 => if t18.2 = 0 then (if t19.2 = 0 then (if t20.2.2 = 0 then (if t21.2.2 = 0 then (some (decide ((wrap64 (t20.1 * t21.2.1)) ≤ (wrap64 (t21.1 * t20.2.1))))) else (some false)) else (some false)) else (some false)) else (some false)) else (some (decide ((best.length : Int) = 0)))

theorem turns8 {m : Nat} {l : List Int} (h1 : 1 ≤ l.length) (h2 : l.length ≤ 120) (m8 : m ≤ 8) (el : ∀ x ∈ l, 0 ≤ x ∧ x < m) : turnsW 8 l = true := by
  unfold turnsW
  rw [Bool.and_eq_true, decide_eq_true_eq, List.all_eq_true]
  refine ⟨⟨h1, h2⟩, fun x hx => decide_eq_true ?_⟩
  have := el x hx
  rw [w64 (by omega) (by omega)]; omega

theorem cnt_mem {l : List Int} {x : Int} (h : 1 ≤ cntI l x) : x ∈ l := by
  unfold cntI at h
  obtain ⟨y, hy, e⟩ := List.countP_pos_iff.1 (show 0 < _ from h)
  rw [← of_decide_eq_true e]; exact hy

theorem gE_ok {k : Nat} {ws : List Int} {n : Int} (hk : 2097152 ≤ k) (hl : ws.length ≤ 1048576) : gE k ws n (bestR ws n).1 (bestR ws n).2 = some true := by
  unfold gE
  by_cases h0 : (bestR ws n).2 = 0
  · rw [if_pos h0]
    unfold bestR at h0 ⊢
    by_cases c : wokB ws = true
    · rw [if_pos c] at h0 ⊢
      by_cases hn : 1 ≤ n ∧ n ≤ 8
      · rw [if_pos hn] at h0 ⊢
        by_cases e : n < ws.length
        · rw [if_pos e] at h0; cases h0
        · rw [if_neg e]
          have W := wokB_ok c
          have W1 := W.l1
          have W3 := W.l3
          obtain ⟨c1, _, _⟩ := wok_iff.1 c
          have htot := tot_bnd W.w100
          obtain ⟨N, rfl⟩ := Int.eq_ofNat_of_zero_le (show 0 ≤ n by omega)
          rw [Int.toNat_natCast]
          -- turns from shares by weights
          have hs : (sharesW ws N).2 = 0 := by
            unfold sharesW
            rw [if_pos c1, if_pos (by omega), if_neg e]
          obtain ⟨s1, s2, s3⟩ := sharesW_ok hs
          obtain ⟨d0, d1, d2, d3⟩ := dealt_ok s3
          have ol : (dealtS (sharesW ws N).1).1.length = N := by omega
          have oel : ∀ x ∈ (dealtS (sharesW ws N).1).1, 0 ≤ x ∧ x < ws.length := fun x hx => by have := d2 x hx; omega
          have ov : validB ws.length (dealtS (sharesW ws N).1).1 = true := validB_iff.2 fun i hi => by
            have a := d1 i (by omega)
            have b := s3.el _ (rd_mem (l := (sharesW ws N).1) (i := i) (by omega))
            exact cnt_mem (by omega)
          obtain ⟨b1, b2⟩ := specR_best W (n := N) (by omega) (N + 1) [] (by simp) (by simp) (fun x hx => by cases hx)
          have b3 := b2 (dealtS (sharesW ws N).1).1 (by simpa using ol) oel (by simpa using ov)
          rw [List.nil_append] at b3
          have B : Bst ws N (specR ws N (N + 1) []) := b1.resolve_left (by omega)
          obtain ⟨t1, w1, g1, p1, p2, p3, p4⟩ := meanW_f (k := k) hk (turns8 (m := ws.length) (by rw [B.len]; omega) (by rw [B.len]; omega) (by omega) B.el) c1 (valid_has B.val)
          obtain ⟨t2, w2, g2, r1, r2, r3, r4⟩ := meanW_f (k := k) hk (turns8 (m := ws.length) (by rw [ol]; omega) (by rw [ol]; omega) (by omega) oel) c1 (valid_has ov)
          rw [impl_Shares_f hk hl, Option.bind_some, impl_Turns_f hk (by have := sharesW_len ws N; omega), Option.bind_some]
          simp only
          rw [p4, Option.bind_some, r4, Option.bind_some, if_pos hs, if_pos d0]
          simp only
          rw [if_pos trivial, if_pos trivial]
          rw [B.len] at p3
          rw [ol] at r3
          rw [← B.sm] at p2
          have wb := wsum_bnd (cs := (dealtS (sharesW ws N).1).1) (by omega) W.w100 (valid_has ov)
          have nb : 0 ≤ (N : Int) * tot ws ∧ (N : Int) * tot ws ≤ 8 * 800 := ⟨Int.mul_nonneg (by omega) htot.1, Int.mul_le_mul (by omega) (by omega) htot.1 (by omega)⟩
          have bnd : ∀ {g x S : Int}, 1 ≤ g → g * x = S → 0 ≤ S → 0 ≤ x ∧ x ≤ S := by
            intro g x S hg he hS
            have x0 : 0 ≤ x := by
              by_cases c : 0 ≤ x
              · exact c
              · have := Int.mul_le_mul_of_nonneg_left (show x ≤ -1 by omega) (show 0 ≤ g by omega)
                omega
            have := Int.mul_le_mul_of_nonneg_right hg x0
            exact ⟨x0, by omega⟩
          have q1 := bnd p1 p2 b3.1
          have q2 := bnd p1 p3 nb.1
          have q3 := bnd r1 r2 wb.1
          have q4 := bnd r1 r3 nb.1
          have z1 : 0 ≤ t1 * w2 ∧ t1 * w2 ≤ 100000000 * 10000 := ⟨Int.mul_nonneg q1.1 q4.1, Int.mul_le_mul (by omega) (by omega) q4.1 (by omega)⟩
          have z2 : 0 ≤ t2 * w1 ∧ t2 * w1 ≤ 100000000 * 10000 := ⟨Int.mul_nonneg q3.1 q2.1, Int.mul_le_mul (by omega) (by omega) q2.1 (by omega)⟩
          rw [w64 (by omega) (by omega), w64 (by omega) (by omega)]
          congr 1
          refine decide_eq_true ?_
          have le : (g1 * t1) * (g2 * w2) ≤ (g2 * t2) * (g1 * w1) := by
            rw [p2, r3, r2, p3]
            exact Int.mul_le_mul_of_nonneg_right b3.2 nb.1
          have gp : 0 < g1 * g2 := Int.mul_pos (by omega) (by omega)
          refine Int.le_of_mul_le_mul_left ?_ gp
          have e1 : g1 * g2 * (t1 * w2) = (g1 * t1) * (g2 * w2) := by grind
          have e2 : g1 * g2 * (t2 * w1) = (g2 * t2) * (g1 * w1) := by grind
          rw [e1, e2]; exact le
      · rw [if_neg hn] at h0; cases h0
    · rw [if_neg c] at h0; cases h0
  · rw [if_neg h0]
    have : (bestR ws n).1 = [] := by
      unfold bestR at h0 ⊢
      by_cases c : wokB ws = true
      · rw [if_pos c] at h0 ⊢
        by_cases hn : 1 ≤ n ∧ n ≤ 8
        · rw [if_pos hn] at h0 ⊢
          by_cases e : n < ws.length
          · rw [if_pos e]
          · rw [if_neg e] at h0; exact absurd rfl h0
        · rw [if_neg hn]
      · rw [if_neg c]
    rw [this]; rfl

theorem l1_ok {k : Nat} {ws gl best giv trn : List Int} {n sl code ec : Int} {r0 : List Int → Int → List Int → Int → List Int → List Int → Int → Int → Option Bool} {i : Nat} (hi : i < giv.length) (hg : giv.length ≤ 1000) (ht : trn.length ≤ 1000) (hc : (cntI trn i : Int) = rd giv i) :
    ∀ (d j m : Nat), j + d = trn.length → d < m → laws_FnWeightedTurns.l1 k r0 m ws n best code giv trn ec i (cntI (trn.take j) i : Nat) j = r0 ws n best code giv trn ec ((i + 1 : Nat) : Int) := by
  intro d
  induction d with
  | zero =>
    intro j m hd hm
    cases m with
    | zero => omega
    | succ m =>
      simp only [laws_FnWeightedTurns.l1, laws_FnWeightedTurns.s1]
      rw [List.take_of_length_le (by omega), if_neg (by omega), if_pos (by omega), if_pos (by omega), if_pos hc, w64n (by omega)]
  | succ d ih =>
    intro j m hd hm
    cases m with
    | zero => omega
    | succ m =>
      simp only [laws_FnWeightedTurns.l1, laws_FnWeightedTurns.s1]
      have e : trn.take (j + 1) = trn.take j ++ [rd trn j] := by rw [rd_lt (by omega)]; exact List.take_succ_eq_append_getElem (by omega)
      have ih := ih (j + 1) m (by omega) (by omega)
      rw [e, cntI_app] at ih
      have b : cntI (trn.take j) i ≤ 1000 := Nat.le_trans List.countP_le_length (by rw [List.length_take]; omega)
      rw [if_pos (by omega), if_pos (by omega), if_pos (by omega), w64n (i := j) (by omega)]
      by_cases c : rd trn j = (i : Int)
      · rw [if_pos c, w64n (by omega)]
        rw [if_pos c] at ih
        exact ih
      · rw [if_neg c]
        rw [if_neg c] at ih
        exact ih

theorem l0_okW {k : Nat} {ws best giv trn : List Int} {n code ec : Int} (hk : 2097152 ≤ k) (hg : giv.length ≤ 1000) (hgs : ∀ x ∈ giv, 1 ≤ x ∧ x ≤ 120) (ht : trn.length ≤ 1000) (hc : ∀ i : Nat, i < giv.length → (cntI trn i : Int) = rd giv i) (he : ec = 0) (hs : giv.sum = trn.length) (ge : gE k ws n best code = some true) :
    ∀ (d i m : Nat), i + d = giv.length → d < m → laws_FnWeightedTurns.l0 k m ws n best code giv trn ec i = some true := by
  intro d
  induction d with
  | zero =>
    intro i m hd hm
    cases m with
    | zero => omega
    | succ m =>
      simp only [laws_FnWeightedTurns.l0, laws_FnWeightedTurns.s0]
      rw [if_neg (by omega), if_pos he, sumW_f hk hg (fun x hx => by have := hgs x hx; omega), Option.bind_some, if_pos hs]
      exact ge
  | succ d ih =>
    intro i m hd hm
    cases m with
    | zero => omega
    | succ m =>
      simp only [laws_FnWeightedTurns.l0, laws_FnWeightedTurns.s0]
      have e := l1_ok (k := k) (ws := ws) (gl := []) (best := best) (n := n) (sl := 0) (code := code) (ec := ec) (r0 := laws_FnWeightedTurns.l0 k m) (i := i) (by omega) hg ht (hc i (by omega)) trn.length 0 k (by omega) (by omega)
      rw [List.take_zero, show cntI [] (i : Int) = 0 from rfl, Int.natCast_zero] at e
      rw [if_pos (by omega), e]
      exact ih (i + 1) m (by omega) (by omega)

theorem law_FnWeightedTurns {k : Nat} {l : List Int} (hK : 1125899906842624 ≤ k) (hb : ∀ x ∈ l, 0 ≤ x ∧ x ≤ 255) : laws_FnWeightedTurns.f k l = some true := by
  have hk : 2097152 ≤ k := by omega
  unfold laws_FnWeightedTurns.f laws_FnWeightedTurns.g laws_big.f
  rw [Option.bind_some]
  by_cases hbig : 4096 < (l.length : Int)
  · rw [if_pos (decide_eq_true hbig)]
  rw [if_neg (by simpa using hbig)]
  have hl : l.length ≤ 4096 := by omega
  obtain ⟨⟨ws, n⟩, e1, h1⟩ := drawBest_ok hk hb hl
  obtain ⟨⟨wl, sl⟩, e2, h2⟩ := drawShares_ok hk hb hl
  obtain ⟨giv, e3, h3⟩ := drawTurnsS_ok hk hb hl
  simp only at h1 h2
  have bl := best_len ws n
  have wlen := sharesW_len wl sl
  have dl := dealt_len (s := giv)
  obtain ⟨em, em1, em2, em3⟩ := even_both hK (s := giv) (by omega)
  have ge := gE_ok (k := k) (ws := ws) (n := n) hk (by omega)
  rw [e1, Option.bind_some]
  simp only
  rw [impl_Best_f hk (by omega), Option.bind_some, spec_Best_f hk (by omega), Option.bind_some, if_pos rfl, likeIntsW hk (by omega), Option.bind_some, if_pos rfl, e2, Option.bind_some]
  simp only
  rw [impl_Shares_f hk (by omega), Option.bind_some, spec_Shares_f hk (by omega), Option.bind_some, if_pos rfl, likeIntsW hk (by omega), Option.bind_some, if_pos rfl, e3, Option.bind_some, impl_Turns_f hk (by omega), Option.bind_some, spec_Turns_f hk (by omega), Option.bind_some, if_pos rfl, likeIntsW hk (by omega), Option.bind_some, if_pos rfl, em2, em1, Option.bind_some, Option.bind_some, if_pos rfl, if_pos rfl, if_pos rfl]
  have rest : (if (dealtS giv).2 = 0 then laws_FnWeightedTurns.l0 k k ws n (bestR ws n).1 (bestR ws n).2 giv (dealtS giv).1 em.2.2 0 else gE k ws n (bestR ws n).1 (bestR ws n).2) = some true := by
    by_cases c : sharesOk giv = true
    · have S := sharesOk_iff.1 c
      obtain ⟨d0, d1, d2, d3⟩ := dealt_ok S
      rw [if_pos d0]
      have := l0_okW (k := k) (ws := ws) (best := (bestR ws n).1) (n := n) (code := (bestR ws n).2) (ec := em.2.2) hk (by omega) S.el (by omega) d1 (em3.2 c) d3.symm ge giv.length 0 k (by omega) (by omega)
      rw [Int.natCast_zero] at this
      exact this
    · have : (dealtS giv).2 = 2 := by unfold dealtS; rw [if_neg c]
      rw [if_neg (by omega)]
      exact ge
  by_cases h0 : (sharesW wl sl).2 = 0
  · obtain ⟨s1, s2, s3⟩ := sharesW_ok h0
    rw [if_pos h0, sumW_f hk (by omega) (fun x hx => by have := s3.el x hx; omega), Option.bind_some, if_pos s2, if_pos (by omega)]
    exact rest
  · rw [if_neg h0]
    exact rest

end Go.Proofs.Ytmgdobiloapelaa.Vf
