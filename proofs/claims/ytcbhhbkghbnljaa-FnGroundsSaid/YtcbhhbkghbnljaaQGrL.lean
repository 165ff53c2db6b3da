/- Pure: lines, rings and stars have their rounds, distances are mutual, and rounds serve equal gaps of their length. Conditions: as each theorem states. My own. -/
import Derived.Test.YtcbhhbkghbnljaaQGrH
set_option linter.unusedVariables false
set_option linter.unusedSimpArgs false
namespace Go.Proofs.Ytcbhhbkghbnljaa.Vf
open Go Go.V Go.RowKit

/-! ### Draws -/

theorem l09Draw_ok {k : Nat} (hk : 2097152 ≤ k) {s : SrcT} (S : Src s) : Gv (spec_l09Draw.f k s) fun r => Src r.2.2 := by
  unfold spec_l09Draw.f
  refine Gv.bind (next_ok S 6) fun a ha => ?_
  have b := ha.2.2 (by omega)
  obtain ⟨m, hm⟩ := Int.eq_ofNat_of_zero_le b.1
  rw [hm] at b
  rw [hm, show wrap64 (1 + ((m : Nat) : Int)) = ((m + 1 : Nat) : Int) by rw [w64 (by omega) (by omega)]; omega]
  exact Gv.bind (l09DrawOf_ok hk ha.1 (by omega) (by omega)) fun r hr => Gv.ok hr.1

theorem drawLine_ok {k : Nat} (hk : 2097152 ≤ k) {c : List Int} (hb : ∀ x ∈ c, 0 ≤ x ∧ x ≤ 255) (hl : c.length ≤ 4096) : Gv (spec_DrawLineGround.f k c) fun _ => True := by
  unfold spec_DrawLineGround.f
  exact Gv.bind (from_ok hk hb hl) fun s S => Gv.bind (drawNear_ok S _) fun a ha => Gv.ok trivial

theorem drawDist_ok {k : Nat} (hk : 2097152 ≤ k) {c : List Int} (hb : ∀ x ∈ c, 0 ≤ x ∧ x ≤ 255) (hl : c.length ≤ 4096) : Gv (spec_DrawDistancesFrom.f k c) fun _ => True := by
  unfold spec_DrawDistancesFrom.f
  exact Gv.bind (from_ok hk hb hl) fun s S => Gv.bind (l09Draw_ok hk S) fun g hg => Gv.bind (drawNear_ok hg _) fun a ha => Gv.bind (l09Bad_ok ha _ _) fun b _ => Gv.ok trivial

theorem drawNears_ok {k : Nat} (hk : 2097152 ≤ k) {c : List Int} (hb : ∀ x ∈ c, 0 ≤ x ∧ x ≤ 255) (hl : c.length ≤ 4096) : Gv (spec_DrawAreNear.f k c) fun _ => True := by
  unfold spec_DrawAreNear.f
  exact Gv.bind (from_ok hk hb hl) fun s S => Gv.bind (l09Draw_ok hk S) fun g hg => Gv.bind (drawNear_ok hg _) fun a ha => Gv.bind (drawNear_ok ha _) fun a' ha' => Gv.bind (l09Bad_ok ha' _ _) fun b _ => Gv.ok trivial

theorem drawLeg_ok {k : Nat} (hk : 2097152 ≤ k) {c : List Int} (hb : ∀ x ∈ c, 0 ≤ x ∧ x ≤ 255) (hl : c.length ≤ 4096) : Gv (spec_DrawLeastEqualGap.f k c) fun _ => True := by
  unfold spec_DrawLeastEqualGap.f
  refine Gv.bind (from_ok hk hb hl) fun s S => Gv.bind (pick_ok S _ (by simp)) fun a ha => Gv.bind (next_ok ha.1 _) fun b hb' => ?_
  have a1 : 3 ≤ a.1 ∧ a.1 ≤ 5 := by
    have := ha.2
    simp only [List.mem_cons, List.not_mem_nil, or_false] at this
    omega
  have b1 := hb'.2.2 (by omega)
  obtain ⟨m, hm⟩ := Int.eq_ofNat_of_zero_le b1.1
  rw [hm] at b1
  rw [hm, show wrap64 (1 + ((m : Nat) : Int)) = ((m + 1 : Nat) : Int) by rw [w64 (by omega) (by omega)]; omega]
  refine Gv.bind (l09DrawOf_ok hk hb'.1 (by omega) (by omega)) fun g hg => Gv.bind (drawNear_ok hg.1 _) fun x hx => Gv.ite (fun _ => ?_) fun _ => ?_
  · exact Gv.bind (drawNear_ok hx _) fun y hy => Gv.bind (l09Bad_ok hy _ _) fun z _ => Gv.ok trivial
  · exact Gv.bind (l09Bad_ok hx _ _) fun z _ => Gv.ok trivial

/-! ### The law -/

noncomputable def gN (k : Nat) (l0 : List Int) : Option Bool := ((spec_DrawAreNear.f k l0).bind fun t45 => (impl_AreNear.f t45.1 t45.2.1 t45.2.2.1 t45.2.2.2).bind fun t46 => (spec_AreNear.f k t45.1 t45.2.1 t45.2.2.1 t45.2.2.2).bind fun t47 => if t46.2 = t47.2 then (some (decide (t46.1 = t47.1))) else (some false))

noncomputable def gT (k : Nat) (l0 : List Int) : Option Bool := ((spec_DrawLeastEqualGap.f k l0).bind fun t40 => (impl_LeastEqualGap.f k t40.1 t40.2.1 t40.2.2).bind fun t41 => (spec_LeastEqualGap.f k t40.1 t40.2.1 t40.2.2).bind fun t42 => (impl_ShortestRound.f k t40.1 t40.2.1).bind fun t43 => (spec_ShortestRound.f k t40.1 t40.2.1).bind fun t44 => if t41.2 = t42.2 then (if t41.1 = t42.1 then (if t43.2 = t44.2 then (if t43.1 = t44.1 then (if t43.2 = 0 then (if t41.2 = 3 then (gN k l0) else (if t41.2 = 2 then (gN k l0) else (if (maxV t43.1 1) ≤ t40.2.2 then (if t41.2 = 0 then (if (maxV t43.1 1) < t41.1 then (some false) else (gN k l0)) else (some false)) else (gN k l0)))) else (gN k l0)) else (some false)) else (some false)) else (some false)) else (some false))

noncomputable def gD (k : Nat) (l0 : List Int) : Option Bool := ((spec_DrawDistancesFrom.f k l0).bind fun t12 => (impl_DistancesFrom.f k t12.1 t12.2.1 t12.2.2).bind fun t13 => (spec_DistancesFrom.f k t12.1 t12.2.1 t12.2.2).bind fun t14 => if t13.2 = t14.2 then ((laws_likeInts.f k t13.1 t14.1).bind fun t15 => if t15 = true then ((impl_IsGround.f t12.1 t12.2.1).bind fun t16 => (spec_IsGround.f t12.1 t12.2.1).bind fun t17 => if t16 = t17 then (if t13.2 = 0 then (laws_FnGrounds.l0 k k l0 t12.1 t12.2.1 t12.2.2 t13.1 (t13.1.length : Int) 0) else (gT k l0)) else (some false)) else (some false)) else (some false))

theorem gN_ok {k : Nat} {l : List Int} (hk : 2097152 ≤ k) (hb : ∀ x ∈ l, 0 ≤ x ∧ x ≤ 255) (hl : l.length ≤ 4096) : gN k l = some true := by
  obtain ⟨⟨p, r, a, b⟩, e, _⟩ := drawNears_ok hk hb hl
  unfold gN
  rw [e, Option.bind_some]
  simp only
  rw [impl_Near_f, spec_Near_f hk, Option.bind_some, Option.bind_some, if_pos rfl, decide_eq_true rfl]

theorem gT_ok {k : Nat} {l : List Int} (hk : 2097152 ≤ k) (hb : ∀ x ∈ l, 0 ≤ x ∧ x ≤ 255) (hl : l.length ≤ 4096) : gT k l = some true := by
  obtain ⟨⟨p, r, m⟩, e, _⟩ := drawLeg_ok hk hb hl
  have gn := gN_ok hk hb hl
  unfold gT
  rw [e, Option.bind_some]
  simp only
  rw [(leg_both hk).2, (leg_both hk).1, impl_Round_f hk, spec_Round_f hk, gn]
  simp only [Option.bind_some, if_true]
  by_cases h0 : (roundR p r).2 = 0
  · rw [if_pos h0]
    by_cases h3 : (legR p r m).2 = 3
    · rw [if_pos h3]
    · rw [if_neg h3]
      by_cases h2 : (legR p r m).2 = 2
      · rw [if_pos h2]
      · rw [if_neg h2]
        by_cases hm : maxV (roundR p r).1 1 ≤ m
        · obtain ⟨q1, q2⟩ := leg_round h0 h3 h2 hm
          rw [if_pos hm, if_pos q1, if_neg q2]
        · rw [if_neg hm]
  · rw [if_neg h0]

theorem l0_ok {k n i : Nat} {r : Int} {l : List Int} (hk : 2097152 ≤ k) (h1 : 1 ≤ n) (h6 : n ≤ 6) (hg : isGr n r = true) (hi : i < n) (gt : gT k l = some true) : ∀ (d j m : Nat), j + d = n → d < m →
    laws_FnGrounds.l0 k m l n r i (dst (nrV r) n i) n j = some true := by
  have hil := dst_len (nr := nrV r) hi
  intro d
  induction d with
  | zero =>
    intro j m hd hm
    cases m with
    | zero => omega
    | succ m =>
      simp only [laws_FnGrounds.l0, laws_FnGrounds.s0]
      rw [if_neg (by omega)]
      exact gt
  | succ d ih =>
    intro j m hd hm
    cases m with
    | zero => omega
    | succ m =>
      have hj : j < n := by omega
      have ih := ih (j + 1) m (by omega) (by omega)
      have hjl := dst_len (nr := nrV r) hj
      simp only [laws_FnGrounds.l0, laws_FnGrounds.s0]
      have e1 : distR n r j = (dst (nrV r) n j, 0) := by
        unfold distR
        rw [if_pos hg, if_pos (by omega)]; rfl
      have e2 : nearR n r i j = (nrV r i j, 0) := by
        unfold nearR
        rw [if_pos hg, if_pos (by omega)]; rfl
      have sy : rd (dst (nrV r) n j) (i : Int) = dis (nrV r) n i j := by
        rw [rd_dst]; exact dis_sym (nrV_sym h6 r) hj hi
      have nr := dis_near (nr := nrV r) (fun a _ => nrV_self r a) hi hj
      rw [if_pos (by omega), impl_Dist_f hk, impl_Near_f, Option.bind_some, Option.bind_some, e1, e2, w64n (by omega), ih]
      simp only
      rw [sy, show rd (dst (nrV r) n i) (j : Int) = dis (nrV r) n i j from rd_dst, if_pos trivial, if_pos trivial, if_pos (by omega), if_pos (by omega), if_pos (by omega), if_pos (by omega), if_pos (by omega), if_pos rfl, if_pos (by omega), if_pos (by omega)]
      by_cases c0 : dis (nrV r) n i j = 0
      · rw [if_pos c0, if_pos (nr.2 (Or.inl c0))]
      · rw [if_neg c0, if_pos (by omega), if_pos (by omega)]
        by_cases c1 : dis (nrV r) n i j = 1
        · rw [decide_eq_true c1, if_pos (nr.2 (Or.inr c1))]
        · rw [decide_eq_false c1, if_pos (by
            cases h : nrV r i j with
            | false => rfl
            | true => exact absurd (nr.1 h) (fun x => x.elim c0 c1))]

theorem gD_ok {k : Nat} {l : List Int} (hk : 2097152 ≤ k) (hb : ∀ x ∈ l, 0 ≤ x ∧ x ≤ 255) (hl : l.length ≤ 4096) : gD k l = some true := by
  obtain ⟨⟨p, r, i⟩, e, _⟩ := drawDist_ok hk hb hl
  have gt := gT_ok hk hb hl
  obtain ⟨g1, g2, g3⟩ := ground_ok p r
  have hlen : (distR p r i).1.length ≤ 1048576 := by
    unfold distR
    by_cases hg : isGr p r = true
    · have hp := g3 hg
      rw [if_pos hg]
      by_cases hi : 0 ≤ i ∧ i ≤ p - 1
      · rw [if_pos hi]
        show (dst _ _ _).length ≤ _
        rw [dst_len (by omega)]; omega
      · rw [if_neg hi]; simp
    · rw [if_neg hg]; simp
  unfold gD spec_IsGround.f
  rw [e, Option.bind_some]
  simp only
  rw [impl_Dist_f hk, spec_Dist_f hk, Option.bind_some, Option.bind_some, if_pos rfl, likeInts_self hk hlen, Option.bind_some, if_pos rfl, g1, g2]
  simp only [Option.bind_some, if_true]
  by_cases h0 : (distR p r i).2 = 0
  · rw [if_pos h0]
    unfold distR at h0 ⊢
    by_cases hg : isGr p r = true
    · have hp := g3 hg
      rw [if_pos hg] at h0 ⊢
      by_cases hi : 0 ≤ i ∧ i ≤ p - 1
      · rw [if_pos hi]
        obtain ⟨n, rfl⟩ := Int.eq_ofNat_of_zero_le (show 0 ≤ p by omega)
        obtain ⟨j, rfl⟩ := Int.eq_ofNat_of_zero_le hi.1
        simp only [Int.toNat_natCast]
        rw [dst_len (by omega)]
        have := l0_ok (k := k) (l := l) hk (show 1 ≤ n by omega) (by omega) hg (show j < n by omega) gt n 0 k (by omega) (by omega)
        rw [Int.natCast_zero] at this
        exact this
      · rw [if_neg hi] at h0; cases h0
    · rw [if_neg hg] at h0; cases h0
  · rw [if_neg h0]; exact gt

theorem eqG_self (p q : Int) : (!(eqI p p && (eqI q q && true))) = false := by simp [eqI]

theorem law_FnGrounds {k : Nat} {l : List Int} (hk : 2097152 ≤ k) (hb : ∀ x ∈ l, 0 ≤ x ∧ x ≤ 255) : laws_FnGrounds.f k l = some true := by
  unfold laws_FnGrounds.f laws_FnGrounds.g laws_big.f
  rw [Option.bind_some]
  by_cases hbig : 4096 < (l.length : Int)
  · rw [if_pos (decide_eq_true hbig)]
  rw [if_neg (by simpa using hbig)]
  have hl : l.length ≤ 4096 := by omega
  obtain ⟨n, e, _⟩ := drawLine_ok hk hb hl
  have gd := gD_ok hk hb hl
  unfold gD gT gN at gd
  rw [e, Option.bind_some]
  simp only [impl_Line_f hk, spec_Line_f hk, impl_Star_f hk, spec_Star_f hk, impl_Ring_f hk, spec_Ring_f hk, Option.bind_some, eqG_self, if_true, Bool.false_eq_true, if_false]
  simp only [gd]
  by_cases h1 : 1 ≤ n ∧ n ≤ 6
  · obtain ⟨m, rfl⟩ := Int.eq_ofNat_of_zero_le (show 0 ≤ n by omega)
    have el : lineR m = ((m : Int), lineN m, 0) := if_pos h1
    have es : starR m = ((m : Int), starN m, 0) := if_pos h1
    have w : wrap64 (wrap64 (2 * ((m : Nat) : Int)) - 2) = 2 * (m : Int) - 2 := by rw [w64 (x := 2 * ((m : Nat) : Int)) (by omega) (by omega), w64 (by omega) (by omega)]
    rw [el, es]
    simp only
    rw [if_pos trivial, impl_Round_f hk, impl_Round_f hk, line_round (by omega) (by omega), star_round (by omega) (by omega), Option.bind_some, Option.bind_some, w]
    simp only
    rw [if_pos trivial, if_pos trivial, if_pos trivial, if_pos trivial]
    by_cases h3 : 3 ≤ (m : Int) ∧ (m : Int) ≤ 6
    · have er : ringR m = ((m : Int), ringN m, 0) := if_pos h3
      rw [er]
      simp only
      rw [if_pos trivial, impl_Round_f hk, ring_round (by omega) (by omega), Option.bind_some]
      simp only
      rw [if_pos trivial, if_pos trivial]
    · have er : ringR m = (0, 0, 2) := if_neg h3
      rw [er]
      exact if_neg (by decide)
  · have el : lineR n = (0, 0, 2) := if_neg h1
    have er : ringR n = (0, 0, 2) := if_neg (by omega)
    rw [el, er, if_neg (by decide), if_neg (by decide)]

end Go.Proofs.Ytcbhhbkghbnljaa.Vf
