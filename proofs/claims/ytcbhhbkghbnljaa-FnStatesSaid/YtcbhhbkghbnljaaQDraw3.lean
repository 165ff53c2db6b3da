/- Draws of states. -/
import Derived.Test.YtcbhhbkghbnljaaQDraw2
import Derived.Test.YtcbhhbkghbnljaaQ02k
set_option linter.unusedVariables false
set_option linter.unusedSimpArgs false
namespace Go.Proofs.Ytcbhhbkghbnljaa.Vf
open Go Go.V Go.RowKit

def l02Table : List (List Int) := [[1], [2, 2], [2, 3], [2, 4, 4], [3, 3, 3], [2, 3, 6], [3, 4, 4], [3, 4, 5], [2, 5, 6], [4, 4, 4, 4], [3, 4, 6, 6], [2, 4, 8, 8], [1, 2], [3, 5, 5, 5], [4, 5, 5, 5], [2, 6, 7]]
theorem l02Table_len : ∀ l ∈ l02Table, 1 ≤ l.length ∧ l.length ≤ 8 := by decide

theorem l02DrawOf_ok {k : Nat} (hk : 2097152 ≤ k) {s : SrcT} (S : Src s) : Gv (spec_l02DrawOf.f k s) fun r => Src r.2 ∧ 1 ≤ r.1.length ∧ r.1.length ≤ 8 := by
  unfold spec_l02DrawOf.f
  refine Gv.bind (next_ok S 16) fun r hr => ?_
  obtain ⟨h0, h1⟩ := hr.2.2 (by omega)
  refine Gv.pos h0 (Gv.pos h1 ?_)
  obtain ⟨l, hl⟩ : ∃ l, l = rdOf ([] : List Int) l02Table r.1 := ⟨_, rfl⟩
  have hl2 : 1 ≤ l.length ∧ l.length ≤ 8 := by
    obtain ⟨j, hj⟩ := Int.eq_ofNat_of_zero_le h0
    have hlt : j < l02Table.length := by show j < 16; omega
    rw [hl, hj, rdOf_lt hlt]
    exact l02Table_len _ (List.getElem_mem hlt)
  show Gv ((spec_l01Own.f (rdOf ([] : List Int) l02Table r.1)).bind _) _
  rw [← hl, own_ok l (by omega), Option.bind_some]
  refine Gv.bind (next_ok hr.1 4) fun q hq => Gv.ite (fun _ => ?_) fun _ => ?_
  · unfold spec_l01K.f
    rw [Option.bind_some]
    refine Gv.bind (next_ok hq.1 _) fun p hp => ?_
    obtain ⟨g0, g1⟩ := hp.2.2 (by omega)
    refine Gv.pos g0 (Gv.pos g1 (Gv.bind (next_ok hp.1 3) fun a ha => Gv.pos g0 (Gv.pos g1 (Gv.bind (next_ok ha.1 24) fun b hb => Gv.ite (fun _ => ?_) fun _ => ?_))))
    · exact Gv.bind (draw_ok' hk hb.1) fun z hz => Gv.ok hz
    · exact Gv.ok ⟨hb.1, by simp; omega, by simp; omega⟩
  · refine Gv.bind (next_ok hq.1 24) fun b hb => Gv.ite (fun _ => ?_) fun _ => ?_
    · exact Gv.bind (draw_ok' hk hb.1) fun z hz => Gv.ok hz
    · exact Gv.ok ⟨hb.1, hl2.1, hl2.2⟩

theorem l02Draw_ok {k : Nat} (hk : 2097152 ≤ k) {c : List Int} (hb : ∀ x ∈ c, 0 ≤ x ∧ x ≤ 255) (hl : c.length ≤ 4096) : Gv (spec_l02Draw.f k c) fun r => r.length ≤ 1009 := by
  unfold spec_l02Draw.f
  refine Gv.bind (from_ok hk hb hl) fun s S => Gv.bind (l02DrawOf_ok hk S) fun r hr => Gv.bind (bad_ok hk hr.1 hr.2.1 (by omega)) fun q hq => Gv.ok hq.2

theorem l02With_ok {k : Nat} (hk : 2097152 ≤ k) {c : List Int} (hb : ∀ x ∈ c, 0 ≤ x ∧ x ≤ 255) (hl : c.length ≤ 4096) : Gv (spec_l02With.f k c) fun r => r.1.length ≤ 1009 ∧ r.2.length ≤ 1009 := by
  unfold spec_l02With.f spec_l02With.g
  refine Gv.bind (from_ok hk hb hl) fun s S => Gv.bind (l02DrawOf_ok hk S) fun r hr => Gv.bind (next_ok hr.1 3) fun q hq => ?_
  have key : ∀ (d i n : Nat) (out : List Int) (x : Int) (s : SrcT), Src s → r.1.length - i = d → i ≤ r.1.length → out.length = i → d < n → Gv (spec_l02With.l0 k n s.1 s.2.1 s.2.2 r.1 out x (i : Int)) fun r => r.1.length ≤ 1009 ∧ r.2.length ≤ 1009 := by
    intro d
    induction d with
    | zero =>
      intro i n out x s S hd hi ho hn
      cases n with
      | zero => omega
      | succ n =>
        simp only [spec_l02With.l0, spec_l02With.s0]
        refine Gv.neg (by omega) (Gv.bind (next_ok S 24) fun a ha => Gv.ite (fun _ => ?_) fun _ => Gv.ite (fun _ => Gv.pos (by omega) ?_) fun _ => ?_)
        · exact Gv.bind (pick_ok ha.1 _ (by simp)) fun b hb => Gv.pos (by omega) (Gv.bind (bad_ok hk hb.1 hr.2.1 (by omega)) fun z hz => Gv.ok ⟨hz.2, by simp; omega⟩)
        · exact Gv.bind (bad_ok hk ha.1 hr.2.1 (by omega)) fun z hz => Gv.ok ⟨hz.2, by simp; omega⟩
        · exact Gv.bind (bad_ok hk ha.1 hr.2.1 (by omega)) fun z hz => Gv.ok ⟨hz.2, by simp only; omega⟩
    | succ d ih =>
      intro i n out x s S hd hi ho hn
      cases n with
      | zero => omega
      | succ n =>
        simp only [spec_l02With.l0, spec_l02With.s0]
        rw [w64n (by omega)]
        refine Gv.pos (by omega) (Gv.ite (fun _ => ?_) fun _ => ?_)
        · exact Gv.pos (by omega) (Gv.pos (by omega) (Gv.bind (next_ok S 2) fun a ha => Gv.pos (by omega) (Gv.pos (by omega) (Gv.pos (by omega) (ih (i + 1) n _ x _ ha.1 (by omega) (by omega) (by simp; omega) (by omega))))))
        · exact Gv.pos (by omega) (Gv.pos (by omega) (Gv.bind (next_ok S _) fun a ha => Gv.pos (by omega) (ih (i + 1) n _ x _ ha.1 (by omega) (by omega) (by simp; omega) (by omega))))
  exact key r.1.length 0 k [] q.1 q.2 hq.1 (by omega) (by omega) (by simp) (by omega)

theorem drawStepState_ok {k : Nat} (hk : 2097152 ≤ k) {c : List Int} (hb : ∀ x ∈ c, 0 ≤ x ∧ x ≤ 255) (hl : c.length ≤ 4096) : Gv (spec_DrawStepState.f k c) fun r => r.1.length ≤ 1009 ∧ r.2.1.length ≤ 1009 := by
  unfold spec_DrawStepState.f
  refine Gv.bind (from_ok hk hb hl) fun s S => Gv.bind (l02With_ok hk hb hl) fun r hr => Gv.bind (near_ok S 8) fun q hq => Gv.bind (pick_ok hq _ (by simp)) fun p hp => Gv.ok hr

theorem drawFirstKept_ok {k : Nat} (hk : 2097152 ≤ k) {c : List Int} (hb : ∀ x ∈ c, 0 ≤ x ∧ x ≤ 255) (hl : c.length ≤ 4096) : Gv (spec_DrawFirstKept.f k c) fun r => r.1.length ≤ 1009 ∧ r.2.1.length ≤ 1009 ∧ r.2.2.length ≤ 1009 := by
  have key1 : ∀ (G T : List Int), G.length ≤ 1009 → T.length ≤ 1009 → ∀ (d n : Nat) (out : List Int) (s : SrcT), Src s → out.length + d ≤ 1009 → d < n → Gv (spec_DrawFirstKept.l1 k n s.1 s.2.1 s.2.2 G T out (d : Int)) fun r => r.1.length ≤ 1009 ∧ r.2.1.length ≤ 1009 ∧ r.2.2.length ≤ 1009 := by
    intro G T hG hT d
    induction d with
    | zero =>
      intro n out s S ho hn
      cases n with
      | zero => omega
      | succ n =>
        simp only [spec_DrawFirstKept.l1, spec_DrawFirstKept.s1]
        exact Gv.neg (by omega) (Gv.ok ⟨hG, hT, by simp only; omega⟩)
    | succ d ih =>
      intro n out s S ho hn
      cases n with
      | zero => omega
      | succ n =>
        simp only [spec_DrawFirstKept.l1, spec_DrawFirstKept.s1]
        rw [show wrap64 (((d + 1 : Nat) : Int) - 1) = (d : Int) by rw [w64 (by omega) (by omega)]; omega]
        exact Gv.pos (by omega) (Gv.bind (next_ok S 4) fun a ha => Gv.pos (by omega) (ih n _ _ ha.1 (by simp; omega) (by omega)))
  have tail : ∀ (G T out : List Int) (s : SrcT), Src s → G.length ≤ 1009 → T.length ≤ 1009 → out.length ≤ 100 → Gv ((spec_l01Next.f s 3).bind fun t14 => spec_DrawFirstKept.l1 k k t14.2.1 t14.2.2.1 t14.2.2.2 G T out t14.1) fun r => r.1.length ≤ 1009 ∧ r.2.1.length ≤ 1009 ∧ r.2.2.length ≤ 1009 := by
    intro G T out s S hG hT ho
    refine Gv.bind (next_ok S 3) fun a ha => ?_
    have := ha.2.2 (by omega)
    obtain ⟨d, hd⟩ := Int.eq_ofNat_of_zero_le this.1
    rw [hd]
    exact key1 G T hG hT d k out a.2 ha.1 (by omega) (by omega)
  have key0 : ∀ (G T : List Int), isT G = true → cnt G ≤ 4000 → G.length ≤ 1009 → T.length ≤ 1009 → ∀ (d n : Nat) (out st : List Int) (s : SrcT), Src s → Stt G st → out.length + d ≤ 100 → d < n → Gv (spec_DrawFirstKept.l0 k n s.1 s.2.1 s.2.2 G T out (lasting G) st (d : Int)) fun r => r.1.length ≤ 1009 ∧ r.2.1.length ≤ 1009 ∧ r.2.2.length ≤ 1009 := by
    intro G T hT hc hG hTl d
    induction d with
    | zero =>
      intro n out st s S hst ho hn
      cases n with
      | zero => omega
      | succ n =>
        simp only [spec_DrawFirstKept.l0, spec_DrawFirstKept.s0]
        exact Gv.neg (by omega) (tail G T out s S hG hTl (by omega))
    | succ d ih =>
      intro n out st s S hst ho hn
      cases n with
      | zero => omega
      | succ n =>
        simp only [spec_DrawFirstKept.l0, spec_DrawFirstKept.s0]
        rw [show wrap64 (((d + 1 : Nat) : Int) - 1) = (d : Int) by rw [w64 (by omega) (by omega)]; omega]
        refine Gv.pos (by omega) ?_
        rw [l02Keeping_f hk hT (lasting_len hT hc) hst, Option.bind_some]
        refine Gv.ite (fun _ => tail G T out s S hG hTl (by omega)) fun hne => Gv.bind (next_ok S _) fun a ha => ?_
        obtain ⟨g0, g1⟩ := ha.2.2 (by omega)
        obtain ⟨j, hj⟩ := Int.eq_ofNat_of_zero_le g0
        refine Gv.pos g0 (Gv.pos g1 (Gv.pos (by omega) ?_))
        rw [l02Step_f hk hT hst, Option.bind_some]
        have hm : rd (keep G (lasting G) (num G st)) a.1 ∈ keep G (lasting G) (num G st) := by
          rw [hj]; exact rd_mem (by omega)
        have hgood := (List.mem_filter.1 hm).2
        unfold goodC at hgood
        rw [ofN_num (isT_gp hT) hst] at hgood
        cases hs : step G st (rd (keep G (lasting G) (num G st)) a.1) with
        | none => rw [hs] at hgood; cases hgood
        | some U =>
          exact ih n _ U a.2 ha.1 (step_st (isT_gp hT) hst hs) (by simp; omega) (by omega)
  unfold spec_DrawFirstKept.f spec_DrawFirstKept.g
  refine Gv.bind (from_ok hk hb hl) fun s S => Gv.bind (l02With_ok hk hb hl) fun r hr => ?_
  rw [l02Given_f hk (by omega) (by omega), Option.bind_some]
  refine Gv.ite (fun hg => Gv.bind (next_ok S 3) fun q hq => Gv.ite (fun _ => ?_) fun _ => tail r.1 r.2 [] q.2 hq.1 hr.1 hr.2 (by simp)) fun _ => tail r.1 r.2 [] s S hr.1 hr.2 (by simp)
  obtain ⟨g1, g2, g3⟩ := given_zero hg
  rw [l02Lasting_f hk g1 g3, Option.bind_some]
  refine Gv.bind (next_ok hq.1 10) fun p hp => ?_
  have := hp.2.2 (by omega)
  obtain ⟨d, hd⟩ := Int.eq_ofNat_of_zero_le this.1
  rw [hd]
  exact key0 r.1 r.2 g1 g3 hr.1 hr.2 d k [] r.2 p.2 hp.1 g2 (by simp; omega) (by omega)

end Go.Proofs.Ytcbhhbkghbnljaa.Vf
