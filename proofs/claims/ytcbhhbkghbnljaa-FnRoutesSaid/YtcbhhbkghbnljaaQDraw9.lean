/- Draws of grounds and routes. -/
import Derived.Test.YtcbhhbkghbnljaaQDraw2
import Derived.Test.YtcbhhbkghbnljaaQ09
set_option linter.unusedVariables false
set_option linter.unusedSimpArgs false
namespace Go.Proofs.Ytcbhhbkghbnljaa.Vf
open Go Go.V Go.RowKit

theorem l09Line_ok {k : Nat} (hk : 2097152 ≤ k) {m : Nat} (h1 : 1 ≤ m) (h2 : m ≤ 6) : Gv (spec_l09Line.f k (m : Int)) fun r => r.1 = m := by
  have key : ∀ (d i n : Nat) (a b r : Int), m - i = d → i ≤ m → 1 ≤ i → d < n → Gv (spec_l09Line.l0 k n (m : Int) a b (m : Int) r (i : Int)) fun r => r.1 = m := by
    intro d
    induction d with
    | zero =>
      intro i n a b r hd hi h0 hn
      cases n with
      | zero => omega
      | succ n =>
        simp only [spec_l09Line.l0, spec_l09Line.s0]
        exact Gv.neg (by omega) (Gv.ok rfl)
    | succ d ih =>
      intro i n a b r hd hi h0 hn
      cases n with
      | zero => omega
      | succ n =>
        simp only [spec_l09Line.l0, spec_l09Line.s0]
        rw [w64n (by omega), w64 (x := (i : Int) - 1) (by omega) (by omega), (road_ok (a := (i : Int) - 1) (b := (i : Int)) (by omega) (by omega) (by omega) (by omega)).1, Option.bind_some]
        exact Gv.pos (by omega) (ih (i + 1) n _ _ _ (by omega) (by omega) (by omega) (by omega))
  unfold spec_l09Line.f spec_l09Line.g
  exact key (m - 1) 1 k _ _ _ (by omega) h1 (by omega) (by omega)

theorem l09Bad_ok {s : SrcT} (S : Src s) (p r : Int) : Gv (spec_l09Bad.f s p r) fun q => Src q.2.2 := by
  unfold spec_l09Bad.f
  refine Gv.bind (next_ok S 40) fun a ha => Gv.ite (fun _ => ?_) fun _ => Gv.ite (fun _ => ?_) fun _ => Gv.ok ha.1
  · exact Gv.bind (pick_ok ha.1 _ (by simp)) fun b hb => Gv.ok hb.1
  · exact Gv.bind (pick_ok ha.1 _ (by simp)) fun b hb => Gv.ok hb.1

theorem drawOf9_l1 {k : Nat} {m : Nat} (h1 : 1 ≤ m) (h2 : m ≤ 6) : ∀ (d n : Nat) (a b r : Int) (s : SrcT), Src s → d ≤ 100 → d < n → Gv (spec_l09DrawOf.l1 k n s.1 s.2.1 s.2.2 (m : Int) a b (m : Int) r (d : Int)) fun r => Src r.2.2 ∧ r.1 = m := by
  intro d
  induction d with
  | zero =>
    intro n a b r s S hd hn
    cases n with
    | zero => omega
    | succ n =>
      simp only [spec_l09DrawOf.l1, spec_l09DrawOf.s1]
      exact Gv.neg (by omega) (Gv.ok ⟨S, rfl⟩)
  | succ d ih =>
    intro n a b r s S hd hn
    cases n with
    | zero => omega
    | succ n =>
      simp only [spec_l09DrawOf.l1, spec_l09DrawOf.s1]
      rw [show wrap64 (((d + 1 : Nat) : Int) - 1) = (d : Int) by rw [w64 (by omega) (by omega)]; omega]
      refine Gv.pos (by omega) (Gv.ite (fun c => ?_) fun c => Gv.ok ⟨S, rfl⟩)
      rw [w64 (x := (m : Int) - 1) (by omega) (by omega)]
      refine Gv.bind (next_ok S _) fun u hu => Gv.bind (next_ok hu.1 _) fun v hv => Gv.neg (by omega) ?_
      have b1 := hu.2.2 (by omega)
      have b2 := hv.2.2 (by omega)
      rw [w64 (x := u.1 + 1) (by omega) (by omega), w64 (x := u.1 + 1 + v.1) (by omega) (by omega), Int.tmod_eq_emod_of_nonneg (by omega)]
      have b3 := Int.emod_nonneg (u.1 + 1 + v.1) (show (m : Int) ≠ 0 by omega)
      have b4 := Int.emod_lt_of_pos (u.1 + 1 + v.1) (show (0 : Int) < m by omega)
      rw [(road_ok (a := u.1) (b := (u.1 + 1 + v.1) % (m : Int)) (by omega) (by omega) (by omega) (by omega)).1, Option.bind_some]
      exact ih n _ _ _ _ hv.1 (by omega) (by omega)

theorem drawOf9_l0 {k : Nat} (hk : 2097152 ≤ k) {m : Nat} (h1 : 1 ≤ m) (h2 : m ≤ 6) : ∀ (d i n : Nat) (a b r : Int) (s : SrcT), Src s → m - i = d → i ≤ m → 1 ≤ i → d < n → Gv (spec_l09DrawOf.l0 k n s.1 s.2.1 s.2.2 (m : Int) a b (m : Int) r (i : Int)) fun r => Src r.2.2 ∧ r.1 = m := by
  intro d
  induction d with
  | zero =>
    intro i n a b r s S hd hi h0 hn
    cases n with
    | zero => omega
    | succ n =>
      simp only [spec_l09DrawOf.l0, spec_l09DrawOf.s0]
      refine Gv.neg (by omega) (Gv.bind (next_ok S 4) fun u hu => ?_)
      have b1 := hu.2.2 (by omega)
      obtain ⟨e, he⟩ := Int.eq_ofNat_of_zero_le b1.1
      rw [he]
      exact drawOf9_l1 h1 h2 e k _ _ _ _ hu.1 (by omega) (by omega)
  | succ d ih =>
    intro i n a b r s S hd hi h0 hn
    cases n with
    | zero => omega
    | succ n =>
      simp only [spec_l09DrawOf.l0, spec_l09DrawOf.s0]
      rw [w64n (by omega)]
      refine Gv.pos (by omega) (Gv.bind (next_ok S _) fun u hu => ?_)
      have b1 := hu.2.2 (by omega)
      rw [(road_ok (a := u.1) (b := (i : Int)) (by omega) (by omega) (by omega) (by omega)).1, Option.bind_some]
      exact ih (i + 1) n _ _ _ _ hu.1 (by omega) (by omega) (by omega) (by omega)

theorem l09DrawOf_ok {k : Nat} (hk : 2097152 ≤ k) {s : SrcT} (S : Src s) {m : Nat} (h1 : 1 ≤ m) (h2 : m ≤ 6) : Gv (spec_l09DrawOf.f k s (m : Int)) fun r => Src r.2.2 ∧ r.1 = m := by
  unfold spec_l09DrawOf.f spec_l09DrawOf.g
  refine Gv.bind (next_ok S 4) fun a ha => Gv.ite (fun _ => ?_) fun _ => Gv.ite (fun _ => ?_) fun _ => ?_
  · exact Gv.bind (l09Line_ok hk h1 h2) fun l hl => Gv.ok ⟨ha.1, hl⟩
  · refine Gv.bind (l09Line_ok hk h1 h2) fun l hl => Gv.ite (fun c => ?_) fun _ => Gv.ok ⟨ha.1, hl⟩
    rw [w64 (by omega) (by omega), (road_ok (a := 0) (b := (m : Int) - 1) (by omega) (by omega) (by omega) (by omega)).1, Option.bind_some]
    exact Gv.ok ⟨ha.1, hl⟩
  · exact drawOf9_l0 hk h1 h2 (m - 1) 1 k _ _ _ _ ha.1 (by omega) h1 (by omega) (by omega)

theorem badTurns_ok {k : Nat} (hk : 2097152 ≤ k) {s : SrcT} (S : Src s) {l : List Int} (h1 : 1 ≤ l.length) (h2 : l.length ≤ 1000) : Gv (spec_l01BadTurns.f k s l) fun r => Src r.2 ∧ r.1.length ≤ 1009 := by
  have key : ∀ (d n : Nat) (out : List Int) (s : SrcT), Src s → out.length ≤ 1009 → 121 - out.length ≤ d → d < n → Gv (spec_l01BadTurns.l0 k n out s.1 s.2.1 s.2.2) fun r => Src r.2 ∧ r.1.length ≤ 1009 := by
    intro d
    induction d with
    | zero =>
      intro n out s S ho hd hn
      cases n with
      | zero => omega
      | succ n =>
        simp only [spec_l01BadTurns.l0, spec_l01BadTurns.s0]
        exact Gv.neg (by omega) (Gv.ok ⟨S, by simp only; omega⟩)
    | succ d ih =>
      intro n out s S ho hd hn
      cases n with
      | zero => omega
      | succ n =>
        simp only [spec_l01BadTurns.l0, spec_l01BadTurns.s0]
        refine Gv.ite (fun c => Gv.pos (by omega) (ih n _ s S (by simp; omega) (by simp; omega) (by omega))) fun c => Gv.ok ⟨S, by simp only; omega⟩
  unfold spec_l01BadTurns.f spec_l01BadTurns.g
  rw [own_ok l (by omega), Option.bind_some]
  refine Gv.bind (next_ok S 40) fun r hr => Gv.ite (fun _ => Gv.ok ⟨hr.1, by simp⟩) fun _ => Gv.ite (fun _ => ?_) fun _ => Gv.ite (fun _ => key 121 k l r.2 hr.1 (by omega) (by omega) (by omega)) fun _ => Gv.ok ⟨hr.1, by simp only; omega⟩
  refine Gv.bind (next_ok hr.1 _) fun q hq => Gv.bind (pick_ok hq.1 _ (by simp)) fun p hp => ?_
  have := hq.2.2 (by omega)
  exact Gv.pos this.1 (Gv.pos this.2 (Gv.ok ⟨hp.1, by simp; omega⟩))

theorem route9_l1 {k : Nat} : ∀ (d n : Nat) (out : List Int) (s : SrcT), Src s → 1 ≤ out.length → d < out.length → out.length + d ≤ 1000 → d < n → Gv (spec_l09DrawRoute.l1 k n out (d : Int) s.1 s.2.1 s.2.2) fun q => Src q.2 ∧ 1 ≤ q.1.length ∧ q.1.length ≤ 1000 := by
  intro d
  induction d with
  | zero =>
    intro n out s S h1 h2 h3 hn
    cases n with
    | zero => omega
    | succ n =>
      simp only [spec_l09DrawRoute.l1, spec_l09DrawRoute.s1]
      exact Gv.neg (by omega) (Gv.ok ⟨S, h1, by simp only; omega⟩)
  | succ d ih =>
    intro n out s S h1 h2 h3 hn
    cases n with
    | zero => omega
    | succ n =>
      simp only [spec_l09DrawRoute.l1, spec_l09DrawRoute.s1]
      rw [show wrap64 (((d + 1 : Nat) : Int) - 1) = (d : Int) by rw [w64 (by omega) (by omega)]; omega]
      exact Gv.pos (by omega) (Gv.pos (by omega) (Gv.pos (by omega) (Gv.pos (by omega) (ih n _ s S (by simp) (by simp; omega) (by simp; omega) (by omega)))))

theorem route9_l0 {k : Nat} (hk : 2097152 ≤ k) {m : Nat} (hm1 : 1 ≤ m) (hm2 : m ≤ 6) (r : Int) : ∀ (d n : Nat) (out : List Int) (s : SrcT), Src s → 1 ≤ out.length → out.length + d ≤ 400 → (∀ x ∈ out, 0 ≤ x ∧ x < m) → d < n → Gv (spec_l09DrawRoute.l0 k n s.1 s.2.1 s.2.2 (m : Int) r out (d : Int)) fun q => Src q.2 ∧ 1 ≤ q.1.length ∧ q.1.length ≤ 1000 := by
  intro d
  induction d with
  | zero =>
    intro n out s S h1 h2 h3 hn
    cases n with
    | zero => omega
    | succ n =>
      simp only [spec_l09DrawRoute.l0, spec_l09DrawRoute.s0]
      refine Gv.neg (by omega) (Gv.bind (next_ok S 3) fun u hu => Gv.ite (fun _ => ?_) fun _ => Gv.ok ⟨hu.1, h1, by simp only; omega⟩)
      rw [w64 (by omega) (by omega)]
      by_cases c : 2 ≤ out.length
      · rw [show (out.length : Int) - 2 = ((out.length - 2 : Nat) : Int) by omega]
        exact route9_l1 (out.length - 2) k out _ hu.1 h1 (by omega) (by omega) (by omega)
      · cases k with
        | zero => omega
        | succ k =>
          simp only [spec_l09DrawRoute.l1, spec_l09DrawRoute.s1]
          exact Gv.neg (by omega) (Gv.ok ⟨hu.1, h1, by simp only; omega⟩)
  | succ d ih =>
    intro n out s S h1 h2 h3 hn
    cases n with
    | zero => omega
    | succ n =>
      simp only [spec_l09DrawRoute.l0, spec_l09DrawRoute.s0]
      rw [show wrap64 (((d + 1 : Nat) : Int) - 1) = (d : Int) by rw [w64 (by omega) (by omega)]; omega, show wrap64 ((out.length : Int) - 1) = ((out.length - 1 : Nat) : Int) by rw [w64 (by omega) (by omega)]; omega]
      refine Gv.pos (by omega) (Gv.pos (by omega) (Gv.pos (by omega) (Gv.bind (next_ok S _) fun u hu => ?_)))
      have b1 := hu.2.2 (by omega)
      have b2 := h3 _ (rd_mem (l := out) (i := out.length - 1) (by omega))
      rw [(near_ok (p := (m : Int)) (r := r) (a := rd out ((out.length - 1 : Nat) : Int)) (b := u.1) (by omega) (by omega) (by omega) (by omega)).1, Option.bind_some]
      refine Gv.ite (fun _ => Gv.pos (by omega) ?_) fun _ => ih n out _ hu.1 h1 (by omega) h3 (by omega)
      refine ih n _ _ hu.1 (by simp) (by simp; omega) (fun x hx => ?_) (by omega)
      rcases List.mem_append.1 hx with hx | hx
      · exact h3 x hx
      · simp only [List.mem_singleton] at hx; rw [hx]; exact b1

theorem drawRoute9_ok {k : Nat} (hk : 2097152 ≤ k) {s : SrcT} (S : Src s) {m : Nat} (h1 : 1 ≤ m) (h2 : m ≤ 6) (r : Int) : Gv (spec_l09DrawRoute.f k s (m : Int) r) fun q => Src q.2 ∧ 1 ≤ q.1.length ∧ q.1.length ≤ 1000 := by
  unfold spec_l09DrawRoute.f spec_l09DrawRoute.g
  refine Gv.bind (next_ok S _) fun a ha => Gv.bind (pick_ok ha.1 [6, 12, 30] (by simp)) fun b hb => Gv.bind (next_ok hb.1 _) fun c hc => ?_
  have b1 := ha.2.2 (by omega)
  have b2 : 1 ≤ b.1 ∧ b.1 ≤ 30 := by
    have := hb.2
    simp at this
    omega
  have b3 := hc.2.2 b2.1
  obtain ⟨e, he⟩ := Int.eq_ofNat_of_zero_le b3.1
  rw [he]
  exact route9_l0 hk h1 h2 r e k [a.1] _ hc.1 (by simp) (by simp; omega) (fun x hx => by simp only [List.mem_singleton] at hx; rw [hx]; exact b1) (by omega)

theorem drawFirstRoute_ok {k : Nat} (hk : 2097152 ≤ k) {c : List Int} (hb : ∀ x ∈ c, 0 ≤ x ∧ x ≤ 255) (hl : c.length ≤ 4096) : Gv (spec_DrawFirstRoute.f k c) fun r => r.2.2.length ≤ 1009 := by
  unfold spec_DrawFirstRoute.f spec_l09Given.f spec_l09Given.g
  refine Gv.bind (P := fun r => r.2.2.length ≤ 1009) ?_ fun r hr => Gv.ok hr
  refine Gv.bind (from_ok hk hb hl) fun s S => Gv.bind (pick_ok S [3, 4, 5] (by simp)) fun a ha => Gv.bind (next_ok ha.1 _) fun b hb' => ?_
  have b1 : 1 ≤ a.1 ∧ a.1 ≤ 5 := by
    have := ha.2
    simp at this
    omega
  have b2 := hb'.2.2 b1.1
  obtain ⟨e, he⟩ := Int.eq_ofNat_of_zero_le b2.1
  rw [he, show wrap64 (1 + (e : Int)) = ((1 + e : Nat) : Int) by rw [w64 (by omega) (by omega)]; omega]
  refine Gv.bind (l09DrawOf_ok hk hb'.1 (by omega) (by omega)) fun g hg => Gv.bind (pick_ok hg.1 [4, 6, 8] (by simp)) fun q hq => ?_
  rw [hg.2]
  have key : ∀ (m : Nat), 1 ≤ m → m ≤ 6 → ∀ (rr x y : Int) (mo : Int) (d i n : Nat) (out : List Int) (s : SrcT), Src s → m - i = d → i ≤ m → out.length = i → d < n → Gv (spec_l09Given.l0 k n x y s.1 s.2.1 s.2.2 (m : Int) rr out mo (i : Int)) fun r => r.2.2.length ≤ 1009 := by
    intro m m1 m2 rr x y mo d
    induction d with
    | zero =>
      intro i n out s S hd hi ho hn
      cases n with
      | zero => omega
      | succ n =>
        simp only [spec_l09Given.l0, spec_l09Given.s0]
        refine Gv.neg (by omega) (Gv.bind (next_ok S 20) fun u hu => Gv.ite (fun _ => Gv.pos (by omega) ?_) fun _ => Gv.ite (fun _ => ?_) fun _ => ?_)
        · exact Gv.bind (l09Bad_ok hu.1 _ _) fun v hv => Gv.bind (bad_ok hk hv (by simp) (by simp; omega)) fun w hw => Gv.ok hw.2
        · exact Gv.bind (pick_ok hu.1 _ (by simp)) fun v hv => Gv.pos (by omega) (Gv.bind (l09Bad_ok hv.1 _ _) fun v hv => Gv.bind (bad_ok hk hv (by simp; omega) (by simp; omega)) fun w hw => Gv.ok hw.2)
        · exact Gv.bind (l09Bad_ok hu.1 _ _) fun v hv => Gv.bind (bad_ok hk hv (by omega) (by omega)) fun w hw => Gv.ok hw.2
    | succ d ih =>
      intro i n out s S hd hi ho hn
      cases n with
      | zero => omega
      | succ n =>
        simp only [spec_l09Given.l0, spec_l09Given.s0]
        rw [w64n (by omega)]
        refine Gv.pos (by omega) (Gv.bind (next_ok S _) fun u hu => Gv.ite (fun _ => Gv.pos (by omega) ?_) fun _ => Gv.pos (by omega) ?_)
        · exact ih (i + 1) n _ _ hu.1 (by omega) (by omega) (by simp; omega) (by omega)
        · exact ih (i + 1) n _ _ hu.1 (by omega) (by omega) (by simp; omega) (by omega)
  exact key (1 + e) (by omega) (by omega) _ _ _ _ (1 + e) 0 k [] _ hq.1 (by omega) (by omega) rfl (by omega)

theorem routeServes_l0 {k : Nat} (hk : 2097152 ≤ k) {m : Nat} (m1 : 1 ≤ m) (m2 : m ≤ 6) {turns : List Int} (t1 : 1 ≤ turns.length) (t2 : turns.length ≤ 1000) (rr x y : Int) : ∀ (d i n : Nat) (out : List Int) (s : SrcT), Src s → m - i = d → i ≤ m → out.length = i → d < n → Gv (spec_DrawRouteServes.l0 k n x y s.1 s.2.1 s.2.2 (m : Int) rr turns out (i : Int)) fun r => r.2.2.1.length ≤ 1009 ∧ r.2.2.2.length ≤ 1009 := by
  intro d
  induction d with
  | zero =>
    intro i n out s S hd hi ho hn
    cases n with
    | zero => omega
    | succ n =>
      simp only [spec_DrawRouteServes.l0, spec_DrawRouteServes.s0]
      refine Gv.neg (by omega) (Gv.bind (next_ok S 20) fun u hu => Gv.ite (fun _ => Gv.pos (by omega) ?_) fun _ => ?_)
      · exact Gv.bind (l09Bad_ok hu.1 _ _) fun v hv => Gv.bind (bad_ok hk hv (by simp) (by simp; omega)) fun w hw => Gv.bind (badTurns_ok hk hw.1 t1 t2) fun z hz => Gv.ok ⟨hw.2, hz.2⟩
      · exact Gv.bind (l09Bad_ok hu.1 _ _) fun v hv => Gv.bind (bad_ok hk hv (by omega) (by omega)) fun w hw => Gv.bind (badTurns_ok hk hw.1 t1 t2) fun z hz => Gv.ok ⟨hw.2, hz.2⟩
  | succ d ih =>
    intro i n out s S hd hi ho hn
    cases n with
    | zero => omega
    | succ n =>
      simp only [spec_DrawRouteServes.l0, spec_DrawRouteServes.s0]
      rw [w64n (by omega)]
      have go : ∀ (x' : Int) (s : SrcT), Src s → Gv (spec_DrawRouteServes.l0 k n x y s.1 s.2.1 s.2.2 (m : Int) rr turns (out ++ [x']) ((i + 1 : Nat) : Int)) fun r => r.2.2.1.length ≤ 1009 ∧ r.2.2.2.length ≤ 1009 :=
        fun x' s S => ih (i + 1) n _ s S (by omega) (by omega) (by simp; omega) (by omega)
      refine Gv.pos (by omega) (Gv.bind (greatest_ok hk (by omega) _) fun g _ => Gv.ite (fun _ => ?_) fun _ => ?_)
      · exact Gv.bind (next_ok S 12) fun u hu => Gv.pos (by omega) (go _ _ hu.1)
      · refine Gv.bind (next_ok S 8) fun u hu => Gv.ite (fun _ => ?_) fun _ => Gv.pos (by omega) (go _ _ hu.1)
        exact Gv.bind (next_ok hu.1 12) fun v hv => Gv.pos (by omega) (go _ _ hv.1)

theorem drawRouteServes_ok {k : Nat} (hk : 2097152 ≤ k) {c : List Int} (hb : ∀ x ∈ c, 0 ≤ x ∧ x ≤ 255) (hl : c.length ≤ 4096) : Gv (spec_DrawRouteServes.f k c) fun r => r.2.2.1.length ≤ 1009 ∧ r.2.2.2.length ≤ 1009 := by
  unfold spec_DrawRouteServes.f spec_DrawRouteServes.g
  refine Gv.bind (from_ok hk hb hl) fun s S => Gv.bind (next_ok S 4) fun b hb' => ?_
  have b2 := hb'.2.2 (by omega)
  obtain ⟨e, he⟩ := Int.eq_ofNat_of_zero_le b2.1
  rw [he, show wrap64 (1 + (e : Int)) = ((1 + e : Nat) : Int) by rw [w64 (by omega) (by omega)]; omega]
  refine Gv.bind (l09DrawOf_ok hk hb'.1 (by omega) (by omega)) fun g hg => ?_
  rw [hg.2]
  refine Gv.bind (drawRoute9_ok hk hg.1 (by omega) (by omega) _) fun q hq => ?_
  exact routeServes_l0 hk (by omega) (by omega) hq.2.1 hq.2.2 _ _ _ (1 + e) 0 k [] _ hq.1 (by omega) (by omega) rfl (by omega)

theorem drawIsRoute_ok {k : Nat} (hk : 2097152 ≤ k) {c : List Int} (hb : ∀ x ∈ c, 0 ≤ x ∧ x ≤ 255) (hl : c.length ≤ 4096) : Gv (spec_DrawIsRoute.f k c) fun r => r.2.2.length ≤ 1009 := by
  unfold spec_DrawIsRoute.f spec_l09Draw.f
  refine Gv.bind (from_ok hk hb hl) fun s S => ?_
  have hd : Gv ((spec_l01Next.f (s.1, s.2.1, s.2.2) 6).bind fun t1 => (spec_l09DrawOf.f k (t1.2.1, t1.2.2.1, t1.2.2.2) (wrap64 (1 + t1.1))).bind fun t2 => some (t2.1, t2.2.1, t2.2.2.1, t2.2.2.2.1, t2.2.2.2.2)) fun r => Src r.2.2 ∧ ∃ m : Nat, 1 ≤ m ∧ m ≤ 6 ∧ r.1 = m := by
    refine Gv.bind (next_ok S 6) fun b hb' => ?_
    have b2 := hb'.2.2 (by omega)
    obtain ⟨e, he⟩ := Int.eq_ofNat_of_zero_le b2.1
    rw [he, show wrap64 (1 + (e : Int)) = ((1 + e : Nat) : Int) by rw [w64 (by omega) (by omega)]; omega]
    exact Gv.bind (l09DrawOf_ok hk hb'.1 (by omega) (by omega)) fun g hg => Gv.ok ⟨hg.1, 1 + e, by omega, by omega, hg.2⟩
  refine Gv.bind hd fun g hg => ?_
  obtain ⟨hg1, m, m1, m2, hm⟩ := hg
  rw [hm]
  refine Gv.bind (drawRoute9_ok hk hg1 m1 m2 _) fun q hq => Gv.bind (next_ok hq.1 6) fun u hu => Gv.ite (fun _ => ?_) fun _ => ?_
  · refine Gv.bind (next_ok hu.1 _) fun v hv => Gv.bind (next_ok hv.1 _) fun w hw => ?_
    have b := hv.2.2 (by omega)
    exact Gv.pos b.1 (Gv.pos b.2 (Gv.bind (l09Bad_ok hw.1 _ _) fun z hz => Gv.bind (badTurns_ok hk hz (by simp; omega) (by simp; omega)) fun y hy => Gv.ok hy.2))
  · exact Gv.bind (l09Bad_ok hu.1 _ _) fun z hz => Gv.bind (badTurns_ok hk hz hq.2.1 hq.2.2) fun y hy => Gv.ok hy.2

end Go.Proofs.Ytcbhhbkghbnljaa.Vf
