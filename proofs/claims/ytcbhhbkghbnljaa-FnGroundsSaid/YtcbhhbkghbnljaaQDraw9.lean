/- Draws of grounds and routes. -/
import Derived.Test.YtcbhhbkghbnljaaQDraw2
import Derived.Test.YtcbhhbkghbnljaaQ09
set_option linter.unusedVariables false
set_option linter.unusedSimpArgs false
namespace Go.Proofs.Ytcbhhbkghbnljaa.Vf
open Go Go.V Go.RowKit

theorem l09Line_ok {k : Nat} (hk : 2097152 ≤ k) {m : Nat} (h1 : 1 ≤ m) (h2 : m ≤ 6) : Gv (spec_l09Line.f k (m : Int)) fun r => r.1 = m := by
  have key : ∀ (d i n : Nat) (a b r : Int), m - i = d → i ≤ m → 1 ≤ i → d < n → Gv (spec_l09Line.l0 k n (m : Int) a b (m : Int) r (i : Int)) fun r => r.1 = m := by
    intro d
    induction d with
    | zero =>
      intro i n a b r hd hi h0 hn
      cases n with
      | zero => omega
      | succ n =>
        simp only [spec_l09Line.l0, spec_l09Line.s0]
        exact Gv.neg (by omega) (Gv.ok rfl)
    | succ d ih =>
      intro i n a b r hd hi h0 hn
      cases n with
      | zero => omega
      | succ n =>
        simp only [spec_l09Line.l0, spec_l09Line.s0]
        rw [w64n (by omega), w64 (x := (i : Int) - 1) (by omega) (by omega), (road_ok (a := (i : Int) - 1) (b := (i : Int)) (by omega) (by omega) (by omega) (by omega)).1, Option.bind_some]
        exact Gv.pos (by omega) (ih (i + 1) n _ _ _ (by omega) (by omega) (by omega) (by omega))
  unfold spec_l09Line.f spec_l09Line.g
  exact key (m - 1) 1 k _ _ _ (by omega) h1 (by omega) (by omega)

theorem l09Bad_ok {s : SrcT} (S : Src s) (p r : Int) : Gv (spec_l09Bad.f s p r) fun q => Src q.2.2 := by
  unfold spec_l09Bad.f
  refine Gv.bind (next_ok S 40) fun a ha => Gv.ite (fun _ => ?_) fun _ => Gv.ite (fun _ => ?_) fun _ => Gv.ok ha.1
  · exact Gv.bind (pick_ok ha.1 _ (by simp)) fun b hb => Gv.ok hb.1
  · exact Gv.bind (pick_ok ha.1 _ (by simp)) fun b hb => Gv.ok hb.1

theorem drawOf9_l1 {k : Nat} {m : Nat} (h1 : 1 ≤ m) (h2 : m ≤ 6) : ∀ (d n : Nat) (a b r : Int) (s : SrcT), Src s → d ≤ 100 → d < n → Gv (spec_l09DrawOf.l1 k n s.1 s.2.1 s.2.2 (m : Int) a b (m : Int) r (d : Int)) fun r => Src r.2.2 ∧ r.1 = m := by
  intro d
  induction d with
  | zero =>
    intro n a b r s S hd hn
    cases n with
    | zero => omega
    | succ n =>
      simp only [spec_l09DrawOf.l1, spec_l09DrawOf.s1]
      exact Gv.neg (by omega) (Gv.ok ⟨S, rfl⟩)
  | succ d ih =>
    intro n a b r s S hd hn
    cases n with
    | zero => omega
    | succ n =>
      simp only [spec_l09DrawOf.l1, spec_l09DrawOf.s1]
      rw [show wrap64 (((d + 1 : Nat) : Int) - 1) = (d : Int) by rw [w64 (by omega) (by omega)]; omega]
      refine Gv.pos (by omega) (Gv.ite (fun c => ?_) fun c => Gv.ok ⟨S, rfl⟩)
      rw [w64 (x := (m : Int) - 1) (by omega) (by omega)]
      refine Gv.bind (next_ok S _) fun u hu => Gv.bind (next_ok hu.1 _) fun v hv => Gv.neg (by omega) ?_
      have b1 := hu.2.2 (by omega)
      have b2 := hv.2.2 (by omega)
      rw [w64 (x := u.1 + 1) (by omega) (by omega), w64 (x := u.1 + 1 + v.1) (by omega) (by omega), Int.tmod_eq_emod_of_nonneg (by omega)]
      have b3 := Int.emod_nonneg (u.1 + 1 + v.1) (show (m : Int) ≠ 0 by omega)
      have b4 := Int.emod_lt_of_pos (u.1 + 1 + v.1) (show (0 : Int) < m by omega)
      rw [(road_ok (a := u.1) (b := (u.1 + 1 + v.1) % (m : Int)) (by omega) (by omega) (by omega) (by omega)).1, Option.bind_some]
      exact ih n _ _ _ _ hv.1 (by omega) (by omega)

theorem drawOf9_l0 {k : Nat} (hk : 2097152 ≤ k) {m : Nat} (h1 : 1 ≤ m) (h2 : m ≤ 6) : ∀ (d i n : Nat) (a b r : Int) (s : SrcT), Src s → m - i = d → i ≤ m → 1 ≤ i → d < n → Gv (spec_l09DrawOf.l0 k n s.1 s.2.1 s.2.2 (m : Int) a b (m : Int) r (i : Int)) fun r => Src r.2.2 ∧ r.1 = m := by
  intro d
  induction d with
  | zero =>
    intro i n a b r s S hd hi h0 hn
    cases n with
    | zero => omega
    | succ n =>
      simp only [spec_l09DrawOf.l0, spec_l09DrawOf.s0]
      refine Gv.neg (by omega) (Gv.bind (next_ok S 4) fun u hu => ?_)
      have b1 := hu.2.2 (by omega)
      obtain ⟨e, he⟩ := Int.eq_ofNat_of_zero_le b1.1
      rw [he]
      exact drawOf9_l1 h1 h2 e k _ _ _ _ hu.1 (by omega) (by omega)
  | succ d ih =>
    intro i n a b r s S hd hi h0 hn
    cases n with
    | zero => omega
    | succ n =>
      simp only [spec_l09DrawOf.l0, spec_l09DrawOf.s0]
      rw [w64n (by omega)]
      refine Gv.pos (by omega) (Gv.bind (next_ok S _) fun u hu => ?_)
      have b1 := hu.2.2 (by omega)
      rw [(road_ok (a := u.1) (b := (i : Int)) (by omega) (by omega) (by omega) (by omega)).1, Option.bind_some]
      exact ih (i + 1) n _ _ _ _ hu.1 (by omega) (by omega) (by omega) (by omega)

theorem l09DrawOf_ok {k : Nat} (hk : 2097152 ≤ k) {s : SrcT} (S : Src s) {m : Nat} (h1 : 1 ≤ m) (h2 : m ≤ 6) : Gv (spec_l09DrawOf.f k s (m : Int)) fun r => Src r.2.2 ∧ r.1 = m := by
  unfold spec_l09DrawOf.f spec_l09DrawOf.g
  refine Gv.bind (next_ok S 4) fun a ha => Gv.ite (fun _ => ?_) fun _ => Gv.ite (fun _ => ?_) fun _ => ?_
  · exact Gv.bind (l09Line_ok hk h1 h2) fun l hl => Gv.ok ⟨ha.1, hl⟩
  · refine Gv.bind (l09Line_ok hk h1 h2) fun l hl => Gv.ite (fun c => ?_) fun _ => Gv.ok ⟨ha.1, hl⟩
    rw [w64 (by omega) (by omega), (road_ok (a := 0) (b := (m : Int) - 1) (by omega) (by omega) (by omega) (by omega)).1, Option.bind_some]
    exact Gv.ok ⟨ha.1, hl⟩
  · exact drawOf9_l0 hk h1 h2 (m - 1) 1 k _ _ _ _ ha.1 (by omega) h1 (by omega) (by omega)

end Go.Proofs.Ytcbhhbkghbnljaa.Vf
