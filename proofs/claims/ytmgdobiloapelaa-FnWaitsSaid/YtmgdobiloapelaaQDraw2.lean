/- Draws of turns and tasks. -/
import Derived.Test.YtmgdobiloapelaaQDraw
set_option linter.unusedVariables false
set_option linter.unusedSimpArgs false
namespace Go.Proofs.Ytmgdobiloapelaa.Vf
open Go Go.V Go.RowKit

theorem drawTurns_ok {k : Nat} (hk : 2097152 ≤ k) {s : SrcT} (S : Src s) (m : Int) : Gv (spec_l01DrawTurns.f k s m) fun r => Src r.2 ∧ 1 ≤ r.1.length ∧ r.1.length ≤ 120 := by
  have key : ∀ (d n : Nat) (out : List Int) (idle : Int) (s : SrcT), Src s → out.length + d ≤ 120 → 1 ≤ out.length + d → d < n → Gv (spec_l01DrawTurns.l0 k n s.1 s.2.1 s.2.2 m out idle (d : Int)) fun r => Src r.2 ∧ 1 ≤ r.1.length ∧ r.1.length ≤ 120 := by
    intro d
    induction d with
    | zero =>
      intro n out idle s S h1 h2 hn
      cases n with
      | zero => omega
      | succ n =>
        simp only [spec_l01DrawTurns.l0, spec_l01DrawTurns.s0]
        exact Gv.neg (by omega) (Gv.ok ⟨S, by simp only; omega, by simp only; omega⟩)
    | succ d ih =>
      intro n out idle s S h1 h2 hn
      cases n with
      | zero => omega
      | succ n =>
        simp only [spec_l01DrawTurns.l0, spec_l01DrawTurns.s0]
        refine Gv.pos (by omega) (Gv.bind (next_ok S m) fun r hr => Gv.bind (next_ok hr.1 _) fun q hq => Gv.ite (fun _ => Gv.pos (by omega) ?_) fun _ => Gv.pos (by omega) ?_)
        · rw [show wrap64 (((d + 1 : Nat) : Int) - 1) = (d : Int) by rw [w64 (by omega) (by omega)]; omega]
          exact ih n _ idle _ hq.1 (by simp; omega) (by simp; omega) (by omega)
        · rw [show wrap64 (((d + 1 : Nat) : Int) - 1) = (d : Int) by rw [w64 (by omega) (by omega)]; omega]
          exact ih n _ idle _ hq.1 (by simp; omega) (by simp; omega) (by omega)
  unfold spec_l01DrawTurns.f spec_l01DrawTurns.g
  refine Gv.bind (pick_ok S [1, 4, 20] (by simp)) fun r hr => Gv.bind (pick_ok hr.1 [6, 12, 40, 120] (by simp)) fun q hq => Gv.bind (next_ok hq.1 _) fun p hp => ?_
  have hq2 : 1 ≤ q.1 ∧ q.1 ≤ 120 := by
    have := hq.2
    simp at this
    omega
  have hp2 := hp.2.2 hq2.1
  obtain ⟨d, hd⟩ := Int.eq_ofNat_of_zero_le hp2.1
  rw [hd, show wrap64 (1 + (d : Int)) = ((1 + d : Nat) : Int) by rw [w64 (by omega) (by omega)]; omega]
  exact key (1 + d) k [] r.1 p.2 hp.1 (by simp; omega) (by simp) (by omega)

theorem badTurns_ok {k : Nat} (hk : 2097152 ≤ k) {s : SrcT} (S : Src s) {l : List Int} (h1 : 1 ≤ l.length) (h2 : l.length ≤ 1000) : Gv (spec_l01BadTurns.f k s l) fun r => Src r.2 ∧ r.1.length ≤ 1009 := by
  have key : ∀ (d n : Nat) (out : List Int) (s : SrcT), Src s → out.length ≤ 1009 → 121 - out.length ≤ d → d < n → Gv (spec_l01BadTurns.l0 k n out s.1 s.2.1 s.2.2) fun r => Src r.2 ∧ r.1.length ≤ 1009 := by
    intro d
    induction d with
    | zero =>
      intro n out s S ho hd hn
      cases n with
      | zero => omega
      | succ n =>
        simp only [spec_l01BadTurns.l0, spec_l01BadTurns.s0]
        exact Gv.neg (by omega) (Gv.ok ⟨S, by simp only; omega⟩)
    | succ d ih =>
      intro n out s S ho hd hn
      cases n with
      | zero => omega
      | succ n =>
        simp only [spec_l01BadTurns.l0, spec_l01BadTurns.s0]
        refine Gv.ite (fun c => Gv.pos (by omega) (ih n _ s S (by simp; omega) (by simp; omega) (by omega))) fun c => Gv.ok ⟨S, by simp only; omega⟩
  unfold spec_l01BadTurns.f spec_l01BadTurns.g
  rw [own_ok l (by omega), Option.bind_some]
  refine Gv.bind (next_ok S 40) fun r hr => Gv.ite (fun _ => Gv.ok ⟨hr.1, by simp⟩) fun _ => Gv.ite (fun _ => ?_) fun _ => Gv.ite (fun _ => key 121 k l r.2 hr.1 (by omega) (by omega) (by omega)) fun _ => Gv.ok ⟨hr.1, by simp only; omega⟩
  refine Gv.bind (next_ok hr.1 _) fun q hq => Gv.bind (pick_ok hq.1 _ (by simp)) fun p hp => ?_
  have := hq.2.2 (by omega)
  exact Gv.pos this.1 (Gv.pos this.2 (Gv.ok ⟨hp.1, by simp; omega⟩))

end Go.Proofs.Ytmgdobiloapelaa.Vf
