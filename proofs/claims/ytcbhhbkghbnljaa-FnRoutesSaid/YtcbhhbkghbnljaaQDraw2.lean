/- Draws of turns and tasks. -/
import Derived.Test.YtcbhhbkghbnljaaQDraw
set_option linter.unusedVariables false
set_option linter.unusedSimpArgs false
namespace Go.Proofs.Ytcbhhbkghbnljaa.Vf
open Go Go.V Go.RowKit

theorem waits_ok {k : Nat} (hk : 2097152 ≤ k) {l : List Int} (hl : l.length ≤ 1048576) (a : Int) : Gv (spec_l01Waits.f k l a) fun r => r.length ≤ 1048577 := by
  have key : ∀ (d i n : Nat) (out : List Int) (x y : Int), l.length - i = d → i ≤ l.length → out.length ≤ i → d < n → Gv (spec_l01Waits.l0 k n l a out x y i) fun r => r.length ≤ 1048577 := by
    intro d
    induction d with
    | zero =>
      intro i n out x y hd hi ho hn
      cases n with
      | zero => omega
      | succ n =>
        simp only [spec_l01Waits.l0, spec_l01Waits.s0]
        exact Gv.neg (by omega) (Gv.ite (fun _ => Gv.pos (by omega) (Gv.ok (by simp; omega))) fun _ => Gv.ok (by omega))
    | succ d ih =>
      intro i n out x y hd hi ho hn
      cases n with
      | zero => omega
      | succ n =>
        simp only [spec_l01Waits.l0, spec_l01Waits.s0]
        refine Gv.pos (by omega) (Gv.pos (by omega) (Gv.pos (by omega) ?_))
        rw [w64n (by omega)]
        refine Gv.ite (fun _ => Gv.ite (fun _ => ih (i + 1) n _ _ _ (by omega) (by omega) (by omega) (by omega)) fun _ => Gv.pos (by omega) (ih (i + 1) n _ _ _ (by omega) (by omega) (by simp; omega) (by omega))) fun _ => ih (i + 1) n _ _ _ (by omega) (by omega) (by omega) (by omega)
  unfold spec_l01Waits.f spec_l01Waits.g
  exact key l.length 0 k [] _ _ (by omega) (by omega) (by simp) (by omega)

theorem greatest_ok {k : Nat} (hk : 2097152 ≤ k) {l : List Int} (hl : l.length ≤ 1048576) (a : Int) : Gv (spec_l01Greatest.f k l a) fun _ => True := by
  have key : ∀ (w : List Int), w.length ≤ 1048577 → ∀ (d i n : Nat) (x : Int), w.length - i = d → i ≤ w.length → d < n → Gv (spec_l01Greatest.l0 k n w x i) fun _ => True := by
    intro w hw d
    induction d with
    | zero =>
      intro i n x hd hi hn
      cases n with
      | zero => omega
      | succ n =>
        simp only [spec_l01Greatest.l0, spec_l01Greatest.s0]
        exact Gv.neg (by omega) (Gv.ok trivial)
    | succ d ih =>
      intro i n x hd hi hn
      cases n with
      | zero => omega
      | succ n =>
        simp only [spec_l01Greatest.l0, spec_l01Greatest.s0]
        refine Gv.pos (by omega) (Gv.pos (by omega) (Gv.pos (by omega) ?_))
        rw [w64n (by omega)]
        exact ih (i + 1) n _ (by omega) (by omega) (by omega)
  unfold spec_l01Greatest.f spec_l01Greatest.g
  refine Gv.bind (waits_ok hk hl a) fun w hw => ?_
  exact key w hw w.length 0 k 0 (by omega) (by omega) (by omega)

theorem bad_ok {k : Nat} (hk : 2097152 ≤ k) {s : SrcT} (S : Src s) {l : List Int} (h1 : 1 ≤ l.length) (h2 : l.length ≤ 1000) : Gv (spec_l01Bad.f k s l) fun r => Src r.2 ∧ r.1.length ≤ 1009 := by
  have key : ∀ (d n : Nat) (out : List Int) (s : SrcT), Src s → out.length ≤ 1009 → 9 - out.length ≤ d → d < n → Gv (spec_l01Bad.l0 k n out s.1 s.2.1 s.2.2) fun r => Src r.2 ∧ r.1.length ≤ 1009 := by
    intro d
    induction d with
    | zero =>
      intro n out s S ho hd hn
      cases n with
      | zero => omega
      | succ n =>
        simp only [spec_l01Bad.l0, spec_l01Bad.s0]
        exact Gv.neg (by omega) (Gv.ok ⟨S, by simp only; omega⟩)
    | succ d ih =>
      intro n out s S ho hd hn
      cases n with
      | zero => omega
      | succ n =>
        simp only [spec_l01Bad.l0, spec_l01Bad.s0]
        refine Gv.ite (fun c => Gv.pos (by omega) (ih n _ s S (by simp; omega) (by simp; omega) (by omega))) fun c => Gv.ok ⟨S, by simp only; omega⟩
  unfold spec_l01Bad.f spec_l01Bad.g
  rw [own_ok l (by omega), Option.bind_some]
  refine Gv.bind (next_ok S 50) fun r hr => Gv.ite (fun _ => Gv.ok ⟨hr.1, by simp⟩) fun _ => Gv.ite (fun _ => ?_) fun _ => Gv.ite (fun _ => key 9 k l r.2 hr.1 (by omega) (by omega) (by omega)) fun _ => Gv.ok ⟨hr.1, by simp only; omega⟩
  unfold spec_l01K.f
  rw [Option.bind_some]
  refine Gv.bind (next_ok hr.1 _) fun q hq => Gv.bind (pick_ok hq.1 _ (by simp)) fun p hp => ?_
  have := hq.2.2 (by omega)
  exact Gv.pos this.1 (Gv.pos this.2 (Gv.ok ⟨hp.1, by simp; omega⟩))

end Go.Proofs.Ytcbhhbkghbnljaa.Vf
