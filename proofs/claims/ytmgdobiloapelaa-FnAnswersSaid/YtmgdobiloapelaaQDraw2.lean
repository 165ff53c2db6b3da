/- Draws of turns and tasks. -/
import Derived.Test.YtmgdobiloapelaaQDraw
set_option linter.unusedVariables false
set_option linter.unusedSimpArgs false
namespace Go.Proofs.Ytmgdobiloapelaa.Vf
open Go Go.V Go.RowKit

theorem drawTurns_ok {k : Nat} (hk : 2097152 ≤ k) {s : SrcT} (S : Src s) (m : Int) : Gv (spec_l01DrawTurns.f k s m) fun r => Src r.2 ∧ 1 ≤ r.1.length ∧ r.1.length ≤ 120 := by
  have key : ∀ (d n : Nat) (out : List Int) (idle : Int) (s : SrcT), Src s → out.length + d ≤ 120 → 1 ≤ out.length + d → d < n → Gv (spec_l01DrawTurns.l0 k n s.1 s.2.1 s.2.2 m out idle (d : Int)) fun r => Src r.2 ∧ 1 ≤ r.1.length ∧ r.1.length ≤ 120 := by
    intro d
    induction d with
    | zero =>
      intro n out idle s S h1 h2 hn
      cases n with
      | zero => omega
      | succ n =>
        simp only [spec_l01DrawTurns.l0, spec_l01DrawTurns.s0]
        exact Gv.neg (by omega) (Gv.ok ⟨S, by simp only; omega, by simp only; omega⟩)
    | succ d ih =>
      intro n out idle s S h1 h2 hn
      cases n with
      | zero => omega
      | succ n =>
        simp only [spec_l01DrawTurns.l0, spec_l01DrawTurns.s0]
        refine Gv.pos (by omega) (Gv.bind (next_ok S m) fun r hr => Gv.bind (next_ok hr.1 _) fun q hq => Gv.ite (fun _ => Gv.pos (by omega) ?_) fun _ => Gv.pos (by omega) ?_)
        · rw [show wrap64 (((d + 1 : Nat) : Int) - 1) = (d : Int) by rw [w64 (by omega) (by omega)]; omega]
          exact ih n _ idle _ hq.1 (by simp; omega) (by simp; omega) (by omega)
        · rw [show wrap64 (((d + 1 : Nat) : Int) - 1) = (d : Int) by rw [w64 (by omega) (by omega)]; omega]
          exact ih n _ idle _ hq.1 (by simp; omega) (by simp; omega) (by omega)
  unfold spec_l01DrawTurns.f spec_l01DrawTurns.g
  refine Gv.bind (pick_ok S [1, 4, 20] (by simp)) fun r hr => Gv.bind (pick_ok hr.1 [6, 12, 40, 120] (by simp)) fun q hq => Gv.bind (next_ok hq.1 _) fun p hp => ?_
  have hq2 : 1 ≤ q.1 ∧ q.1 ≤ 120 := by
    have := hq.2
    simp at this
    omega
  have hp2 := hp.2.2 hq2.1
  obtain ⟨d, hd⟩ := Int.eq_ofNat_of_zero_le hp2.1
  rw [hd, show wrap64 (1 + (d : Int)) = ((1 + d : Nat) : Int) by rw [w64 (by omega) (by omega)]; omega]
  exact key (1 + d) k [] r.1 p.2 hp.1 (by simp; omega) (by simp) (by omega)

theorem waits_ok {k : Nat} (hk : 2097152 ≤ k) {l : List Int} (hl : l.length ≤ 1048576) (a : Int) : Gv (spec_l01Waits.f k l a) fun r => r.length ≤ 1048577 := by
  have key : ∀ (d i n : Nat) (out : List Int) (x y : Int), l.length - i = d → i ≤ l.length → out.length ≤ i → d < n → Gv (spec_l01Waits.l0 k n l a out x y i) fun r => r.length ≤ 1048577 := by
    intro d
    induction d with
    | zero =>
      intro i n out x y hd hi ho hn
      cases n with
      | zero => omega
      | succ n =>
        simp only [spec_l01Waits.l0, spec_l01Waits.s0]
        exact Gv.neg (by omega) (Gv.ite (fun _ => Gv.pos (by omega) (Gv.ok (by simp; omega))) fun _ => Gv.ok (by omega))
    | succ d ih =>
      intro i n out x y hd hi ho hn
      cases n with
      | zero => omega
      | succ n =>
        simp only [spec_l01Waits.l0, spec_l01Waits.s0]
        refine Gv.pos (by omega) (Gv.pos (by omega) (Gv.pos (by omega) ?_))
        rw [w64n (by omega)]
        refine Gv.ite (fun _ => Gv.ite (fun _ => ih (i + 1) n _ _ _ (by omega) (by omega) (by omega) (by omega)) fun _ => Gv.pos (by omega) (ih (i + 1) n _ _ _ (by omega) (by omega) (by simp; omega) (by omega))) fun _ => ih (i + 1) n _ _ _ (by omega) (by omega) (by omega) (by omega)
  unfold spec_l01Waits.f spec_l01Waits.g
  exact key l.length 0 k [] _ _ (by omega) (by omega) (by simp) (by omega)

theorem greatest_ok {k : Nat} (hk : 2097152 ≤ k) {l : List Int} (hl : l.length ≤ 1048576) (a : Int) : Gv (spec_l01Greatest.f k l a) fun _ => True := by
  have key : ∀ (w : List Int), w.length ≤ 1048577 → ∀ (d i n : Nat) (x : Int), w.length - i = d → i ≤ w.length → d < n → Gv (spec_l01Greatest.l0 k n w x i) fun _ => True := by
    intro w hw d
    induction d with
    | zero =>
      intro i n x hd hi hn
      cases n with
      | zero => omega
      | succ n =>
        simp only [spec_l01Greatest.l0, spec_l01Greatest.s0]
        exact Gv.neg (by omega) (Gv.ok trivial)
    | succ d ih =>
      intro i n x hd hi hn
      cases n with
      | zero => omega
      | succ n =>
        simp only [spec_l01Greatest.l0, spec_l01Greatest.s0]
        refine Gv.pos (by omega) (Gv.pos (by omega) (Gv.pos (by omega) ?_))
        rw [w64n (by omega)]
        exact ih (i + 1) n _ (by omega) (by omega) (by omega)
  unfold spec_l01Greatest.f spec_l01Greatest.g
  refine Gv.bind (waits_ok hk hl a) fun w hw => ?_
  exact key w hw w.length 0 k 0 (by omega) (by omega) (by omega)

theorem drawOf_ok {k : Nat} (hk : 2097152 ≤ k) {s : SrcT} (S : Src s) {m : Nat} (hm : m ≤ 1000) : Gv (spec_l01DrawOf.f k s (m : Int)) fun r => Src r.2 ∧ r.1.length = m := by
  have key : ∀ (d i n : Nat) (out : List Int) (s : SrcT), Src s → m - i = d → i ≤ m → out.length = i → d < n → Gv (spec_l01DrawOf.l0 k n s.1 s.2.1 s.2.2 (m : Int) out (i : Int)) fun r => Src r.2 ∧ r.1.length = m := by
    intro d
    induction d with
    | zero =>
      intro i n out s S hd hi ho hn
      cases n with
      | zero => omega
      | succ n =>
        simp only [spec_l01DrawOf.l0, spec_l01DrawOf.s0]
        exact Gv.neg (by omega) (Gv.ok ⟨S, by simp only; omega⟩)
    | succ d ih =>
      intro i n out s S hd hi ho hn
      cases n with
      | zero => omega
      | succ n =>
        simp only [spec_l01DrawOf.l0, spec_l01DrawOf.s0]
        refine Gv.pos (by omega) (Gv.bind (pick_ok S _ (by simp)) fun r hr => Gv.bind (next_ok hr.1 _) fun q hq => Gv.pos (by omega) ?_)
        rw [w64n (by omega)]
        exact ih (i + 1) n _ _ hq.1 (by omega) (by omega) (by simp; omega) (by omega)
  unfold spec_l01DrawOf.f spec_l01DrawOf.g
  exact key m 0 k [] s S (by omega) (by omega) (by simp) (by omega)

theorem served_l1 {k m : Nat} (hk : 2097152 ≤ k) (hm8 : 1 ≤ m ∧ m ≤ 8) : ∀ (w : List Int), 1 ≤ w.length → w.length ≤ 120 → ∀ (d i n : Nat) (out : List Int) (s : SrcT), Src s → m - i = d → i ≤ m → out.length = i → d < n → Gv (spec_l01DrawServed.l1 k n s.1 s.2.1 s.2.2 (m : Int) w out (i : Int)) fun r => Src r.2.2 ∧ 1 ≤ r.1.length ∧ r.1.length ≤ 8 ∧ 1 ≤ r.2.1.length ∧ r.2.1.length ≤ 120 := by
  intro w hw1 hw2 d
  induction d with
  | zero =>
    intro i n out s S hd hi ho hn
    cases n with
    | zero => omega
    | succ n =>
      simp only [spec_l01DrawServed.l1, spec_l01DrawServed.s1]
      exact Gv.neg (by omega) (Gv.ok ⟨S, by simp only; omega, by simp only; omega, hw1, hw2⟩)
  | succ d ih =>
    intro i n out s S hd hi ho hn
    cases n with
    | zero => omega
    | succ n =>
      simp only [spec_l01DrawServed.l1, spec_l01DrawServed.s1]
      have nx : wrap64 ((i : Int) + 1) = ((i + 1 : Nat) : Int) := w64n (by omega)
      rw [nx]
      have go : ∀ (x : Int) (s : SrcT), Src s → Gv (spec_l01DrawServed.l1 k n s.1 s.2.1 s.2.2 (m : Int) w (out ++ [x]) ((i + 1 : Nat) : Int)) fun r => Src r.2.2 ∧ 1 ≤ r.1.length ∧ r.1.length ≤ 8 ∧ 1 ≤ r.2.1.length ∧ r.2.1.length ≤ 120 :=
        fun x s S => ih (i + 1) n _ s S (by omega) (by omega) (by simp; omega) (by omega)
      refine Gv.pos (by omega) (Gv.bind (greatest_ok hk (by omega) _) fun g _ => Gv.ite (fun _ => ?_) fun _ => ?_)
      · refine Gv.bind (next_ok S 4) fun a ha => Gv.ite (fun _ => Gv.bind (next_ok ha.1 4) fun b hb => Gv.pos (by omega) (go _ _ hb.1)) fun _ => Gv.pos (by omega) (go _ _ ha.1)
      · refine Gv.bind (next_ok S 4) fun a ha => Gv.ite (fun _ => Gv.bind (next_ok ha.1 4) fun b hb => Gv.pos (by omega) (go _ _ hb.1)) fun _ => Gv.pos (by omega) (go _ _ ha.1)

theorem served_l0 {k m : Nat} (hk : 2097152 ≤ k) (hm8 : 1 ≤ m ∧ m ≤ 8) : ∀ (d i n : Nat) (w : List Int) (s : SrcT), Src s → 1 ≤ w.length → w.length ≤ 120 → m - i = d → i ≤ m → d < n → Gv (spec_l01DrawServed.l0 k n s.1 s.2.1 s.2.2 (m : Int) w (i : Int)) fun r => Src r.2.2 ∧ 1 ≤ r.1.length ∧ r.1.length ≤ 8 ∧ 1 ≤ r.2.1.length ∧ r.2.1.length ≤ 120 := by
  intro d
  induction d with
  | zero =>
    intro i n w s S h1 h2 hd hi hn
    cases n with
    | zero => omega
    | succ n =>
      simp only [spec_l01DrawServed.l0, spec_l01DrawServed.s0]
      exact Gv.neg (by omega) (served_l1 hk hm8 w h1 h2 m 0 k [] s S (by omega) (by omega) (by simp) (by omega))
  | succ d ih =>
    intro i n w s S h1 h2 hd hi hn
    cases n with
    | zero => omega
    | succ n =>
      simp only [spec_l01DrawServed.l0, spec_l01DrawServed.s0]
      have nx : wrap64 ((i : Int) + 1) = ((i + 1 : Nat) : Int) := w64n (by omega)
      rw [nx]
      refine Gv.pos (by omega) (Gv.ite (fun c => Gv.bind (greatest_ok hk (by omega) _) fun g _ => Gv.ite (fun _ => Gv.pos (by omega) (Gv.pos c ?_)) fun _ => ?_) fun _ => ?_)
      · exact ih (i + 1) n _ s S (by simp; omega) (by simp; omega) (by omega) (by omega) (by omega)
      · exact ih (i + 1) n w s S h1 h2 (by omega) (by omega) (by omega)
      · exact served_l1 hk hm8 w h1 h2 m 0 k [] s S (by omega) (by omega) (by simp) (by omega)

theorem drawServed_ok {k : Nat} (hk : 2097152 ≤ k) {s : SrcT} (S : Src s) : Gv (spec_l01DrawServed.f k s) fun r => Src r.2.2 ∧ 1 ≤ r.1.length ∧ r.1.length ≤ 8 ∧ 1 ≤ r.2.1.length ∧ r.2.1.length ≤ 120 := by
  unfold spec_l01DrawServed.f spec_l01DrawServed.g
  refine Gv.bind (pick_ok S [3, 5, 8] (by simp)) fun r hr => Gv.bind (next_ok hr.1 _) fun q hq => ?_
  have hr2 : 1 ≤ r.1 ∧ r.1 ≤ 8 := by
    have := hr.2
    simp at this
    omega
  have hq2 := hq.2.2 hr2.1
  obtain ⟨m0, hm0⟩ := Int.eq_ofNat_of_zero_le hq2.1
  rw [hm0, show wrap64 (1 + (m0 : Int)) = ((1 + m0 : Nat) : Int) by rw [w64 (by omega) (by omega)]; omega]
  obtain ⟨m, hm⟩ : ∃ m, m = 1 + m0 := ⟨_, rfl⟩
  have hm8 : 1 ≤ m ∧ m ≤ 8 := by omega
  rw [← hm]
  refine Gv.bind (drawTurns_ok hk hq.1 _) fun p hp => ?_
  exact served_l0 hk hm8 m 0 k p.1 p.2 hp.1 hp.2.1 hp.2.2 (by omega) (by omega) (by omega)

theorem draw_ok' {k : Nat} (hk : 2097152 ≤ k) {s : SrcT} (S : Src s) : Gv (spec_l01Draw.f k s) fun r => Src r.2 ∧ 1 ≤ r.1.length ∧ r.1.length ≤ 8 := by
  unfold spec_l01Draw.f
  refine Gv.bind (next_ok S 2) fun r hr => Gv.ite (fun _ => ?_) fun _ => ?_
  · exact Gv.bind (drawServed_ok hk hr.1) fun q hq => Gv.ok ⟨hq.1, hq.2.1, hq.2.2.1⟩
  · refine Gv.bind (pick_ok hr.1 [3, 5, 8] (by simp)) fun q hq => Gv.bind (next_ok hq.1 _) fun p hp => ?_
    have hq2 : 1 ≤ q.1 ∧ q.1 ≤ 8 := by
      have := hq.2
      simp at this
      omega
    have hp2 := hp.2.2 hq2.1
    obtain ⟨m0, hm0⟩ := Int.eq_ofNat_of_zero_le hp2.1
    rw [hm0, show wrap64 (1 + (m0 : Int)) = ((1 + m0 : Nat) : Int) by rw [w64 (by omega) (by omega)]; omega]
    exact Gv.bind (drawOf_ok hk hp.1 (by omega)) fun z hz => Gv.ok ⟨hz.1, by show 1 ≤ z.1.length; omega, by show z.1.length ≤ 8; omega⟩

theorem bad_ok {k : Nat} (hk : 2097152 ≤ k) {s : SrcT} (S : Src s) {l : List Int} (h1 : 1 ≤ l.length) (h2 : l.length ≤ 1000) : Gv (spec_l01Bad.f k s l) fun r => Src r.2 ∧ r.1.length ≤ 1009 := by
  have key : ∀ (d n : Nat) (out : List Int) (s : SrcT), Src s → out.length ≤ 1009 → 9 - out.length ≤ d → d < n → Gv (spec_l01Bad.l0 k n out s.1 s.2.1 s.2.2) fun r => Src r.2 ∧ r.1.length ≤ 1009 := by
    intro d
    induction d with
    | zero =>
      intro n out s S ho hd hn
      cases n with
      | zero => omega
      | succ n =>
        simp only [spec_l01Bad.l0, spec_l01Bad.s0]
        exact Gv.neg (by omega) (Gv.ok ⟨S, by simp only; omega⟩)
    | succ d ih =>
      intro n out s S ho hd hn
      cases n with
      | zero => omega
      | succ n =>
        simp only [spec_l01Bad.l0, spec_l01Bad.s0]
        refine Gv.ite (fun c => Gv.pos (by omega) (ih n _ s S (by simp; omega) (by simp; omega) (by omega))) fun c => Gv.ok ⟨S, by simp only; omega⟩
  unfold spec_l01Bad.f spec_l01Bad.g
  rw [own_ok l (by omega), Option.bind_some]
  refine Gv.bind (next_ok S 50) fun r hr => Gv.ite (fun _ => Gv.ok ⟨hr.1, by simp⟩) fun _ => Gv.ite (fun _ => ?_) fun _ => Gv.ite (fun _ => key 9 k l r.2 hr.1 (by omega) (by omega) (by omega)) fun _ => Gv.ok ⟨hr.1, by simp only; omega⟩
  unfold spec_l01K.f
  rw [Option.bind_some]
  refine Gv.bind (next_ok hr.1 _) fun q hq => Gv.bind (pick_ok hq.1 _ (by simp)) fun p hp => ?_
  have := hq.2.2 (by omega)
  exact Gv.pos this.1 (Gv.pos this.2 (Gv.ok ⟨hp.1, by simp; omega⟩))

theorem spoil_ok {k : Nat} (hk : 2097152 ≤ k) {s : SrcT} (S : Src s) : Gv (spec_l01Spoil.f k s) fun r => Src r.2 ∧ r.1.length ≤ 1009 := by
  unfold spec_l01Spoil.f
  refine Gv.bind (draw_ok' hk S) fun r hr => Gv.bind (bad_ok hk hr.1 hr.2.1 (by omega)) fun q hq => ?_
  exact Gv.ok ⟨hq.1, hq.2⟩

end Go.Proofs.Ytmgdobiloapelaa.Vf
