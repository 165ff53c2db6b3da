/- Waits from a slot on: what program and reference give. -/
import Derived.Test.YtmgdobiloapelaaQTurns
import Derived.Test.YtmgdobiloapelaaQDraw2
set_option linter.unusedVariables false
set_option linter.unusedSimpArgs false
namespace Go.Proofs.Ytmgdobiloapelaa.Vf
open Go Go.V Go.RowKit

def wtL (cs : List Int) (i : Int) (s : Nat) : Nat → Nat → Int
  | 0, _ => -1
  | d + 1, w => if rd cs (((s + w) % cs.length : Nat) : Int) = i then (w : Int) else wtL cs i s d (w + 1)
/-- How long one who comes at a slot waits, or -1. -/
def wt (cs : List Int) (i : Int) (s : Nat) : Int := wtL cs i s cs.length 0

theorem wtL_succ (cs : List Int) (i : Int) (s d w : Nat) : wtL cs i s (d + 1) w = if rd cs (((s + w) % cs.length : Nat) : Int) = i then (w : Int) else wtL cs i s d (w + 1) := rfl

theorem wtL_spec {cs : List Int} {i : Int} {s : Nat} : ∀ (d w : Nat), (wtL cs i s d w = -1 ∧ ∀ u, w ≤ u → u < w + d → rd cs (((s + u) % cs.length : Nat) : Int) ≠ i) ∨ ∃ u : Nat, wtL cs i s d w = u ∧ w ≤ u ∧ u < w + d ∧ rd cs (((s + u) % cs.length : Nat) : Int) = i ∧ ∀ v, w ≤ v → v < u → rd cs (((s + v) % cs.length : Nat) : Int) ≠ i
  | 0, w => .inl ⟨rfl, fun u h1 h2 => by omega⟩
  | d + 1, w => by
    unfold wtL
    by_cases c : rd cs (((s + w) % cs.length : Nat) : Int) = i
    · rw [if_pos c]
      exact .inr ⟨w, rfl, by omega, by omega, c, fun v h1 h2 => by omega⟩
    · rw [if_neg c]
      rcases wtL_spec (cs := cs) (i := i) (s := s) d (w + 1) with ⟨h1, h2⟩ | ⟨u, h1, h2, h3, h4, h5⟩
      · refine .inl ⟨h1, fun u h3 h4 => ?_⟩
        by_cases e : u = w
        · rw [e]; exact c
        · exact h2 u (by omega) (by omega)
      · refine .inr ⟨u, h1, by omega, by omega, h4, fun v h6 h7 => ?_⟩
        by_cases e : v = w
        · rw [e]; exact c
        · exact h5 v (by omega) h7

theorem mem_iff {cs : List Int} {i : Int} : i ∈ cs ↔ ∃ p : Nat, p < cs.length ∧ rd cs p = i := by
  constructor
  · intro h
    obtain ⟨p, hp, e⟩ := List.getElem_of_mem h
    exact ⟨p, hp, by rw [rd_lt hp, e]⟩
  · rintro ⟨p, hp, e⟩
    rw [← e]; exact rd_mem hp

theorem wt_hit {cs : List Int} {i : Int} {s : Nat} (hi : i ∈ cs) (hs : s < cs.length) : ∃ u : Nat, wt cs i s = u ∧ u < cs.length ∧ rd cs (((s + u) % cs.length : Nat) : Int) = i ∧ ∀ v, v < u → rd cs (((s + v) % cs.length : Nat) : Int) ≠ i := by
  rcases wtL_spec (cs := cs) (i := i) (s := s) cs.length 0 with ⟨h1, h2⟩ | ⟨u, h1, h2, h3, h4, h5⟩
  · exfalso
    obtain ⟨p, hp, e⟩ := mem_iff.1 hi
    by_cases c : s ≤ p
    · refine h2 (p - s) (by omega) (by omega) ?_
      rw [show s + (p - s) = p by omega, Nat.mod_eq_of_lt hp]; exact e
    · refine h2 (p + cs.length - s) (by omega) (by omega) ?_
      rw [show s + (p + cs.length - s) = p + cs.length by omega, Nat.add_mod_right, Nat.mod_eq_of_lt hp]; exact e
  · exact ⟨u, h1, by omega, h4, fun v hv => h5 v (by omega) hv⟩

theorem wt_none {cs : List Int} {i : Int} {s : Nat} (hi : ¬ i ∈ cs) (hn : 1 ≤ cs.length) : wt cs i s = -1 := by
  rcases wtL_spec (cs := cs) (i := i) (s := s) cs.length 0 with ⟨h1, h2⟩ | ⟨u, h1, h2, h3, h4, h5⟩
  · exact h1
  · exact absurd (mem_iff.2 ⟨_, Nat.mod_lt _ hn, h4⟩) hi

theorem wt_bnd {cs : List Int} {i : Int} {s : Nat} (hi : i ∈ cs) (hs : s < cs.length) : 0 ≤ wt cs i s ∧ wt cs i s < cs.length := by
  obtain ⟨u, h1, h2, _⟩ := wt_hit hi hs
  rw [h1]; omega

/-- A slot on, one waits one slot less. -/
theorem wt_next {cs : List Int} {i : Int} {s : Nat} (hi : i ∈ cs) (hs : s < cs.length) : wt cs i s = if rd cs s = i then 0 else wt cs i ((s + 1) % cs.length) + 1 := by
  obtain ⟨u, h1, h2, h3, h4⟩ := wt_hit hi hs
  have hn : 1 ≤ cs.length := by omega
  obtain ⟨u', g1, g2, g3, g4⟩ := wt_hit (s := (s + 1) % cs.length) hi (Nat.mod_lt _ hn)
  have e : ∀ v, ((s + 1) % cs.length + v) % cs.length = (s + (v + 1)) % cs.length := fun v => by
    rw [Nat.mod_add_mod, show s + 1 + v = s + (v + 1) by omega]
  have e0 : (s + 0) % cs.length = s := by rw [Nat.add_zero, Nat.mod_eq_of_lt hs]
  by_cases c : rd cs s = i
  · rw [if_pos c, h1]
    by_cases hu : u = 0
    · rw [hu]; rfl
    · exact absurd (by rw [e0]; exact c) (h4 0 (by omega))
  · rw [if_neg c, h1, g1]
    have hu : u ≠ 0 := fun hu => by
      rw [hu, e0] at h3
      exact c h3
    have a1 : u' ≤ u - 1 := by
      by_cases c2 : u - 1 < u'
      · refine absurd ?_ (g4 (u - 1) c2)
        rw [e, show u - 1 + 1 = u by omega]; exact h3
      · omega
    have a2 : u ≤ u' + 1 := by
      by_cases c2 : u' + 1 < u
      · refine absurd ?_ (h4 (u' + 1) c2)
        rw [← e]; exact g3
      · omega
    omega

theorem tmod_nat (a n : Nat) : Int.tmod (a : Int) (n : Int) = ((a % n : Nat) : Int) := by
  rw [Int.tmod_eq_emod_of_nonneg (by omega)]
  exact (Int.natCast_emod _ _).symm

theorem spec_wait_f {k : Nat} {cs : List Int} (hk : 2097152 ≤ k) (hl : cs.length ≤ 1048576) (i : Int) {s : Nat} (hs : s < cs.length) : spec_l10Wait.f k cs i s = some (wt cs i s) := by
  have hm : ∀ a, a % cs.length < cs.length := fun a => Nat.mod_lt _ (by omega)
  have key : ∀ (d w n : Nat), cs.length - w = d → w ≤ cs.length → d < n → spec_l10Wait.l0 k n cs i s cs.length w = some (wtL cs i s d w) := by
    intro d
    induction d with
    | zero =>
      intro w n hd hw hn
      cases n with
      | zero => omega
      | succ n =>
        simp only [spec_l10Wait.l0, spec_l10Wait.s0]
        rw [if_neg (by omega)]; rfl
    | succ d ih =>
      intro w n hd hw hn
      cases n with
      | zero => omega
      | succ n =>
        have := hm (s + w)
        simp only [spec_l10Wait.l0, spec_l10Wait.s0]
        rw [w64n (by omega), show wrap64 ((s : Int) + w) = ((s + w : Nat) : Int) by rw [w64 (by omega) (by omega)]; omega, tmod_nat, if_pos (by omega), if_neg (by omega), if_pos (by omega), if_pos (by omega), ih (w + 1) n (by omega) (by omega) (by omega), wtL_succ]
        split <;> rfl
  unfold spec_l10Wait.f spec_l10Wait.g
  exact key cs.length 0 k (by omega) (by omega) (by omega)

theorem impl_wait_f {k : Nat} {cs : List Int} (hk : 2097152 ≤ k) (hl : cs.length ≤ 1048576) {i : Int} (hi : i ∈ cs) {s : Nat} (hs : s < cs.length) : impl_wait.f k cs i s = some (wt cs i s) := by
  have hm : ∀ a, a % cs.length < cs.length := fun a => Nat.mod_lt _ (by omega)
  have key : ∀ (d w n : Nat), w + d ≤ 1048576 → d < n → 0 ≤ wtL cs i s d w → impl_wait.l0 k n cs i s w = some (wtL cs i s d w) := by
    intro d
    induction d with
    | zero => intro w n hw hn h0; exact absurd h0 (by simp only [wtL]; omega)
    | succ d ih =>
      intro w n hw hn h0
      cases n with
      | zero => omega
      | succ n =>
        have := hm (s + w)
        simp only [impl_wait.l0, impl_wait.s0]
        rw [length_f, Option.bind_some, w64n (by omega), show wrap64 ((s : Int) + w) = ((s + w : Nat) : Int) by rw [w64 (by omega) (by omega)]; omega, tmod_nat, if_neg (by omega), if_pos (by omega), if_pos (by omega)]
        rw [wtL_succ] at h0 ⊢
        by_cases c : rd cs (((s + w) % cs.length : Nat) : Int) = i
        · rw [if_pos c, if_pos c]
        · rw [if_neg c] at h0
          rw [if_neg c, if_neg c]
          exact ih (w + 1) n (by omega) (by omega) h0
  unfold impl_wait.f impl_wait.g
  exact key cs.length 0 k (by omega) (by omega) (wt_bnd hi hs).1

/-! ### The codes -/

def task8 (t : Int) : Bool := decide (0 ≤ t ∧ t ≤ 7)
def memB (cs : List Int) (t : Int) : Bool := decide (t ∈ cs)
def wcode (cs : List Int) (b : Bool) (ts : List Int) : Int := if (turnsW 8 cs && (b && ts.all task8)) = true then (if ts.all (memB cs) = true then 0 else 4) else 2

theorem contains_mem {k : Nat} {l : List Int} (hk : 2097152 ≤ k) (hl : l.length ≤ 1048576) (a : Int) : slices_Contains_int64_int64.f k l a = some (memB l a) := by
  obtain ⟨b, e1, e2⟩ := contains_f (k := k) (l := l) hk hl a
  rw [e1]
  congr 1
  unfold memB
  rw [Bool.eq_iff_iff, e2, decide_eq_true_eq]
  exact ⟨fun ⟨x, h1, h2⟩ => h2 ▸ h1, fun h => ⟨a, h, rfl⟩⟩

theorem code_zero {cs ts : List Int} {b : Bool} (h : wcode cs b ts = 0) : (1 ≤ cs.length ∧ cs.length ≤ 120) ∧ b = true ∧ (∀ t ∈ ts, 0 ≤ t ∧ t ≤ 7) ∧ ∀ t ∈ ts, t ∈ cs := by
  unfold wcode at h
  split at h
  · rename_i h1
    simp only [Bool.and_eq_true] at h1
    split at h
    · rename_i h2
      unfold turnsW at h1
      rw [Bool.and_eq_true] at h1
      exact ⟨of_decide_eq_true h1.1.1, h1.2.1, fun t ht => of_decide_eq_true (List.all_eq_true.1 h1.2.2 t ht), fun t ht => of_decide_eq_true (List.all_eq_true.1 h2 t ht)⟩
    · cases h
  · cases h

/-! ### Fractions -/

end Go.Proofs.Ytmgdobiloapelaa.Vf
