/- Waits from a slot on: what program and reference give. -/
import Derived.Test.YtmgdobiloapelaaQTurns
import Derived.Test.YtmgdobiloapelaaQDraw2
set_option linter.unusedVariables false
set_option linter.unusedSimpArgs false
namespace Go.Proofs.Ytmgdobiloapelaa.Vf
open Go Go.V Go.RowKit

def wtL (cs : List Int) (i : Int) (s : Nat) : Nat → Nat → Int
  | 0, _ => -1
  | d + 1, w => if rd cs (((s + w) % cs.length : Nat) : Int) = i then (w : Int) else wtL cs i s d (w + 1)
/-- How long one who comes at a slot waits, or -1. -/
def wt (cs : List Int) (i : Int) (s : Nat) : Int := wtL cs i s cs.length 0

theorem wtL_succ (cs : List Int) (i : Int) (s d w : Nat) : wtL cs i s (d + 1) w = if rd cs (((s + w) % cs.length : Nat) : Int) = i then (w : Int) else wtL cs i s d (w + 1) := rfl

theorem wtL_spec {cs : List Int} {i : Int} {s : Nat} : ∀ (d w : Nat), (wtL cs i s d w = -1 ∧ ∀ u, w ≤ u → u < w + d → rd cs (((s + u) % cs.length : Nat) : Int) ≠ i) ∨ ∃ u : Nat, wtL cs i s d w = u ∧ w ≤ u ∧ u < w + d ∧ rd cs (((s + u) % cs.length : Nat) : Int) = i ∧ ∀ v, w ≤ v → v < u → rd cs (((s + v) % cs.length : Nat) : Int) ≠ i
  | 0, w => .inl ⟨rfl, fun u h1 h2 => by omega⟩
  | d + 1, w => by
    unfold wtL
    by_cases c : rd cs (((s + w) % cs.length : Nat) : Int) = i
    · rw [if_pos c]
      exact .inr ⟨w, rfl, by omega, by omega, c, fun v h1 h2 => by omega⟩
    · rw [if_neg c]
      rcases wtL_spec (cs := cs) (i := i) (s := s) d (w + 1) with ⟨h1, h2⟩ | ⟨u, h1, h2, h3, h4, h5⟩
      · refine .inl ⟨h1, fun u h3 h4 => ?_⟩
        by_cases e : u = w
        · rw [e]; exact c
        · exact h2 u (by omega) (by omega)
      · refine .inr ⟨u, h1, by omega, by omega, h4, fun v h6 h7 => ?_⟩
        by_cases e : v = w
        · rw [e]; exact c
        · exact h5 v (by omega) h7

theorem mem_iff {cs : List Int} {i : Int} : i ∈ cs ↔ ∃ p : Nat, p < cs.length ∧ rd cs p = i := by
  constructor
  · intro h
    obtain ⟨p, hp, e⟩ := List.getElem_of_mem h
    exact ⟨p, hp, by rw [rd_lt hp, e]⟩
  · rintro ⟨p, hp, e⟩
    rw [← e]; exact rd_mem hp

theorem wt_hit {cs : List Int} {i : Int} {s : Nat} (hi : i ∈ cs) (hs : s < cs.length) : ∃ u : Nat, wt cs i s = u ∧ u < cs.length ∧ rd cs (((s + u) % cs.length : Nat) : Int) = i ∧ ∀ v, v < u → rd cs (((s + v) % cs.length : Nat) : Int) ≠ i := by
  rcases wtL_spec (cs := cs) (i := i) (s := s) cs.length 0 with ⟨h1, h2⟩ | ⟨u, h1, h2, h3, h4, h5⟩
  · exfalso
    obtain ⟨p, hp, e⟩ := mem_iff.1 hi
    by_cases c : s ≤ p
    · refine h2 (p - s) (by omega) (by omega) ?_
      rw [show s + (p - s) = p by omega, Nat.mod_eq_of_lt hp]; exact e
    · refine h2 (p + cs.length - s) (by omega) (by omega) ?_
      rw [show s + (p + cs.length - s) = p + cs.length by omega, Nat.add_mod_right, Nat.mod_eq_of_lt hp]; exact e
  · exact ⟨u, h1, by omega, h4, fun v hv => h5 v (by omega) hv⟩

theorem wt_none {cs : List Int} {i : Int} {s : Nat} (hi : ¬ i ∈ cs) (hn : 1 ≤ cs.length) : wt cs i s = -1 := by
  rcases wtL_spec (cs := cs) (i := i) (s := s) cs.length 0 with ⟨h1, h2⟩ | ⟨u, h1, h2, h3, h4, h5⟩
  · exact h1
  · exact absurd (mem_iff.2 ⟨_, Nat.mod_lt _ hn, h4⟩) hi

theorem wt_bnd {cs : List Int} {i : Int} {s : Nat} (hi : i ∈ cs) (hs : s < cs.length) : 0 ≤ wt cs i s ∧ wt cs i s < cs.length := by
  obtain ⟨u, h1, h2, _⟩ := wt_hit hi hs
  rw [h1]; omega

/-- A slot on, one waits one slot less. -/
theorem wt_next {cs : List Int} {i : Int} {s : Nat} (hi : i ∈ cs) (hs : s < cs.length) : wt cs i s = if rd cs s = i then 0 else wt cs i ((s + 1) % cs.length) + 1 := by
  obtain ⟨u, h1, h2, h3, h4⟩ := wt_hit hi hs
  have hn : 1 ≤ cs.length := by omega
  obtain ⟨u', g1, g2, g3, g4⟩ := wt_hit (s := (s + 1) % cs.length) hi (Nat.mod_lt _ hn)
  have e : ∀ v, ((s + 1) % cs.length + v) % cs.length = (s + (v + 1)) % cs.length := fun v => by
    rw [Nat.mod_add_mod, show s + 1 + v = s + (v + 1) by omega]
  have e0 : (s + 0) % cs.length = s := by rw [Nat.add_zero, Nat.mod_eq_of_lt hs]
  by_cases c : rd cs s = i
  · rw [if_pos c, h1]
    by_cases hu : u = 0
    · rw [hu]; rfl
    · exact absurd (by rw [e0]; exact c) (h4 0 (by omega))
  · rw [if_neg c, h1, g1]
    have hu : u ≠ 0 := fun hu => by
      rw [hu, e0] at h3
      exact c h3
    have a1 : u' ≤ u - 1 := by
      by_cases c2 : u - 1 < u'
      · refine absurd ?_ (g4 (u - 1) c2)
        rw [e, show u - 1 + 1 = u by omega]; exact h3
      · omega
    have a2 : u ≤ u' + 1 := by
      by_cases c2 : u' + 1 < u
      · refine absurd ?_ (h4 (u' + 1) c2)
        rw [← e]; exact g3
      · omega
    omega

theorem tmod_nat (a n : Nat) : Int.tmod (a : Int) (n : Int) = ((a % n : Nat) : Int) := by
  rw [Int.tmod_eq_emod_of_nonneg (by omega)]
  exact (Int.natCast_emod _ _).symm

theorem spec_wait_f {k : Nat} {cs : List Int} (hk : 2097152 ≤ k) (hl : cs.length ≤ 1048576) (i : Int) {s : Nat} (hs : s < cs.length) : spec_l10Wait.f k cs i s = some (wt cs i s) := by
  have hm : ∀ a, a % cs.length < cs.length := fun a => Nat.mod_lt _ (by omega)
  have key : ∀ (d w n : Nat), cs.length - w = d → w ≤ cs.length → d < n → spec_l10Wait.l0 k n cs i s cs.length w = some (wtL cs i s d w) := by
    intro d
    induction d with
    | zero =>
      intro w n hd hw hn
      cases n with
      | zero => omega
      | succ n =>
        simp only [spec_l10Wait.l0, spec_l10Wait.s0]
        rw [if_neg (by omega)]; rfl
    | succ d ih =>
      intro w n hd hw hn
      cases n with
      | zero => omega
      | succ n =>
        have := hm (s + w)
        simp only [spec_l10Wait.l0, spec_l10Wait.s0]
        rw [w64n (by omega), show wrap64 ((s : Int) + w) = ((s + w : Nat) : Int) by rw [w64 (by omega) (by omega)]; omega, tmod_nat, if_pos (by omega), if_neg (by omega), if_pos (by omega), if_pos (by omega), ih (w + 1) n (by omega) (by omega) (by omega), wtL_succ]
        split <;> rfl
  unfold spec_l10Wait.f spec_l10Wait.g
  exact key cs.length 0 k (by omega) (by omega) (by omega)

theorem impl_wait_f {k : Nat} {cs : List Int} (hk : 2097152 ≤ k) (hl : cs.length ≤ 1048576) {i : Int} (hi : i ∈ cs) {s : Nat} (hs : s < cs.length) : impl_wait.f k cs i s = some (wt cs i s) := by
  have hm : ∀ a, a % cs.length < cs.length := fun a => Nat.mod_lt _ (by omega)
  have key : ∀ (d w n : Nat), w + d ≤ 1048576 → d < n → 0 ≤ wtL cs i s d w → impl_wait.l0 k n cs i s w = some (wtL cs i s d w) := by
    intro d
    induction d with
    | zero => intro w n hw hn h0; exact absurd h0 (by simp only [wtL]; omega)
    | succ d ih =>
      intro w n hw hn h0
      cases n with
      | zero => omega
      | succ n =>
        have := hm (s + w)
        simp only [impl_wait.l0, impl_wait.s0]
        rw [length_f, Option.bind_some, w64n (by omega), show wrap64 ((s : Int) + w) = ((s + w : Nat) : Int) by rw [w64 (by omega) (by omega)]; omega, tmod_nat, if_neg (by omega), if_pos (by omega), if_pos (by omega)]
        rw [wtL_succ] at h0 ⊢
        by_cases c : rd cs (((s + w) % cs.length : Nat) : Int) = i
        · rw [if_pos c, if_pos c]
        · rw [if_neg c] at h0
          rw [if_neg c, if_neg c]
          exact ih (w + 1) n (by omega) (by omega) h0
  unfold impl_wait.f impl_wait.g
  exact key cs.length 0 k (by omega) (by omega) (wt_bnd hi hs).1

/-! ### The codes -/

def task8 (t : Int) : Bool := decide (0 ≤ t ∧ t ≤ 7)
def memB (cs : List Int) (t : Int) : Bool := decide (t ∈ cs)
def wcode (cs : List Int) (b : Bool) (ts : List Int) : Int := if (turnsW 8 cs && (b && ts.all task8)) = true then (if ts.all (memB cs) = true then 0 else 4) else 2

theorem contains_mem {k : Nat} {l : List Int} (hk : 2097152 ≤ k) (hl : l.length ≤ 1048576) (a : Int) : slices_Contains_int64_int64.f k l a = some (memB l a) := by
  obtain ⟨b, e1, e2⟩ := contains_f (k := k) (l := l) hk hl a
  rw [e1]
  congr 1
  unfold memB
  rw [Bool.eq_iff_iff, e2, decide_eq_true_eq]
  exact ⟨fun ⟨x, h1, h2⟩ => h2 ▸ h1, fun h => ⟨a, h, rfl⟩⟩

theorem areAll_any {k : Nat} {l : List Int} (hk : 2097152 ≤ k) (hl : l.length ≤ 1048576) : impl_areAll_int64_impl_isAnyTask.f k l () = some (l.all task8) := by
  obtain ⟨j, h1, h2⟩ := idx_run (L := slices_IndexFunc_int64_int64_impl_areAll_int64_1_impl_isAnyTask.l0 k) (p := fun x => !task8 x) (l := l) (c := ())
    (fun n i hi => by
      simp only [slices_IndexFunc_int64_int64_impl_areAll_int64_1_impl_isAnyTask.l0, slices_IndexFunc_int64_int64_impl_areAll_int64_1_impl_isAnyTask.s0]
      rw [if_pos (by omega), if_pos (by omega), if_pos (by omega)]
      simp only [impl_areAll_int64_1_impl_isAnyTask.f, impl_isAnyTask.f, within_f, Option.bind_some, w64n (show i ≤ 9223372036854775806 by omega)]
      unfold task8
      cases decide (0 ≤ rd l i ∧ rd l i ≤ 7) <;> simp)
    (fun n => by
      simp only [slices_IndexFunc_int64_int64_impl_areAll_int64_1_impl_isAnyTask.l0, slices_IndexFunc_int64_int64_impl_areAll_int64_1_impl_isAnyTask.s0]
      rw [if_neg (by omega)]) l.length 0 k (by omega) (by omega) (by omega)
  unfold impl_areAll_int64_impl_isAnyTask.f slices_ContainsFunc_int64_int64_impl_areAll_int64_1_impl_isAnyTask.f slices_IndexFunc_int64_int64_impl_areAll_int64_1_impl_isAnyTask.f slices_IndexFunc_int64_int64_impl_areAll_int64_1_impl_isAnyTask.g
  rw [show slices_IndexFunc_int64_int64_impl_areAll_int64_1_impl_isAnyTask.l0 k k l () l.length 0 = some j from h1, Option.bind_some, Option.bind_some]
  rw [List.drop_zero] at h2
  congr 1
  exact all_iff (p := fun x => !task8 x) (fun _ => rfl) h2

theorem areAll_mem {k : Nat} {l cs : List Int} (hk : 2097152 ≤ k) (hl : l.length ≤ 1048576) (hc : cs.length ≤ 1048576) : impl_areAll_int64_impl_waitCode_1.f k l cs = some (l.all (memB cs)) := by
  obtain ⟨j, h1, h2⟩ := idx_run (L := slices_IndexFunc_int64_int64_impl_areAll_int64_1_impl_waitCode_1.l0 k) (p := fun x => !memB cs x) (l := l) (c := cs)
    (fun n i hi => by
      simp only [slices_IndexFunc_int64_int64_impl_areAll_int64_1_impl_waitCode_1.l0, slices_IndexFunc_int64_int64_impl_areAll_int64_1_impl_waitCode_1.s0]
      rw [if_pos (by omega), if_pos (by omega), if_pos (by omega)]
      simp only [impl_areAll_int64_1_impl_waitCode_1.f, impl_waitCode_1.f, contains_mem hk hc, Option.bind_some, w64n (show i ≤ 9223372036854775806 by omega)]
      cases memB cs (rd l i) <;> simp)
    (fun n => by
      simp only [slices_IndexFunc_int64_int64_impl_areAll_int64_1_impl_waitCode_1.l0, slices_IndexFunc_int64_int64_impl_areAll_int64_1_impl_waitCode_1.s0]
      rw [if_neg (by omega)]) l.length 0 k (by omega) (by omega) (by omega)
  unfold impl_areAll_int64_impl_waitCode_1.f slices_ContainsFunc_int64_int64_impl_areAll_int64_1_impl_waitCode_1.f slices_IndexFunc_int64_int64_impl_areAll_int64_1_impl_waitCode_1.f slices_IndexFunc_int64_int64_impl_areAll_int64_1_impl_waitCode_1.g
  rw [show slices_IndexFunc_int64_int64_impl_areAll_int64_1_impl_waitCode_1.l0 k k l cs l.length 0 = some j from h1, Option.bind_some, Option.bind_some]
  rw [List.drop_zero] at h2
  congr 1
  exact all_iff (p := fun x => !memB cs x) (fun _ => rfl) h2

theorem impl_code_f {k : Nat} {cs ts : List Int} (hk : 2097152 ≤ k) (hl : cs.length ≤ 1048576) (ht : ts.length ≤ 1048576) (b : Bool) : impl_waitCode.f k cs b ts = some (wcode cs b ts) := by
  unfold impl_waitCode.f wcode
  rw [areTurnsW hk hl, Option.bind_some, areAll_any hk ht, Option.bind_some, areAll_mem hk ht hl, Option.bind_some]
  cases turnsW 8 cs <;> cases b <;> cases ts.all task8 <;> cases ts.all (memB cs) <;> rfl

theorem code_zero {cs ts : List Int} {b : Bool} (h : wcode cs b ts = 0) : (1 ≤ cs.length ∧ cs.length ≤ 120) ∧ b = true ∧ (∀ t ∈ ts, 0 ≤ t ∧ t ≤ 7) ∧ ∀ t ∈ ts, t ∈ cs := by
  unfold wcode at h
  split at h
  · rename_i h1
    simp only [Bool.and_eq_true] at h1
    split at h
    · rename_i h2
      unfold turnsW at h1
      rw [Bool.and_eq_true] at h1
      exact ⟨of_decide_eq_true h1.1.1, h1.2.1, fun t ht => of_decide_eq_true (List.all_eq_true.1 h1.2.2 t ht), fun t ht => of_decide_eq_true (List.all_eq_true.1 h2 t ht)⟩
    · cases h
  · cases h

/-! ### Fractions -/

theorem gcd_run {k : Nat} : ∀ (b : Nat) (a : Int), 0 ≤ a → ∃ g : Int, (0 ≤ g ∧ g ∣ a ∧ g ∣ (b : Int) ∧ (1 ≤ b → 1 ≤ g) ∧ (1 ≤ a → 1 ≤ g)) ∧ ∀ n, b < n → impl_divisor.l0 k n a b = some g ∧ spec_l01Gcd.l0 k n a b = some g := by
  intro b
  induction b using Nat.strongRecOn with
  | _ b ih =>
    intro a ha
    by_cases hb : b = 0
    · subst hb
      refine ⟨a, ⟨ha, Int.dvd_refl a, ⟨0, by simp⟩, fun h => by omega, fun h => h⟩, fun n hn => ?_⟩
      cases n with
      | zero => omega
      | succ n =>
        simp only [impl_divisor.l0, impl_divisor.s0, spec_l01Gcd.l0, spec_l01Gcd.s0]
        exact ⟨if_pos rfl, if_pos rfl⟩
    · have m0 := Int.emod_nonneg a (show (b : Int) ≠ 0 by omega)
      have m1 := Int.emod_lt_of_pos a (show (0 : Int) < b by omega)
      obtain ⟨r, hr⟩ := Int.eq_ofNat_of_zero_le m0
      obtain ⟨g, ⟨g0, g1, g2, g3, g4⟩, h⟩ := ih r (by omega) (b : Int) (by omega)
      refine ⟨g, ⟨g0, ?_, g1, fun _ => g4 (by omega), fun _ => g4 (by omega)⟩, fun n hn => ?_⟩
      · have e := Int.mul_ediv_add_emod a (b : Int)
        rw [hr] at e
        rw [← e]
        exact Int.dvd_add (Int.dvd_mul_of_dvd_left g1) g2
      · cases n with
        | zero => omega
        | succ n =>
          simp only [impl_divisor.l0, impl_divisor.s0, spec_l01Gcd.l0, spec_l01Gcd.s0]
          rw [if_neg (by omega), if_neg (by omega), if_neg (by omega), if_neg (by omega), Int.tmod_eq_emod_of_nonneg ha, hr]
          exact h n (by omega)

/-- A fraction in lowest terms. -/
theorem fraction_ok {k : Nat} (hk : 2097152 ≤ k) {a : Int} {b : Nat} (ha : 0 ≤ a) (ha2 : a ≤ 1000000000000) (hb : 1 ≤ b) (hb2 : b ≤ 1000000) : ∃ t w g : Int, 1 ≤ g ∧ g * t = a ∧ g * w = b ∧ impl_fraction.f k a b = some (t, w, 0) ∧ spec_l01Lowest.f k a b = some (t, w) := by
  obtain ⟨g, ⟨g0, g1, g2, g3, g4⟩, h⟩ := gcd_run (k := k) b a ha
  obtain ⟨e1, e2⟩ := h k (by omega)
  have hg := g3 hb
  obtain ⟨t, rfl⟩ := g1
  obtain ⟨w, hw⟩ := g2
  have d1 : Int.tdiv (g * t) g = t := Int.mul_tdiv_cancel_left t (by omega)
  have d2 : Int.tdiv (b : Int) g = w := by rw [hw]; exact Int.mul_tdiv_cancel_left w (by omega)
  have t0 : 0 ≤ t := by
    by_cases c : 0 ≤ t
    · exact c
    · have := Int.mul_le_mul_of_nonneg_left (show t ≤ -1 by omega) g0
      omega
  have t1 : t ≤ g * t := by
    have := Int.mul_le_mul_of_nonneg_right hg t0
    omega
  have w0 : 0 ≤ w := by
    by_cases c : 0 ≤ w
    · exact c
    · have := Int.mul_le_mul_of_nonneg_left (show w ≤ -1 by omega) g0
      omega
  have w1 : w ≤ g * w := by
    have := Int.mul_le_mul_of_nonneg_right hg w0
    omega
  refine ⟨t, w, g, hg, rfl, hw.symm, ?_, ?_⟩
  · unfold impl_fraction.f impl_divisor.f impl_divisor.g
    rw [e1, Option.bind_some, if_neg (by omega), if_neg (by omega), d1, d2, w64 (by omega) (by omega), w64 (by omega) (by omega)]
  · unfold spec_l01Lowest.f spec_l01Gcd.f spec_l01Gcd.g
    rw [e2, Option.bind_some, if_neg (by omega), if_neg (by omega), d1, d2, w64 (by omega) (by omega), w64 (by omega) (by omega)]

end Go.Proofs.Ytmgdobiloapelaa.Vf
