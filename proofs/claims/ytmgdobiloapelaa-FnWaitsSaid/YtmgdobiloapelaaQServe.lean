/- Turns that go round through states serve. -/
import Derived.Test.YtmgdobiloapelaaQDraw
import Derived.Test.YtmgdobiloapelaaQ01
set_option linter.unusedVariables false
set_option linter.unusedSimpArgs false
namespace Go.Proofs.Ytmgdobiloapelaa.Vf
open Go Go.V Go.RowKit

theorem rd_app1 (P : List Int) (x : Int) (j : Nat) : rd (P ++ [x]) j = if j < P.length then rd P j else if j = P.length then x else 0 := by
  rw [rd_nat, rd_nat, List.getD_eq_getElem?_getD, List.getD_eq_getElem?_getD]
  by_cases h : j < P.length
  · rw [if_pos h, List.getElem?_append_left h]
  · rw [if_neg h, List.getElem?_append_right (by omega)]
    by_cases e : j = P.length
    · rw [if_pos e, e]; simp
    · rw [if_neg e, List.getElem?_eq_none (by simp; omega)]; rfl

/-- What a task has left, slot by slot. -/
structure Turn (cs : List Int) (t g : Int) (X : Nat → Int) : Prop where
  st : ∀ j : Nat, j < cs.length → X (j + 1) = if rd cs j = t then g else X j - 1
  bd : ∀ j : Nat, j ≤ cs.length → 1 ≤ X j ∧ X j ≤ g
  ret : X cs.length = X 0

/-- The places that are found. -/
structure PlI (t g : Int) (X : Nat → Int) (i : Nat) (P : List Int) : Prop where
  len : P.length ≤ i
  el : ∀ j : Nat, j < P.length → 0 ≤ rd P j ∧ rd P j < i
  df : ∀ j : Nat, j + 1 < P.length → rd P ((j + 1 : Nat) : Int) - rd P j ≤ g
  no : P.length = 0 → X i = X 0 - i
  la : 1 ≤ P.length → X i = g - (i - rd P ((P.length - 1 : Nat) : Int) - 1)
  fi : 1 ≤ P.length → X (rd P ((0 : Nat) : Int)).toNat = X 0 - rd P ((0 : Nat) : Int)

theorem PlI.skip {cs : List Int} {t g : Int} {X : Nat → Int} (T : Turn cs t g X) {i : Nat} {P : List Int} (I : PlI t g X i P) (hi : i < cs.length) (h : ¬ rd cs i = t) : PlI t g X (i + 1) P := by
  have hs := T.st i hi
  rw [if_neg h] at hs
  have hl := I.len
  refine ⟨by omega, fun j hj => ?_, I.df, fun h0 => ?_, fun h1 => ?_, I.fi⟩
  · have := I.el j hj; omega
  · have := I.no h0; rw [hs, this]; push_cast; omega
  · have := I.la h1; rw [hs, this]; push_cast; omega

theorem PlI.take {cs : List Int} {t g : Int} {X : Nat → Int} (T : Turn cs t g X) {i : Nat} {P : List Int} (I : PlI t g X i P) (hi : i < cs.length) (h : rd cs i = t) : PlI t g X (i + 1) (P ++ [(i : Int)]) := by
  have hs := T.st i hi
  rw [if_pos h] at hs
  have hb := T.bd i (by omega)
  have hl := I.len
  have e1 : (P ++ [(i : Int)]).length = P.length + 1 := by simp
  refine ⟨by omega, fun j hj => ?_, fun j hj => ?_, fun h0 => by omega, fun h1 => ?_, fun h1 => ?_⟩
  · rw [rd_app1]
    split
    · rename_i hlt; have := I.el j hlt; omega
    · rw [if_pos (by omega)]; omega
  · rw [rd_app1, rd_app1]
    by_cases c : j + 1 < P.length
    · rw [if_pos c, if_pos (by omega)]; exact I.df j c
    · have hj' : j + 1 = P.length := by omega
      rw [if_neg c, if_pos hj', if_pos (by omega)]
      have := I.la (by omega)
      rw [show P.length - 1 = j by omega] at this
      omega
  · rw [e1, show P.length + 1 - 1 = P.length by omega, rd_app1, if_neg (by omega), if_pos rfl, hs]; push_cast; omega
  · rw [rd_app1]
    by_cases c : 0 < P.length
    · rw [if_pos c]; exact I.fi (by omega)
    · rw [if_neg c, if_pos (by omega), Int.toNat_natCast]
      exact I.no (by omega)

theorem waits_l1 {k : Nat} {cs P : List Int} {t g : Int} {X : Nat → Int} (T : Turn cs t g X) (hn : cs.length ≤ 1048576) (I : PlI t g X cs.length P) (hP : 1 ≤ P.length) : ∀ (d j n : Nat) (out : List Int), P.length - j = d → j ≤ P.length → out.length = j → (∀ x ∈ out, x ≤ g) → d < n →
    Gv (impl_waits.l1 k n cs P out P.length j) fun w => 1 ≤ w.length ∧ w.length ≤ 1048576 ∧ ∀ x ∈ w, x ≤ g := by
  have hl := I.len
  intro d
  induction d with
  | zero =>
    intro j n out hd hj ho hout hn'
    cases n with
    | zero => omega
    | succ n =>
      simp only [impl_waits.l1, impl_waits.s1]
      exact Gv.neg (by omega) (Gv.ok ⟨by omega, by omega, hout⟩)
  | succ d ih =>
    intro j n out hd hj ho hout hn'
    cases n with
    | zero => omega
    | succ n =>
      simp only [impl_waits.l1, impl_waits.s1]
      rw [w64n (by omega)]
      have hj' := I.el j (by omega)
      refine Gv.pos (by omega) (Gv.pos (by omega) (Gv.pos (by omega) ?_))
      have app : ∀ y : Int, y ≤ g → ∀ x ∈ out ++ [y], x ≤ g := by
        intro y hy x hx
        rcases List.mem_append.1 hx with hx | hx
        · exact hout x hx
        · simp only [List.mem_singleton] at hx; omega
      by_cases c : j + 1 < P.length
      · have h1 := I.el (j + 1) c
        have h2 := I.df j c
        refine Gv.pos (by omega) (Gv.pos (by omega) (Gv.pos (by omega) (Gv.pos (by omega) ?_)))
        rw [w64 (x := rd P ((j + 1 : Nat) : Int) - rd P j) (by omega) (by omega)]
        exact ih (j + 1) n _ (by omega) (by omega) (by simp; omega) (app _ h2) (by omega)
      · have h1 := I.el 0 (by omega)
        have h2 := I.la hP
        have h3 := I.fi hP
        have h4 := T.ret
        have h5 := T.bd (rd P ((0 : Nat) : Int)).toNat (by omega)
        rw [show P.length - 1 = j by omega] at h2
        refine Gv.neg (by omega) (Gv.pos (by omega) ?_)
        rw [length_f, Option.bind_some]
        refine Gv.pos (by omega) ?_
        have e0 : rd P 0 = rd P ((0 : Nat) : Int) := rfl
        rw [e0, w64 (x := rd P ((0 : Nat) : Int) + cs.length) (by omega) (by omega), w64 (x := rd P ((0 : Nat) : Int) + cs.length - rd P j) (by omega) (by omega)]
        exact ih (j + 1) n _ (by omega) (by omega) (by simp; omega) (app _ (by omega)) (by omega)

theorem waits_f {k : Nat} {cs : List Int} {t g : Int} {X : Nat → Int} (hk : 2097152 ≤ k) (T : Turn cs t g X) (h1 : 1 ≤ cs.length) (hn : cs.length ≤ 1048576) : Gv (impl_waits.f k cs t) fun w => 1 ≤ w.length ∧ w.length ≤ 1048576 ∧ ∀ x ∈ w, x ≤ g := by
  have key : ∀ (d i n : Nat) (P : List Int), cs.length - i = d → i ≤ cs.length → PlI t g X i P → d < n → Gv (impl_waits.l0 k n cs t P cs cs.length i) fun w => 1 ≤ w.length ∧ w.length ≤ 1048576 ∧ ∀ x ∈ w, x ≤ g := by
    intro d
    induction d with
    | zero =>
      intro i n P hd hi I hn'
      obtain rfl : i = cs.length := by omega
      cases n with
      | zero => omega
      | succ n =>
        simp only [impl_waits.l0, impl_waits.s0]
        refine Gv.neg (by omega) ?_
        have hl := I.len
        have hP : 1 ≤ P.length := by
          by_cases c : P.length = 0
          · have := I.no c; have := T.ret; omega
          · omega
        exact waits_l1 T hn I hP P.length 0 k [] (by omega) (by omega) rfl (by simp) (by omega)
    | succ d ih =>
      intro i n P hd hi I hn'
      cases n with
      | zero => omega
      | succ n =>
        have hl := I.len
        simp only [impl_waits.l0, impl_waits.s0]
        rw [w64n (by omega)]
        refine Gv.pos (by omega) (Gv.pos (by omega) (Gv.pos (by omega) (Gv.ite (fun c => Gv.pos (by omega) ?_) fun c => ?_)))
        · exact ih (i + 1) n _ (by omega) (by omega) (I.take T (by omega) c) (by omega)
        · exact ih (i + 1) n _ (by omega) (by omega) (I.skip T (by omega) c) (by omega)
  unfold impl_waits.f impl_waits.g
  exact key cs.length 0 k [] (by omega) (by omega) ⟨by simp, fun j hj => by simp at hj, fun j hj => by simp at hj, fun _ => by simp, fun h => by simp at h, fun h => by simp at h⟩ (by omega)

def turnB (m : Int) (c : Int) : Bool := decide (-1 ≤ c ∧ c ≤ m - 1)

theorem areTurns_all {k : Nat} {l : List Int} {m : Int} (hk : 2097152 ≤ k) (hl : l.length ≤ 1048576) (hm : 0 ≤ m) (hm2 : m ≤ 1048576) : impl_areAll_int64_impl_areTurns_1.f k l m = some (l.all (turnB m)) := by
  obtain ⟨j, h1, h2⟩ := idx_run (L := slices_IndexFunc_int64_int64_impl_areAll_int64_1_impl_areTurns_1.l0 k) (p := fun x => !turnB m x) (l := l) (c := m)
    (fun n i hi => by
      simp only [slices_IndexFunc_int64_int64_impl_areAll_int64_1_impl_areTurns_1.l0, slices_IndexFunc_int64_int64_impl_areAll_int64_1_impl_areTurns_1.s0]
      rw [if_pos (by omega), if_pos (by omega), if_pos (by omega)]
      simp only [impl_areAll_int64_1_impl_areTurns_1.f, impl_areTurns_1.f, within_f, Option.bind_some, w64n (show i ≤ 9223372036854775806 by omega), w64 (x := m - 1) (by omega) (by omega)]
      unfold turnB
      cases decide (-1 ≤ rd l i ∧ rd l i ≤ m - 1) <;> simp)
    (fun n => by
      simp only [slices_IndexFunc_int64_int64_impl_areAll_int64_1_impl_areTurns_1.l0, slices_IndexFunc_int64_int64_impl_areAll_int64_1_impl_areTurns_1.s0]
      rw [if_neg (by omega)]) l.length 0 k (by omega) (by omega) (by omega)
  unfold impl_areAll_int64_impl_areTurns_1.f slices_ContainsFunc_int64_int64_impl_areAll_int64_1_impl_areTurns_1.f slices_IndexFunc_int64_int64_impl_areAll_int64_1_impl_areTurns_1.f slices_IndexFunc_int64_int64_impl_areAll_int64_1_impl_areTurns_1.g
  rw [show slices_IndexFunc_int64_int64_impl_areAll_int64_1_impl_areTurns_1.l0 k k l m l.length 0 = some j from h1, Option.bind_some, Option.bind_some]
  rw [List.drop_zero] at h2
  congr 1
  exact all_iff (p := fun x => !turnB m x) (fun _ => rfl) h2

end Go.Proofs.Ytmgdobiloapelaa.Vf
