/- Turns that go round through states serve. -/
import Derived.Test.YtmgdobiloapelaaQDraw
import Derived.Test.YtmgdobiloapelaaQ01
set_option linter.unusedVariables false
set_option linter.unusedSimpArgs false
namespace Go.Proofs.Ytmgdobiloapelaa.Vf
open Go Go.V Go.RowKit

theorem rd_app1 (P : List Int) (x : Int) (j : Nat) : rd (P ++ [x]) j = if j < P.length then rd P j else if j = P.length then x else 0 := by
  rw [rd_nat, rd_nat, List.getD_eq_getElem?_getD, List.getD_eq_getElem?_getD]
  by_cases h : j < P.length
  · rw [if_pos h, List.getElem?_append_left h]
  · rw [if_neg h, List.getElem?_append_right (by omega)]
    by_cases e : j = P.length
    · rw [if_pos e, e]; simp
    · rw [if_neg e, List.getElem?_eq_none (by simp; omega)]; rfl

/-- What a task has left, slot by slot. -/
structure Turn (cs : List Int) (t g : Int) (X : Nat → Int) : Prop where
  st : ∀ j : Nat, j < cs.length → X (j + 1) = if rd cs j = t then g else X j - 1
  bd : ∀ j : Nat, j ≤ cs.length → 1 ≤ X j ∧ X j ≤ g
  ret : X cs.length = X 0

/-- The places that are found. -/
structure PlI (t g : Int) (X : Nat → Int) (i : Nat) (P : List Int) : Prop where
  len : P.length ≤ i
  el : ∀ j : Nat, j < P.length → 0 ≤ rd P j ∧ rd P j < i
  df : ∀ j : Nat, j + 1 < P.length → rd P ((j + 1 : Nat) : Int) - rd P j ≤ g
  no : P.length = 0 → X i = X 0 - i
  la : 1 ≤ P.length → X i = g - (i - rd P ((P.length - 1 : Nat) : Int) - 1)
  fi : 1 ≤ P.length → X (rd P ((0 : Nat) : Int)).toNat = X 0 - rd P ((0 : Nat) : Int)

theorem PlI.skip {cs : List Int} {t g : Int} {X : Nat → Int} (T : Turn cs t g X) {i : Nat} {P : List Int} (I : PlI t g X i P) (hi : i < cs.length) (h : ¬ rd cs i = t) : PlI t g X (i + 1) P := by
  have hs := T.st i hi
  rw [if_neg h] at hs
  have hl := I.len
  refine ⟨by omega, fun j hj => ?_, I.df, fun h0 => ?_, fun h1 => ?_, I.fi⟩
  · have := I.el j hj; omega
  · have := I.no h0; rw [hs, this]; push_cast; omega
  · have := I.la h1; rw [hs, this]; push_cast; omega

theorem PlI.take {cs : List Int} {t g : Int} {X : Nat → Int} (T : Turn cs t g X) {i : Nat} {P : List Int} (I : PlI t g X i P) (hi : i < cs.length) (h : rd cs i = t) : PlI t g X (i + 1) (P ++ [(i : Int)]) := by
  have hs := T.st i hi
  rw [if_pos h] at hs
  have hb := T.bd i (by omega)
  have hl := I.len
  have e1 : (P ++ [(i : Int)]).length = P.length + 1 := by simp
  refine ⟨by omega, fun j hj => ?_, fun j hj => ?_, fun h0 => by omega, fun h1 => ?_, fun h1 => ?_⟩
  · rw [rd_app1]
    split
    · rename_i hlt; have := I.el j hlt; omega
    · rw [if_pos (by omega)]; omega
  · rw [rd_app1, rd_app1]
    by_cases c : j + 1 < P.length
    · rw [if_pos c, if_pos (by omega)]; exact I.df j c
    · have hj' : j + 1 = P.length := by omega
      rw [if_neg c, if_pos hj', if_pos (by omega)]
      have := I.la (by omega)
      rw [show P.length - 1 = j by omega] at this
      omega
  · rw [e1, show P.length + 1 - 1 = P.length by omega, rd_app1, if_neg (by omega), if_pos rfl, hs]; push_cast; omega
  · rw [rd_app1]
    by_cases c : 0 < P.length
    · rw [if_pos c]; exact I.fi (by omega)
    · rw [if_neg c, if_pos (by omega), Int.toNat_natCast]
      exact I.no (by omega)

theorem waits_l1 {k : Nat} {cs P : List Int} {t g : Int} {X : Nat → Int} (T : Turn cs t g X) (hn : cs.length ≤ 1048576) (I : PlI t g X cs.length P) (hP : 1 ≤ P.length) : ∀ (d j n : Nat) (out : List Int), P.length - j = d → j ≤ P.length → out.length = j → (∀ x ∈ out, x ≤ g) → d < n →
    Gv (impl_waits.l1 k n cs P out P.length j) fun w => 1 ≤ w.length ∧ w.length ≤ 1048576 ∧ ∀ x ∈ w, x ≤ g := by
  have hl := I.len
  intro d
  induction d with
  | zero =>
    intro j n out hd hj ho hout hn'
    cases n with
    | zero => omega
    | succ n =>
      simp only [impl_waits.l1, impl_waits.s1]
      exact Gv.neg (by omega) (Gv.ok ⟨by omega, by omega, hout⟩)
  | succ d ih =>
    intro j n out hd hj ho hout hn'
    cases n with
    | zero => omega
    | succ n =>
      simp only [impl_waits.l1, impl_waits.s1]
      rw [w64n (by omega)]
      have hj' := I.el j (by omega)
      refine Gv.pos (by omega) (Gv.pos (by omega) (Gv.pos (by omega) ?_))
      have app : ∀ y : Int, y ≤ g → ∀ x ∈ out ++ [y], x ≤ g := by
        intro y hy x hx
        rcases List.mem_append.1 hx with hx | hx
        · exact hout x hx
        · simp only [List.mem_singleton] at hx; omega
      by_cases c : j + 1 < P.length
      · have h1 := I.el (j + 1) c
        have h2 := I.df j c
        refine Gv.pos (by omega) (Gv.pos (by omega) (Gv.pos (by omega) (Gv.pos (by omega) ?_)))
        rw [w64 (x := rd P ((j + 1 : Nat) : Int) - rd P j) (by omega) (by omega)]
        exact ih (j + 1) n _ (by omega) (by omega) (by simp; omega) (app _ h2) (by omega)
      · have h1 := I.el 0 (by omega)
        have h2 := I.la hP
        have h3 := I.fi hP
        have h4 := T.ret
        have h5 := T.bd (rd P ((0 : Nat) : Int)).toNat (by omega)
        rw [show P.length - 1 = j by omega] at h2
        refine Gv.neg (by omega) (Gv.pos (by omega) ?_)
        rw [length_f, Option.bind_some]
        refine Gv.pos (by omega) ?_
        have e0 : rd P 0 = rd P ((0 : Nat) : Int) := rfl
        rw [e0, w64 (x := rd P ((0 : Nat) : Int) + cs.length) (by omega) (by omega), w64 (x := rd P ((0 : Nat) : Int) + cs.length - rd P j) (by omega) (by omega)]
        exact ih (j + 1) n _ (by omega) (by omega) (by simp; omega) (app _ (by omega)) (by omega)

theorem waits_f {k : Nat} {cs : List Int} {t g : Int} {X : Nat → Int} (hk : 2097152 ≤ k) (T : Turn cs t g X) (h1 : 1 ≤ cs.length) (hn : cs.length ≤ 1048576) : Gv (impl_waits.f k cs t) fun w => 1 ≤ w.length ∧ w.length ≤ 1048576 ∧ ∀ x ∈ w, x ≤ g := by
  have key : ∀ (d i n : Nat) (P : List Int), cs.length - i = d → i ≤ cs.length → PlI t g X i P → d < n → Gv (impl_waits.l0 k n cs t P cs cs.length i) fun w => 1 ≤ w.length ∧ w.length ≤ 1048576 ∧ ∀ x ∈ w, x ≤ g := by
    intro d
    induction d with
    | zero =>
      intro i n P hd hi I hn'
      obtain rfl : i = cs.length := by omega
      cases n with
      | zero => omega
      | succ n =>
        simp only [impl_waits.l0, impl_waits.s0]
        refine Gv.neg (by omega) ?_
        have hl := I.len
        have hP : 1 ≤ P.length := by
          by_cases c : P.length = 0
          · have := I.no c; have := T.ret; omega
          · omega
        exact waits_l1 T hn I hP P.length 0 k [] (by omega) (by omega) rfl (by simp) (by omega)
    | succ d ih =>
      intro i n P hd hi I hn'
      cases n with
      | zero => omega
      | succ n =>
        have hl := I.len
        simp only [impl_waits.l0, impl_waits.s0]
        rw [w64n (by omega)]
        refine Gv.pos (by omega) (Gv.pos (by omega) (Gv.pos (by omega) (Gv.ite (fun c => Gv.pos (by omega) ?_) fun c => ?_)))
        · exact ih (i + 1) n _ (by omega) (by omega) (I.take T (by omega) c) (by omega)
        · exact ih (i + 1) n _ (by omega) (by omega) (I.skip T (by omega) c) (by omega)
  unfold impl_waits.f impl_waits.g
  exact key cs.length 0 k [] (by omega) (by omega) ⟨by simp, fun j hj => by simp at hj, fun j hj => by simp at hj, fun _ => by simp, fun h => by simp at h, fun h => by simp at h⟩ (by omega)

theorem greatest_le {k : Nat} {w : List Int} {g : Int} (hk : 2097152 ≤ k) (hw : w.length ≤ 1048576) (hg : 0 ≤ g) (h : ∀ x ∈ w, x ≤ g) : Gv (impl_greatest.f k w) fun r => r ≤ g := by
  have key : ∀ (d i n : Nat) (x : Int), w.length - i = d → i ≤ w.length → x ≤ g → d < n → Gv (impl_greatest.l0 k n x w w.length i) fun r => r ≤ g := by
    intro d
    induction d with
    | zero =>
      intro i n x hd hi hx hn
      cases n with
      | zero => omega
      | succ n =>
        simp only [impl_greatest.l0, impl_greatest.s0]
        exact Gv.neg (by omega) (Gv.ok hx)
    | succ d ih =>
      intro i n x hd hi hx hn
      cases n with
      | zero => omega
      | succ n =>
        simp only [impl_greatest.l0, impl_greatest.s0]
        rw [w64n (by omega)]
        have := h _ (rd_mem (l := w) (i := i) (by omega))
        refine Gv.pos (by omega) (Gv.pos (by omega) (Gv.pos (by omega) (ih (i + 1) n _ (by omega) (by omega) ?_ (by omega))))
        unfold maxV; split <;> omega
  unfold impl_greatest.f impl_greatest.g
  exact key w.length 0 k 0 (by omega) (by omega) hg (by omega)

theorem serves_f {k : Nat} {G cs : List Int} (hk : 2097152 ≤ k) (hG : G.length ≤ 1048576) (h1 : 1 ≤ cs.length) (hn : cs.length ≤ 1048576) (hg : ∀ t : Nat, t < G.length → 0 ≤ rd G t ∧ ∃ X, Turn cs (t : Int) (rd G t) X) : impl_Tasks_serves.f k G cs = some true := by
  have key : ∀ (d i n : Nat), G.length - i = d → i ≤ G.length → d < n → impl_Tasks_serves.l0 k n cs G G.length i = some true := by
    intro d
    induction d with
    | zero =>
      intro i n hd hi hn'
      cases n with
      | zero => omega
      | succ n =>
        simp only [impl_Tasks_serves.l0, impl_Tasks_serves.s0]
        rw [if_neg (by omega)]
    | succ d ih =>
      intro i n hd hi hn'
      cases n with
      | zero => omega
      | succ n =>
        obtain ⟨g0, X, T⟩ := hg i (by omega)
        obtain ⟨w, e1, w1, w2, w3⟩ := waits_f hk T h1 hn
        obtain ⟨r, e2, hr⟩ := greatest_le hk w2 g0 w3
        simp only [impl_Tasks_serves.l0, impl_Tasks_serves.s0]
        rw [w64n (by omega), if_pos (by omega), if_pos (by omega), if_pos (by omega), e1, Option.bind_some, if_neg (by omega), e2, Option.bind_some, if_neg (by omega)]
        exact ih (i + 1) n (by omega) (by omega) (by omega)
  unfold impl_Tasks_serves.f impl_Tasks_serves.g
  exact key G.length 0 k (by omega) (by omega) (by omega)

def turnB (m : Int) (c : Int) : Bool := decide (-1 ≤ c ∧ c ≤ m - 1)

theorem areTurns_all {k : Nat} {l : List Int} {m : Int} (hk : 2097152 ≤ k) (hl : l.length ≤ 1048576) (hm : 0 ≤ m) (hm2 : m ≤ 1048576) : impl_areAll_int64_impl_areTurns_1.f k l m = some (l.all (turnB m)) := by
  obtain ⟨j, h1, h2⟩ := idx_run (L := slices_IndexFunc_int64_int64_impl_areAll_int64_1_impl_areTurns_1.l0 k) (p := fun x => !turnB m x) (l := l) (c := m)
    (fun n i hi => by
      simp only [slices_IndexFunc_int64_int64_impl_areAll_int64_1_impl_areTurns_1.l0, slices_IndexFunc_int64_int64_impl_areAll_int64_1_impl_areTurns_1.s0]
      rw [if_pos (by omega), if_pos (by omega), if_pos (by omega)]
      simp only [impl_areAll_int64_1_impl_areTurns_1.f, impl_areTurns_1.f, within_f, Option.bind_some, w64n (show i ≤ 9223372036854775806 by omega), w64 (x := m - 1) (by omega) (by omega)]
      unfold turnB
      cases decide (-1 ≤ rd l i ∧ rd l i ≤ m - 1) <;> simp)
    (fun n => by
      simp only [slices_IndexFunc_int64_int64_impl_areAll_int64_1_impl_areTurns_1.l0, slices_IndexFunc_int64_int64_impl_areAll_int64_1_impl_areTurns_1.s0]
      rw [if_neg (by omega)]) l.length 0 k (by omega) (by omega) (by omega)
  unfold impl_areAll_int64_impl_areTurns_1.f slices_ContainsFunc_int64_int64_impl_areAll_int64_1_impl_areTurns_1.f slices_IndexFunc_int64_int64_impl_areAll_int64_1_impl_areTurns_1.f slices_IndexFunc_int64_int64_impl_areAll_int64_1_impl_areTurns_1.g
  rw [show slices_IndexFunc_int64_int64_impl_areAll_int64_1_impl_areTurns_1.l0 k k l m l.length 0 = some j from h1, Option.bind_some, Option.bind_some]
  rw [List.drop_zero] at h2
  congr 1
  exact all_iff (p := fun x => !turnB m x) (fun _ => rfl) h2

/-- Turns of tasks that go round are served. -/
theorem doServe_f {k : Nat} {G cs : List Int} (hk : 2097152 ≤ k) (h : isT G = true) (h1 : 1 ≤ cs.length) (hn : cs.length ≤ 120) (hc : ∀ c ∈ cs, -1 ≤ c ∧ c ≤ (G.length : Int) - 1) (hg : ∀ t : Nat, t < G.length → 0 ≤ rd G t ∧ ∃ X, Turn cs (t : Int) (rd G t) X) : impl_DoServe.f k G cs = some (true, 0) := by
  have hl := (isT_iff.1 h).1
  unfold impl_DoServe.f impl_turnsCode.f
  rw [many_f, Option.bind_some]
  unfold impl_areTurns.f
  rw [length_f, Option.bind_some, within_f, Option.bind_some, if_pos (decide_eq_true (by omega)), areTurns_all hk (by omega) (by omega) (by omega), Option.bind_some, Option.bind_some, tasksCode_f hk (by omega)]
  have : cs.all (turnB (G.length : Int)) = true := List.all_eq_true.2 fun c hx => decide_eq_true (hc c hx)
  rw [this, if_pos h, if_pos rfl, Option.bind_some, Option.bind_some, if_pos rfl, serves_f hk (by omega) h1 (by omega) hg, Option.bind_some]

end Go.Proofs.Ytmgdobiloapelaa.Vf
