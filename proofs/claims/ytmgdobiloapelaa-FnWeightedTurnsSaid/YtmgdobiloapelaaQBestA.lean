/- Best turns: a search that hands all turns to a function, and one that chooses on its way back. -/
import Derived.Test.YtmgdobiloapelaaQWtC
import Derived.Test.YtmgdobiloapelaaQMark
set_option linter.unusedVariables false
set_option linter.unusedSimpArgs false
namespace Go.Proofs.Ytmgdobiloapelaa.Vf
open Go Go.V Go.RowKit

/-! ### What both choose -/

def validB (m : Nat) (l : List Int) : Bool := (List.range m).all fun i => memB l (i : Int)
theorem validB_iff {m : Nat} {l : List Int} : validB m l = true ↔ ∀ i : Nat, i < m → (i : Int) ∈ l := by
  unfold validB
  rw [List.all_eq_true]
  constructor
  · intro h i hi; exact of_decide_eq_true (h i (List.mem_range.2 hi))
  · intro h i hi; exact decide_eq_true (h i (List.mem_range.1 hi))

def mrg2 (b r : List Int × Int) : List Int × Int := if 0 ≤ r.2 ∧ (b.2 < 0 ∨ r.2 < b.2) then r else b
def mrgO (a : bAcc) (r : List Int × Int) : bAcc := if 0 ≤ r.2 ∧ (a.1 = none ∨ r.2 < a.2) then (some r.1, r.2) else a

theorem mrgO_assoc (a : bAcc) (b r : List Int × Int) : mrgO (mrgO a b) r = mrgO a (mrg2 b r) := by
  unfold mrg2
  by_cases r0 : 0 ≤ r.2
  · by_cases b0 : b.2 < 0
    · rw [if_pos ⟨r0, Or.inl b0⟩]
      have : mrgO a b = a := if_neg (fun x => by omega)
      rw [this]
    · by_cases c : a.1 = none ∨ b.2 < a.2
      · have e : mrgO a b = (some b.1, b.2) := if_pos ⟨by omega, c⟩
        rw [e]
        by_cases d : r.2 < b.2
        · rw [if_pos ⟨r0, Or.inr d⟩]
          have e1 : mrgO (some b.1, b.2) r = (some r.1, r.2) := if_pos ⟨r0, Or.inr d⟩
          have e2 : mrgO a r = (some r.1, r.2) := if_pos ⟨r0, c.imp id (fun x => by omega)⟩
          rw [e1, e2]
        · rw [if_neg (fun x => x.2.elim b0 d), e]
          exact if_neg (fun x => x.2.elim (fun y => by cases y) d)
      · have e : mrgO a b = a := if_neg (fun x => c x.2)
        rw [e]
        by_cases d : r.2 < b.2
        · rw [if_pos ⟨r0, Or.inr d⟩]
        · rw [if_neg (fun x => x.2.elim b0 d), e]
          exact if_neg (fun x => x.2.elim (fun y => c (Or.inl y)) (fun y => c (Or.inr (by omega))))
  · rw [if_neg (fun x => r0 x.1)]
    exact if_neg (fun x => r0 x.1)

def specL (rec : List Int → List Int × Int) (l : List Int) : Nat → Nat → List Int × Int → List Int × Int
  | 0, _, b => b
  | d + 1, i, b => specL rec l d (i + 1) (mrg2 b (rec (l ++ [(i : Int)])))
def specR (ws : List Int) (n : Nat) : Nat → List Int → List Int × Int
  | 0, _ => ([], -1)
  | f + 1, l => if l.length = n then (if validB ws.length l = true then (l, wsumL l ws 0) else ([], -1)) else specL (specR ws n f) l ws.length 0 ([], -1)

/-- Weights as they are asked for. -/
structure Wok (ws : List Int) : Prop where
  l1 : 1 ≤ ws.length
  l3 : ws.length ≤ 3
  el : ∀ x ∈ ws, 1 ≤ x ∧ x ≤ 100

theorem Wok.w100 {ws : List Int} (W : Wok ws) : ws.all w100 = true := List.all_eq_true.2 fun x hx => decide_eq_true (by have := W.el x hx; omega)

theorem hasL_of {cs : List Int} : ∀ {ws : List Int} {j : Nat}, (∀ i : Nat, j ≤ i → i < j + ws.length → (i : Int) ∈ cs) → hasL cs ws j = true
  | [], _, _ => rfl
  | w :: ws, j, h => by
    simp only [hasL, Bool.and_eq_true]
    refine ⟨?_, hasL_of fun i h1 h2 => h i (by omega) (by simp only [List.length_cons]; omega)⟩
    split
    · exact decide_eq_true (h j (Nat.le_refl _) (by simp only [List.length_cons]; omega))
    · rfl

theorem valid_has {cs ws : List Int} (h : validB ws.length cs = true) : hasL cs ws 0 = true := hasL_of fun i _ hi => validB_iff.1 h i (by omega)

theorem spec_neg {ws : List Int} (W : Wok ws) {n : Nat} (hn : n ≤ 8) : ∀ (f : Nat) (l : List Int), (specR ws n f l).2 < 0 → specR ws n f l = ([], -1)
  | 0, l, _ => rfl
  | f + 1, l, h => by
    have loop : ∀ (d i : Nat) (b : List Int × Int), (b.2 < 0 → b = ([], -1)) → (specL (specR ws n f) l d i b).2 < 0 → specL (specR ws n f) l d i b = ([], -1) := by
      intro d
      induction d with
      | zero => intro i b hb h; exact hb h
      | succ d ih =>
        intro i b hb h
        refine ih (i + 1) _ ?_ h
        unfold mrg2
        split
        · intro x; exact spec_neg W hn f _ x
        · exact hb
    unfold specR at h ⊢
    by_cases c : l.length = n
    · rw [if_pos c] at h ⊢
      by_cases v : validB ws.length l = true
      · rw [if_pos v] at h
        have := wsum_bnd (cs := l) (by omega) W.w100 (valid_has v)
        exact absurd h (by show ¬ wsumL l ws 0 < 0; omega)
      · rw [if_neg v]
    · rw [if_neg c] at h ⊢
      exact loop _ _ _ (fun _ => rfl) h

/-! ### The reference -/

theorem spec_leaf {k : Nat} {rf : List Int → List Int → Int → Option (List Int × Int)} {ws l : List Int} (hk : 2097152 ≤ k) (W : Wok ws) (h1 : 1 ≤ l.length) (h8 : l.length ≤ 8) : spec_l10Best.l0 k rf k ws l 0 = some (if validB ws.length l = true then (l, wsumL l ws 0) else ([], -1)) := by
  have W3 := W.l3
  have key : ∀ (d i m : Nat), i + d = ws.length → d < m → (∀ j : Nat, j < i → (j : Int) ∈ l) → spec_l10Best.l0 k rf m ws l i = some (if validB ws.length l = true then (l, wsumL l ws 0) else ([], -1)) := by
    intro d
    induction d with
    | zero =>
      intro i m hd hm hp
      cases m with
      | zero => omega
      | succ m =>
        have v : validB ws.length l = true := validB_iff.2 fun j hj => hp j (by omega)
        simp only [spec_l10Best.l0, spec_l10Best.s0]
        rw [if_neg (by omega), spec_mean_f hk (by omega) (by omega) W.w100 (valid_has v), if_pos v]; rfl
    | succ d ih =>
      intro i m hd hm hp
      cases m with
      | zero => omega
      | succ m =>
        simp only [spec_l10Best.l0, spec_l10Best.s0]
        have e := spec_wait_f (k := k) (cs := l) hk (by omega) (i : Int) (s := 0) (by omega)
        rw [Int.natCast_zero] at e
        rw [if_pos (by omega), e, Option.bind_some, w64n (by omega)]
        by_cases c : (i : Int) ∈ l
        · rw [if_neg (by have := wt_bnd c (show 0 < l.length by omega); omega)]
          refine ih (i + 1) m (by omega) (by omega) fun j hj => ?_
          by_cases e : j = i
          · rw [e]; exact c
          · exact hp j (by omega)
        · rw [if_pos (by rw [wt_none c h1]; omega), if_neg (fun v => c (validB_iff.1 v i (by omega)))]
  have := key ws.length 0 k (by omega) (by omega) (fun j hj => by omega)
  rw [Int.natCast_zero] at this
  exact this

theorem spec_r {k : Nat} {ws : List Int} {n : Nat} (hk : 2097152 ≤ k) (W : Wok ws) (n1 : 1 ≤ n) (n8 : n ≤ 8) : ∀ (f F : Nat) (l : List Int), n < l.length + f → f ≤ F → l.length ≤ n → spec_l10Best.r k F ws l n = some (specR ws n f l) := by
  have W3 := W.l3
  intro f
  induction f with
  | zero => intro F l h1 h2 h3; omega
  | succ f ih =>
    intro F l h1 h2 h3
    cases F with
    | zero => omega
    | succ F =>
      simp only [spec_l10Best.r, spec_l10Best.b, spec_l10Best.g]
      unfold specR
      by_cases c : l.length = n
      · rw [if_pos (by omega), if_pos c]
        exact spec_leaf hk W (by omega) (by omega)
      · rw [if_neg (by omega), if_neg c]
        have key : ∀ (d i m : Nat) (b : List Int × Int), i + d = ws.length → d < m → spec_l10Best.l1 k (spec_l10Best.r k F) m ws l n b.1 b.2 i = some (specL (specR ws n f) l d i b) := by
          intro d
          induction d with
          | zero =>
            intro i m b hd hm
            cases m with
            | zero => omega
            | succ m =>
              simp only [spec_l10Best.l1, spec_l10Best.s1]
              rw [if_neg (by omega)]
              rfl
          | succ d ihd =>
            intro i m b hd hm
            cases m with
            | zero => omega
            | succ m =>
              simp only [spec_l10Best.l1, spec_l10Best.s1]
              rw [if_pos (by omega), own_ok l (by omega), Option.bind_some, if_pos (by omega), ih F (l ++ [(i : Int)]) (by simp; omega) (by omega) (by simp; omega), Option.bind_some, w64n (by omega)]
              simp only [specL]
              have go := fun b => ihd (i + 1) m b (by omega) (by omega)
              unfold mrg2
              by_cases r0 : 0 ≤ (specR ws n f (l ++ [(i : Int)])).2
              · rw [if_pos r0]
                by_cases b0 : b.2 < 0
                · rw [if_pos b0, if_pos ⟨r0, Or.inl b0⟩]; exact go _
                · rw [if_neg b0]
                  by_cases d0 : (specR ws n f (l ++ [(i : Int)])).2 < b.2
                  · rw [if_pos d0, if_pos ⟨r0, Or.inr d0⟩]; exact go _
                  · rw [if_neg d0, if_neg (fun x => x.2.elim b0 d0)]; exact go _
              · rw [if_neg r0, if_neg (fun x => r0 x.1)]; exact go _
        have := key ws.length 0 k ([], -1) (by omega) (by omega)
        rw [Int.natCast_zero] at this
        exact this

/-! ### The program -/

theorem max_f {k : Nat} {l : List Int} (hk : 2097152 ≤ k) (h1 : 1 ≤ l.length) (h8 : l.length ≤ 1000) : ∃ t, slices_Max_int64_int64.f k l = some t ∧ t ∈ l ∧ ∀ x ∈ l, x ≤ t := by
  have key : ∀ (d i m : Nat) (a : Int), i + d = l.length → d < m → a ∈ l → (∀ j : Nat, j < i → rd l j ≤ a) → ∃ t, slices_Max_int64_int64.l0 k m l a i = some t ∧ t ∈ l ∧ ∀ j : Nat, j < l.length → rd l j ≤ t := by
    intro d
    induction d with
    | zero =>
      intro i m a hd hm ha hp
      cases m with
      | zero => omega
      | succ m =>
        simp only [slices_Max_int64_int64.l0, slices_Max_int64_int64.s0]
        rw [if_neg (by omega)]
        exact ⟨a, rfl, ha, fun j hj => hp j (by omega)⟩
    | succ d ih =>
      intro i m a hd hm ha hp
      cases m with
      | zero => omega
      | succ m =>
        simp only [slices_Max_int64_int64.l0, slices_Max_int64_int64.s0]
        rw [if_pos (by omega), if_pos (by omega), if_pos (by omega), w64n (by omega)]
        have hm2 := rd_mem (l := l) (i := i) (by omega)
        refine ih (i + 1) m _ (by omega) (by omega) ?_ fun j hj => ?_
        · unfold maxV; split <;> assumption
        · have hb : a ≤ maxV a (rd l i) ∧ rd l i ≤ maxV a (rd l i) := by unfold maxV; split <;> omega
          by_cases e : j = i
          · rw [e]; exact hb.2
          · exact Int.le_trans (hp j (by omega)) hb.1
  unfold slices_Max_int64_int64.f slices_Max_int64_int64.g
  rw [if_neg (by omega), if_pos (by omega)]
  have m0 : rd l 0 ∈ l := rd_mem (l := l) (i := 0) (by omega)
  obtain ⟨t, e, h1, h2⟩ := key (l.length - 1) 1 k (rd l 0) (by omega) (by omega) m0 (fun j hj => by
    have e0 : j = 0 := by omega
    rw [e0]; exact Int.le_refl _)
  refine ⟨t, e, h1, fun x hx => ?_⟩
  obtain ⟨p, hp, rfl⟩ := List.getElem_of_mem hx
  have := h2 p hp
  rw [rd_lt hp] at this
  exact this

theorem share_f {k : Nat} {l : List Int} (hk : 2097152 ≤ k) (h8 : l.length ≤ 1000) (x : Int) : ∃ c, impl_share.f k l x = some c ∧ (c = 0 ↔ ¬ x ∈ l) := by
  have key : ∀ (d i m : Nat) (a : Int), i + d = l.length → d < m → 0 ≤ a → a ≤ i → (a = 0 ↔ ∀ j : Nat, j < i → rd l j ≠ x) → ∃ c, impl_share.l0 k m x a l l.length i = some c ∧ (c = 0 ↔ ∀ j : Nat, j < l.length → rd l j ≠ x) := by
    intro d
    induction d with
    | zero =>
      intro i m a hd hm h0 h1 hp
      cases m with
      | zero => omega
      | succ m =>
        simp only [impl_share.l0, impl_share.s0]
        obtain rfl : i = l.length := hd
        rw [if_neg (by omega)]
        exact ⟨a, rfl, hp⟩
    | succ d ih =>
      intro i m a hd hm h0 h1 hp
      cases m with
      | zero => omega
      | succ m =>
        simp only [impl_share.l0, impl_share.s0]
        rw [if_pos (by omega), if_pos (by omega), if_pos (by omega), w64n (by omega)]
        by_cases c : rd l i = x
        · rw [if_pos c, w64 (by omega) (by omega)]
          refine ih (i + 1) m _ (by omega) (by omega) (by omega) (by omega) ⟨fun e => by omega, fun h => absurd c (h i (by omega))⟩
        · rw [if_neg c]
          refine ih (i + 1) m _ (by omega) (by omega) h0 (by omega) ⟨fun e j hj => ?_, fun h => hp.2 fun j hj => h j (by omega)⟩
          by_cases ej : j = i
          · rw [ej]; exact c
          · exact hp.1 e j (by omega)
  unfold impl_share.f impl_share.g
  obtain ⟨c, e, h⟩ := key l.length 0 k 0 (by omega) (by omega) (by omega) (by omega) ⟨fun _ j hj => by omega, fun _ => rfl⟩
  rw [Int.natCast_zero] at e
  refine ⟨c, e, h.trans ⟨fun h hx => ?_, fun h j hj e => h (e ▸ rd_mem hj)⟩⟩
  obtain ⟨p, hp, e⟩ := mem_iff.1 hx
  exact h p hp e

theorem shares_f {k : Nat} {l : List Int} {t : Nat} (hk : 2097152 ≤ k) (h8 : l.length ≤ 1000) (ht : t ≤ 1000) (hm : slices_Max_int64_int64.f k l = some (t : Int)) : ∃ s, impl_sharesOf.f k l = some s ∧ s.length = t + 1 ∧ ((0 : Int) ∈ s ↔ ∃ i : Nat, i ≤ t ∧ ¬ (i : Int) ∈ l) := by
  have key : ∀ (d i m : Nat) (a : List Int), i + d = t + 1 → d < m → a.length = i → ((0 : Int) ∈ a ↔ ∃ j : Nat, j < i ∧ ¬ (j : Int) ∈ l) → ∃ s, impl_sharesOf.l0 k m l a ((t + 1 : Nat) : Int) i = some s ∧ s.length = t + 1 ∧ ((0 : Int) ∈ s ↔ ∃ j : Nat, j < t + 1 ∧ ¬ (j : Int) ∈ l) := by
    intro d
    induction d with
    | zero =>
      intro i m a hd hm ha hp
      cases m with
      | zero => omega
      | succ m =>
        simp only [impl_sharesOf.l0, impl_sharesOf.s0]
        obtain rfl : i = t + 1 := hd
        rw [if_neg (by omega)]
        exact ⟨a, rfl, ha, hp⟩
    | succ d ih =>
      intro i m a hd hm ha hp
      cases m with
      | zero => omega
      | succ m =>
        simp only [impl_sharesOf.l0, impl_sharesOf.s0]
        obtain ⟨c, ec, hc⟩ := share_f hk h8 (i : Int)
        rw [if_pos (by omega), ec, Option.bind_some, if_pos (by omega), w64n (by omega)]
        refine ih (i + 1) m _ (by omega) (by omega) (by rw [List.length_append, ha]; rfl) ?_
        rw [List.mem_append, hp, List.mem_singleton]
        constructor
        · rintro (⟨j, h1, h2⟩ | h)
          · exact ⟨j, by omega, h2⟩
          · exact ⟨i, by omega, hc.1 h.symm⟩
        · rintro ⟨j, h1, h2⟩
          by_cases e : j = i
          · exact Or.inr (hc.2 (e ▸ h2)).symm
          · exact Or.inl ⟨j, by omega, h2⟩
  unfold impl_sharesOf.f impl_sharesOf.g
  rw [hm, Option.bind_some, w64n (by omega)]
  obtain ⟨s, e, h1, h2⟩ := key (t + 1) 0 k [] (by omega) (by omega) rfl ⟨fun h => (List.not_mem_nil h).elim, fun ⟨j, hj, _⟩ => by omega⟩
  rw [Int.natCast_zero] at e
  exact ⟨s, e, h1, h2.trans ⟨fun ⟨j, a, b⟩ => ⟨j, by omega, b⟩, fun ⟨j, a, b⟩ => ⟨j, by omega, b⟩⟩⟩

theorem visit_f {k : Nat} {ws l : List Int} {acc : bAcc} (hk : 2097152 ≤ k) (W : Wok ws) (h1 : 1 ≤ l.length) (h8 : l.length ≤ 8) (el : ∀ x ∈ l, 0 ≤ x ∧ x < ws.length) :
    impl_visit k ws ws.length l acc = some (mrgO acc (if validB ws.length l = true then (l, wsumL l ws 0) else ([], -1))) := by
  have W3 := W.l3
  have W1 := W.l1
  obtain ⟨t, et, t1, t2⟩ := max_f hk h1 (by omega)
  obtain ⟨b1, b2⟩ := el t t1
  obtain ⟨n, rfl⟩ := Int.eq_ofNat_of_zero_le b1
  obtain ⟨s, es, s1, s2⟩ := shares_f hk (by omega) (by omega) et
  unfold impl_visit
  rw [es, Option.bind_some, contains_mem hk (by omega), Option.bind_some]
  by_cases c : (0 : Int) ∈ s
  · obtain ⟨i, hi, hn⟩ := s2.1 c
    have nv : ¬ validB ws.length l = true := fun v => hn (validB_iff.1 v i (by omega))
    rw [if_pos (show memB s 0 = true from decide_eq_true c), if_neg nv]
    exact congrArg some (if_neg (fun x => by have := x.1; simp at this)).symm
  · rw [if_neg (show ¬ memB s 0 = true from fun x => c (of_decide_eq_true x)), et, Option.bind_some, w64 (by omega) (by omega)]
    by_cases d : (n : Int) < (ws.length : Int) - 1
    · have nv : ¬ validB ws.length l = true := fun v => by
        have := t2 _ (validB_iff.1 v (n + 1) (by omega))
        omega
      rw [if_pos d, if_neg nv]
      exact congrArg some (if_neg (fun x => by have := x.1; simp at this)).symm
    · have v : validB ws.length l = true := validB_iff.2 fun i hi => by
        by_cases e : (i : Int) ∈ l
        · exact e
        · exact absurd (s2.2 ⟨i, by omega, e⟩) c
      rw [if_neg d, impl_weighted_f hk (by omega) (by omega) W.w100 (valid_has v), Option.bind_some, if_pos v]
      have wb := wsum_bnd (cs := l) (by omega) W.w100 (valid_has v)
      obtain ⟨a1, a2⟩ := acc
      cases a1 with
      | none => exact congrArg some (if_pos ⟨wb.1, Or.inl rfl⟩).symm
      | some l0 =>
        show (if wsumL l ws 0 < a2 then some (some l, wsumL l ws 0) else some (some l0, a2)) = _
        unfold mrgO
        by_cases o : wsumL l ws 0 < a2
        · rw [if_pos o, if_pos ⟨wb.1, Or.inr o⟩]
        · rw [if_neg o, if_neg (fun x => x.2.elim (fun y => by cases y) o)]

theorem all_f {k : Nat} {ws : List Int} {n : Nat} (hk : 2097152 ≤ k) (W : Wok ws) (n1 : 1 ≤ n) (n8 : n ≤ 8) : ∀ (f : Nat) (l : List Int) (acc : bAcc), n < l.length + f → l.length ≤ n → (∀ x ∈ l, 0 ≤ x ∧ x < ws.length) → impl_all k ws ws.length n f l acc = some (mrgO acc (specR ws n f l)) := by
  intro f
  induction f with
  | zero => intro l acc h1 h2 _; omega
  | succ f ih =>
    intro l acc h1 h2 el
    unfold impl_all specR
    by_cases c : l.length = n
    · rw [if_pos c, if_pos c]
      exact visit_f hk W (by omega) (by omega) el
    · rw [if_neg c, if_neg c]
      have key : ∀ (d i : Nat) (b : List Int × Int), i + d = ws.length → impl_allL (impl_all k ws ws.length n f) l d i (mrgO acc b) = some (mrgO acc (specL (specR ws n f) l d i b)) := by
        intro d
        induction d with
        | zero => intro i b hd; rfl
        | succ d ihd =>
          intro i b hd
          simp only [impl_allL, specL]
          rw [ih (l ++ [(i : Int)]) _ (by simp; omega) (by simp; omega) (fun x hx => by
            rcases List.mem_append.1 hx with hx | hx
            · exact el x hx
            · rw [List.mem_singleton.1 hx]; omega), Option.bind_some, mrgO_assoc]
          exact ihd (i + 1) _ (by omega)
      have := key ws.length 0 ([], -1) (by omega)
      have e0 : mrgO acc ([], -1) = acc := if_neg (fun x => by have := x.1; simp at this)
      rw [e0] at this
      exact this

/-! ### Both give the same -/

def wokB (ws : List Int) : Bool := decide (1 ≤ ws.length ∧ ws.length ≤ 3) && ws.all fun x => decide (1 ≤ x ∧ x ≤ 100)
theorem wokB_ok {ws : List Int} (h : wokB ws = true) : Wok ws := by
  unfold wokB at h
  rw [Bool.and_eq_true, decide_eq_true_eq, List.all_eq_true] at h
  exact ⟨h.1.1, h.1.2, fun x hx => of_decide_eq_true (h.2 x hx)⟩

def bestR (ws : List Int) (n : Int) : List Int × Int := if wokB ws = true then (if 1 ≤ n ∧ n ≤ 8 then (if n < ws.length then ([], 3) else ((specR ws n.toNat (n.toNat + 1) []).1, 0)) else ([], 2)) else ([], 2)

theorem spec_w13 {k : Nat} {ws : List Int} (hk : 2097152 ≤ k) (hl : ws.length ≤ 1048576) : spec_l10Weights.f k ws 1 3 = some (wokB ws) := by
  have key : ∀ (d i m : Nat) (a : Int), i + d = ws.length → d < m → (i : Int) ≤ a → a ≤ i * 100 → (∀ j : Nat, j < i → 1 ≤ rd ws j ∧ rd ws j ≤ 100) → spec_l10Weights.l0 k m ws 1 3 a i = some (wokB ws) := by
    intro d
    induction d with
    | zero =>
      intro i m a hd hm h0 h1 hp
      cases m with
      | zero => omega
      | succ m =>
        simp only [spec_l10Weights.l0, spec_l10Weights.s0]
        have al : (ws.all fun x => decide (1 ≤ x ∧ x ≤ 100)) = true := List.all_eq_true.2 fun x hx => by
          obtain ⟨p, hp', e⟩ := mem_iff.1 hx
          rw [← e]; exact decide_eq_true (hp p (by omega))
        unfold wokB
        rw [if_neg (by omega), al, Bool.and_true]
        by_cases c : 0 < a
        · rw [if_pos c]
          congr 1
          rw [Bool.eq_iff_iff, decide_eq_true_eq, decide_eq_true_eq]
          omega
        · rw [if_neg c, decide_eq_false (by omega)]
    | succ d ih =>
      intro i m a hd hm h0 h1 hp
      cases m with
      | zero => omega
      | succ m =>
        simp only [spec_l10Weights.l0, spec_l10Weights.s0]
        rw [if_pos (by omega), if_pos (by omega), if_pos (by omega), l01In_f, Option.bind_some]
        by_cases c : 1 ≤ rd ws i ∧ rd ws i ≤ 100
        · rw [if_pos (decide_eq_true c), if_pos (by omega), if_pos (by omega), w64 (by omega) (by omega), w64n (by omega)]
          refine ih (i + 1) m _ (by omega) (by omega) (by omega) (by omega) fun j hj => ?_
          by_cases e : j = i
          · rw [e]; exact c
          · exact hp j (by omega)
        · rw [if_neg (by simpa using c)]
          unfold wokB
          have : (ws.all fun x => decide (1 ≤ x ∧ x ≤ 100)) = false := by
            rw [Bool.eq_false_iff]
            intro h
            exact c (of_decide_eq_true (List.all_eq_true.1 h _ (rd_mem (l := ws) (i := i) (by omega))))
          rw [this, Bool.and_false]
  unfold spec_l10Weights.f spec_l10Weights.g
  have := key ws.length 0 k 0 (by omega) (by omega) (by omega) (by omega) (fun j hj => by omega)
  rw [Int.natCast_zero] at this
  exact this

theorem tot_pos : ∀ {ws : List Int}, (∀ x ∈ ws, 1 ≤ x) → 1 ≤ ws.length → 0 < tot ws
  | [], _, h => by simp at h
  | w :: ws, h, _ => by
    have h1 := h w (List.mem_cons_self ..)
    have h2 : 0 ≤ tot ws := by
      cases ws with
      | nil => simp [tot]
      | cons x xs => have := tot_pos (ws := x :: xs) (fun y hy => h y (List.mem_cons_of_mem _ hy)) (by simp); omega
    simp only [tot]; omega

theorem wok_iff {ws : List Int} : wokB ws = true ↔ weightsB ws = true ∧ ¬ 3 < ws.length ∧ ¬ (0 : Int) ∈ ws := by
  unfold wokB weightsB
  simp only [Bool.and_eq_true, decide_eq_true_eq, List.all_eq_true]
  constructor
  · rintro ⟨⟨a, b⟩, c⟩
    have c' : ∀ x ∈ ws, 1 ≤ x ∧ x ≤ 100 := c
    refine ⟨⟨⟨a, by omega⟩, fun x hx => decide_eq_true (by have := c' x hx; omega), tot_pos (fun x hx => (c' x hx).1) a⟩, by omega, fun h => by have := c' 0 h; omega⟩
  · rintro ⟨⟨⟨a, b⟩, c, d⟩, e, f⟩
    refine ⟨⟨a, by omega⟩, fun x hx => ?_⟩
    have h1 : 0 ≤ x ∧ x ≤ 100 := of_decide_eq_true (c x hx)
    have h2 : x ≠ 0 := fun h => f (h ▸ hx)
    omega

theorem spec_Best_f {k : Nat} {ws : List Int} (hk : 2097152 ≤ k) (hl : ws.length ≤ 1048576) (n : Int) : spec_BestTurns.f k ws n = some (bestR ws n) := by
  unfold spec_BestTurns.f bestR
  rw [spec_w13 hk hl, Option.bind_some]
  by_cases c : wokB ws = true
  · have W := wokB_ok c
    have W1 := W.l1
    rw [if_pos c, if_pos c, l01In_f, Option.bind_some]
    by_cases h : 1 ≤ n ∧ n ≤ 8
    · rw [if_pos (decide_eq_true h), if_pos h]
      by_cases d : n < ws.length
      · rw [if_pos d, if_pos d]
      · rw [if_neg d, if_neg d]
        obtain ⟨N, rfl⟩ := Int.eq_ofNat_of_zero_le (show 0 ≤ n by omega)
        unfold spec_l10Best.f
        rw [spec_r hk W (by omega) (by omega) (N + 1) k [] (by simp) (by omega) (by simp)]; rfl
    · rw [if_neg (by simpa using h), if_neg h]
  · rw [if_neg c, if_neg c]

theorem impl_Best_f {k : Nat} {ws : List Int} (hk : 2097152 ≤ k) (hl : ws.length ≤ 1048576) (n : Int) : impl_BestTurns.f k ws n = some (bestR ws n) := by
  unfold impl_BestTurns.f bestR
  rw [impl_weights_f hk hl, Option.bind_some]
  by_cases c : wokB ws = true
  · have W := wokB_ok c
    have W1 := W.l1
    obtain ⟨c1, c2, c3⟩ := wok_iff.1 c
    rw [if_pos c, if_pos c1, if_neg c2, contains_mem hk hl, Option.bind_some, if_neg (show ¬ memB ws 0 = true from fun x => c3 (of_decide_eq_true x)), within_f, Option.bind_some]
    by_cases h : 1 ≤ n ∧ n ≤ 8
    · rw [if_pos (decide_eq_true h)]
      simp only [if_pos h]
      by_cases d : n < ws.length
      · rw [if_pos d, if_pos d]
      · rw [if_neg d, if_neg d, all_f hk W (by omega) (by omega) _ [] (none, 0) (by simp) (by simp) (fun x hx => by cases hx), Option.bind_some]
        have hneg := spec_neg W (n := n.toNat) (by omega) (n.toNat + 1) []
        unfold mrgO
        by_cases r0 : 0 ≤ (specR ws n.toNat (n.toNat + 1) []).2
        · rw [if_pos ⟨r0, Or.inl rfl⟩]; rfl
        · rw [if_neg (fun x => r0 x.1), hneg (by omega)]; rfl
    · rw [if_neg (by simpa using h), if_neg h]
  · rw [if_neg c]
    by_cases c1 : weightsB ws = true
    · rw [if_pos c1]
      by_cases c2 : 3 < ws.length
      · rw [if_pos c2]
      · rw [if_neg c2, contains_mem hk hl, Option.bind_some, if_pos (show memB ws 0 = true from decide_eq_true (by
          by_cases c3 : (0 : Int) ∈ ws
          · exact c3
          · exact absurd (wok_iff.2 ⟨c1, c2, c3⟩) c))]
    · rw [if_neg c1]

theorem spec_len {ws : List Int} {n : Nat} : ∀ (f : Nat) (l : List Int), (specR ws n f l).1.length ≤ n
  | 0, l => by simp [specR]
  | f + 1, l => by
    have loop : ∀ (d i : Nat) (b : List Int × Int), b.1.length ≤ n → (specL (specR ws n f) l d i b).1.length ≤ n := by
      intro d
      induction d with
      | zero => intro i b hb; exact hb
      | succ d ih =>
        intro i b hb
        refine ih (i + 1) _ ?_
        unfold mrg2
        split
        · exact spec_len f _
        · exact hb
    unfold specR
    split
    · split
      · show l.length ≤ n; omega
      · simp
    · exact loop _ _ _ (by simp)

theorem best_len (ws : List Int) (n : Int) : (bestR ws n).1.length ≤ 8 := by
  unfold bestR
  split
  · split
    · split
      · simp
      · have := spec_len (ws := ws) (n := n.toNat) (n.toNat + 1) []
        show (specR ws n.toNat (n.toNat + 1) []).1.length ≤ 8
        omega
    · simp
  · simp

end Go.Proofs.Ytmgdobiloapelaa.Vf
