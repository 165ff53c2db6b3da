/- Waits: what program and reference give. -/
import Derived.Test.YtmgdobiloapelaaQServe
set_option linter.unusedVariables false
set_option linter.unusedSimpArgs false
namespace Go.Proofs.Ytmgdobiloapelaa.Vf
open Go Go.V Go.RowKit

def dif : Int → List Int → List Int
  | _, [] => []
  | a, b :: P => (b - a) :: dif b P
def lastA : Int → List Int → Int
  | a, [] => a
  | _, b :: P => lastA b P
def wts (n : Int) : List Int → List Int
  | [] => []
  | f :: P => dif f P ++ [n - lastA f P + f]
/-- The slots of a task, ahead of one. -/
def places (cs : List Int) (t : Int) : Nat → List Int
  | 0 => []
  | i + 1 => if rd cs i = t then places cs t i ++ [(i : Int)] else places cs t i
/-- The waits of a task. -/
def wait (cs : List Int) (t : Int) : List Int := wts cs.length (places cs t cs.length)

theorem dif_app : ∀ (P : List Int) (a x : Int), dif a (P ++ [x]) = dif a P ++ [x - lastA a P]
  | [], a, x => rfl
  | b :: P, a, x => by
    show (b - a) :: dif b (P ++ [x]) = (b - a) :: (dif b P ++ [x - lastA b P])
    rw [dif_app P b x]
theorem lastA_app : ∀ (P : List Int) (a x : Int), lastA a (P ++ [x]) = x
  | [], a, x => rfl
  | b :: P, a, x => lastA_app P b x
theorem lastA_mem : ∀ (P : List Int) (a : Int), lastA a P ∈ a :: P
  | [], a => by simp [lastA]
  | b :: P, a => List.mem_cons_of_mem _ (lastA_mem P b)
theorem dif_len : ∀ (P : List Int) (a : Int), (dif a P).length = P.length
  | [], a => rfl
  | b :: P, a => by simp [dif, dif_len P b]
theorem wts_len (n : Int) : ∀ P : List Int, (wts n P).length = P.length
  | [] => rfl
  | f :: P => by simp [wts, dif_len]
theorem places_bnd (cs : List Int) (t : Int) : ∀ (i : Nat), ∀ x ∈ places cs t i, 0 ≤ x ∧ x < i
  | 0, x, h => by cases h
  | i + 1, x, h => by
    unfold places at h
    split at h
    · rcases List.mem_append.1 h with h | h
      · have := places_bnd cs t i x h; omega
      · simp only [List.mem_singleton] at h; omega
    · have := places_bnd cs t i x h; omega
theorem places_len (cs : List Int) (t : Int) : ∀ (i : Nat), (places cs t i).length ≤ i
  | 0 => Nat.le_refl _
  | i + 1 => by
    have := places_len cs t i
    unfold places
    split
    · simp; omega
    · omega
theorem rd_cons (a : Int) (l : List Int) (i : Nat) : rd (a :: l) ((i + 1 : Nat) : Int) = rd l (i : Int) := by rw [rd_nat, rd_nat]; rfl
theorem rd_zero (a : Int) (l : List Int) : rd (a :: l) ((0 : Nat) : Int) = a := rfl
theorem dif_rd : ∀ (P : List Int) (a : Int) (j : Nat), j < P.length → rd (dif a P) j = rd (a :: P) ((j + 1 : Nat) : Int) - rd (a :: P) j
  | [], a, j, h => by simp at h
  | b :: P, a, 0, h => rfl
  | b :: P, a, j + 1, h => by
    show rd ((b - a) :: dif b P) ((j + 1 : Nat) : Int) = _
    rw [rd_cons (b - a) (dif b P) j, dif_rd P b j (by simpa using h), rd_cons a (b :: P) (j + 1), rd_cons a (b :: P) j]
theorem lastA_rd : ∀ (P : List Int) (a : Int), lastA a P = rd (a :: P) P.length
  | [], a => rfl
  | b :: P, a => by
    rw [List.length_cons, rd_cons]
    exact lastA_rd P b
theorem wts_rd (n : Int) {P : List Int} {j : Nat} (hj : j < P.length) : rd (wts n P) j = if j + 1 < P.length then rd P ((j + 1 : Nat) : Int) - rd P j else rd P ((0 : Nat) : Int) + n - rd P j := by
  cases P with
  | nil => simp at hj
  | cons f P =>
    show rd (dif f P ++ [n - lastA f P + f]) j = _
    rw [rd_app1, dif_len]
    have hl : (f :: P).length = P.length + 1 := rfl
    by_cases c : j < P.length
    · rw [if_pos c, if_pos (by omega), dif_rd P f j c]
    · have e : j = P.length := by omega
      rw [if_neg c, if_pos e, if_neg (by omega), lastA_rd, rd_zero, e]; omega

/-- The greatest. -/
def grt (w : List Int) : Int := w.foldl maxV 0
theorem maxV_le {a b g : Int} : maxV a b ≤ g ↔ a ≤ g ∧ b ≤ g := by unfold maxV; split <;> omega
theorem foldl_le : ∀ (w : List Int) (x g : Int), w.foldl maxV x ≤ g ↔ x ≤ g ∧ ∀ y ∈ w, y ≤ g
  | [], x, g => by simp
  | a :: w, x, g => by
    rw [List.foldl_cons, foldl_le w _ g, maxV_le]
    simp only [List.mem_cons, forall_eq_or_imp]
    constructor
    · rintro ⟨⟨h1, h2⟩, h3⟩; exact ⟨h1, h2, h3⟩
    · rintro ⟨h1, h2, h3⟩; exact ⟨⟨h1, h2⟩, h3⟩
theorem grt_le {w : List Int} {g : Int} : grt w ≤ g ↔ 0 ≤ g ∧ ∀ y ∈ w, y ≤ g := foldl_le w 0 g
theorem grt_nonneg (w : List Int) : 0 ≤ grt w := (grt_le.1 (Int.le_refl (grt w))).1
theorem grt_mem {w : List Int} {y : Int} (h : y ∈ w) : y ≤ grt w := (grt_le.1 (Int.le_refl (grt w))).2 y h

theorem wait_last {cs : List Int} {t : Int} (h : wait cs t ≠ []) : 1 ≤ grt (wait cs t) := by
  have hb := places_bnd cs t cs.length
  unfold wait at h ⊢
  cases hP : places cs t cs.length with
  | nil => rw [hP] at h; exact absurd rfl h
  | cons f P =>
    rw [hP] at hb
    have h1 := hb f (by simp)
    have h2 := hb _ (lastA_mem P f)
    have := grt_mem (w := wts cs.length (f :: P)) (y := (cs.length : Int) - lastA f P + f) (List.mem_append_right _ (by simp))
    omega

/-! ### The functions -/

theorem spec_waits_f {k : Nat} {cs : List Int} (hk : 2097152 ≤ k) (hl : cs.length ≤ 1048576) (t : Int) : spec_l01Waits.f k cs t = some (wait cs t) := by
  have key : ∀ (d i n : Nat) (out : List Int) (f l : Int), cs.length - i = d → i ≤ cs.length → d < n →
      ((places cs t i = [] ∧ out = [] ∧ f = -1) ∨ ∃ Q, places cs t i = f :: Q ∧ out = dif f Q ∧ l = lastA f Q) → spec_l01Waits.l0 k n cs t out f l i = some (wait cs t) := by
    intro d
    induction d with
    | zero =>
      intro i n out f l hd hi hn I
      obtain rfl : i = cs.length := by omega
      cases n with
      | zero => omega
      | succ n =>
        have hb := places_bnd cs t cs.length
        have hpl := places_len cs t cs.length
        simp only [spec_l01Waits.l0, spec_l01Waits.s0]
        rw [if_neg (by omega)]
        rcases I with ⟨h1, h2, h3⟩ | ⟨Q, h1, h2, h3⟩
        · rw [if_neg (by omega), h2]; unfold wait; rw [h1]; rfl
        · rw [h1] at hb hpl
          have b1 := hb f (by simp)
          have b2 := hb _ (lastA_mem Q f)
          have hq := dif_len Q f
          simp at hpl
          rw [if_pos b1.1, h2, if_pos (by omega), h3, w64 (x := (cs.length : Int) - lastA f Q) (by omega) (by omega), w64 (by omega) (by omega)]
          unfold wait; rw [h1]; rfl
    | succ d ih =>
      intro i n out f l hd hi hn I
      cases n with
      | zero => omega
      | succ n =>
        have hb := places_bnd cs t i
        have hpl := places_len cs t i
        simp only [spec_l01Waits.l0, spec_l01Waits.s0]
        rw [w64n (by omega), if_pos (by omega), if_pos (by omega), if_pos (by omega)]
        by_cases c : rd cs i = t
        · rw [if_pos c]
          have hp : places cs t (i + 1) = places cs t i ++ [(i : Int)] := if_pos c
          rcases I with ⟨h1, h2, h3⟩ | ⟨Q, h1, h2, h3⟩
          · rw [if_pos (by omega)]
            exact ih (i + 1) n _ _ _ (by omega) (by omega) (by omega) (.inr ⟨[], by rw [hp, h1]; rfl, h2, rfl⟩)
          · rw [h1] at hb hpl
            have b1 := hb f (by simp)
            have b2 := hb _ (lastA_mem Q f)
            have hq := dif_len Q f
            simp at hpl
            rw [if_neg (by omega), h2, if_pos (by omega), h3, w64 (by omega) (by omega)]
            exact ih (i + 1) n _ _ _ (by omega) (by omega) (by omega) (.inr ⟨Q ++ [(i : Int)], by rw [hp, h1]; rfl, (dif_app Q f i).symm, (lastA_app Q f i).symm⟩)
        · rw [if_neg c]
          have hp : places cs t (i + 1) = places cs t i := if_neg c
          exact ih (i + 1) n _ _ _ (by clear I; omega) (by clear I; omega) (by clear I; omega) (by rw [hp]; exact I)
  unfold spec_l01Waits.f spec_l01Waits.g
  exact key cs.length 0 k [] _ _ (by omega) (by omega) (by omega) (.inl ⟨rfl, rfl, rfl⟩)

theorem impl_waits_f {k : Nat} {cs : List Int} (hk : 2097152 ≤ k) (hl : cs.length ≤ 1048576) (t : Int) : impl_waits.f k cs t = some (wait cs t) := by
  have hb := places_bnd cs t cs.length
  have hpl := places_len cs t cs.length
  have key1 : ∀ (d j n : Nat), (places cs t cs.length).length - j = d → j ≤ (places cs t cs.length).length → d < n → impl_waits.l1 k n cs (places cs t cs.length) ((wait cs t).take j) (places cs t cs.length).length j = some (wait cs t) := by
    have hwl : (wait cs t).length = (places cs t cs.length).length := wts_len _ _
    intro d
    induction d with
    | zero =>
      intro j n hd hj hn
      cases n with
      | zero => omega
      | succ n =>
        simp only [impl_waits.l1, impl_waits.s1]
        rw [if_neg (by omega), List.take_of_length_le (by omega)]
    | succ d ih =>
      intro j n hd hj hn
      cases n with
      | zero => omega
      | succ n =>
        have hr := wts_rd (cs.length : Int) (P := places cs t cs.length) (j := j) (by omega)
        have e : (wait cs t).take (j + 1) = (wait cs t).take j ++ [rd (wait cs t) j] := by rw [rd_lt (by omega), List.take_succ_eq_append_getElem (by omega)]
        have b1 := hb _ (rd_mem (l := places cs t cs.length) (i := j) (by omega))
        have tl : ((wait cs t).take j).length ≤ 1048576 := by rw [List.length_take]; omega
        simp only [impl_waits.l1, impl_waits.s1]
        rw [w64n (by omega), if_pos (by omega), if_pos (by omega), if_pos (by omega)]
        have next := ih (j + 1) n (by omega) (by omega) (by omega)
        by_cases c : j + 1 < (places cs t cs.length).length
        · have b2 := hb _ (rd_mem (l := places cs t cs.length) (i := j + 1) c)
          rw [if_pos c] at hr
          rw [if_pos (by omega), if_pos (by omega), if_pos (by omega), if_pos (by omega), w64 (by omega) (by omega), ← hr]
          rw [e] at next
          exact next
        · have b2 := hb _ (rd_mem (l := places cs t cs.length) (i := 0) (by omega))
          rw [if_neg c] at hr
          have e0 : rd (places cs t cs.length) 0 = rd (places cs t cs.length) ((0 : Nat) : Int) := rfl
          rw [if_neg (by omega), if_pos (by omega), length_f, Option.bind_some, if_pos (by omega), e0, w64 (x := rd (places cs t cs.length) ((0 : Nat) : Int) + cs.length) (by omega) (by omega), w64 (by omega) (by omega), ← hr]
          rw [e] at next
          exact next
  have key0 : ∀ (d i n : Nat), cs.length - i = d → i ≤ cs.length → d < n → impl_waits.l0 k n cs t (places cs t i) cs cs.length i = some (wait cs t) := by
    intro d
    induction d with
    | zero =>
      intro i n hd hi hn
      obtain rfl : i = cs.length := by omega
      cases n with
      | zero => omega
      | succ n =>
        simp only [impl_waits.l0, impl_waits.s0]
        rw [if_neg (by omega)]
        exact key1 _ 0 k rfl (by omega) (by omega)
    | succ d ih =>
      intro i n hd hi hn
      cases n with
      | zero => omega
      | succ n =>
        have hpi := places_len cs t i
        simp only [impl_waits.l0, impl_waits.s0]
        rw [w64n (by omega), if_pos (by omega), if_pos (by omega), if_pos (by omega)]
        have next := ih (i + 1) n (by omega) (by omega) (by omega)
        by_cases c : rd cs i = t
        · rw [if_pos c, if_pos (by omega)]
          rw [show places cs t (i + 1) = places cs t i ++ [(i : Int)] from if_pos c] at next
          exact next
        · rw [if_neg c]
          rw [show places cs t (i + 1) = places cs t i from if_neg c] at next
          exact next
  unfold impl_waits.f impl_waits.g
  exact key0 cs.length 0 k (by omega) (by omega) (by omega)

theorem wait_len {cs : List Int} (t : Int) : (wait cs t).length ≤ cs.length := by
  unfold wait; rw [wts_len]; exact places_len cs t cs.length

theorem impl_greatest_f {k : Nat} {w : List Int} (hk : 2097152 ≤ k) (hw : w.length ≤ 1048576) : impl_greatest.f k w = some (grt w) := by
  have key : ∀ (d i n : Nat) (x : Int), w.length - i = d → i ≤ w.length → d < n → impl_greatest.l0 k n x w w.length i = some ((w.drop i).foldl maxV x) := by
    intro d
    induction d with
    | zero =>
      intro i n x hd hi hn
      cases n with
      | zero => omega
      | succ n =>
        simp only [impl_greatest.l0, impl_greatest.s0]
        rw [if_neg (by omega), List.drop_eq_nil_of_le (by omega)]; rfl
    | succ d ih =>
      intro i n x hd hi hn
      cases n with
      | zero => omega
      | succ n =>
        simp only [impl_greatest.l0, impl_greatest.s0]
        rw [w64n (by omega), if_pos (by omega), if_pos (by omega), if_pos (by omega), drop_cons (by omega), ih (i + 1) n _ (by omega) (by omega) (by omega)]; rfl
  unfold impl_greatest.f impl_greatest.g
  exact key w.length 0 k 0 (by omega) (by omega) (by omega)

theorem spec_greatest_f {k : Nat} {cs : List Int} (hk : 2097152 ≤ k) (hl : cs.length ≤ 1048576) (t : Int) : spec_l01Greatest.f k cs t = some (grt (wait cs t)) := by
  have hw : (wait cs t).length ≤ 1048576 := by have := wait_len (cs := cs) t; omega
  have key : ∀ (d i n : Nat) (x : Int), (wait cs t).length - i = d → i ≤ (wait cs t).length → d < n → spec_l01Greatest.l0 k n (wait cs t) x i = some (((wait cs t).drop i).foldl maxV x) := by
    intro d
    induction d with
    | zero =>
      intro i n x hd hi hn
      cases n with
      | zero => omega
      | succ n =>
        simp only [spec_l01Greatest.l0, spec_l01Greatest.s0]
        rw [if_neg (by omega), List.drop_eq_nil_of_le (by omega)]; rfl
    | succ d ih =>
      intro i n x hd hi hn
      cases n with
      | zero => omega
      | succ n =>
        simp only [spec_l01Greatest.l0, spec_l01Greatest.s0]
        rw [w64n (by omega), if_pos (by omega), if_pos (by omega), if_pos (by omega), drop_cons (by omega), ih (i + 1) n _ (by omega) (by omega) (by omega)]; rfl
  unfold spec_l01Greatest.f spec_l01Greatest.g
  rw [spec_waits_f hk hl, Option.bind_some]
  exact key (wait cs t).length 0 k 0 (by omega) (by omega) (by omega)

/-- Whether a task is served. -/
def okT (cs : List Int) (t g : Int) : Bool := decide (1 ≤ (wait cs t).length ∧ grt (wait cs t) ≤ g)
def servB (G cs : List Int) : Nat → Nat → Bool
  | _, 0 => true
  | i, d + 1 => okT cs i (rd G i) && servB G cs (i + 1) d
theorem servB_iff {G cs : List Int} : ∀ {d i : Nat}, servB G cs i d = true ↔ ∀ t : Nat, i ≤ t → t < i + d → okT cs t (rd G t) = true
  | 0, i => by simp only [servB, true_iff]; intro t h1 h2; omega
  | d + 1, i => by
    simp only [servB, Bool.and_eq_true]
    rw [servB_iff (d := d)]
    constructor
    · rintro ⟨h1, h2⟩ t h3 h4
      by_cases e : t = i
      · rw [e]; exact h1
      · exact h2 t (by omega) (by omega)
    · intro h
      exact ⟨h i (by omega) (by omega), fun t h1 h2 => h t (by omega) (by omega)⟩

theorem impl_serves_f {k : Nat} {G cs : List Int} (hk : 2097152 ≤ k) (hG : G.length ≤ 1048576) (hn : cs.length ≤ 1048576) : impl_Tasks_serves.f k G cs = some (servB G cs 0 G.length) := by
  have key : ∀ (d i n : Nat), G.length - i = d → i ≤ G.length → d < n → impl_Tasks_serves.l0 k n cs G G.length i = some (servB G cs i d) := by
    intro d
    induction d with
    | zero =>
      intro i n hd hi hn'
      cases n with
      | zero => omega
      | succ n =>
        simp only [impl_Tasks_serves.l0, impl_Tasks_serves.s0]
        rw [if_neg (by omega)]; rfl
    | succ d ih =>
      intro i n hd hi hn'
      cases n with
      | zero => omega
      | succ n =>
        have hwl := wait_len (cs := cs) (i : Int)
        simp only [impl_Tasks_serves.l0, impl_Tasks_serves.s0]
        rw [w64n (by omega), if_pos (by omega), if_pos (by omega), if_pos (by omega), impl_waits_f hk hn, Option.bind_some, impl_greatest_f hk (by omega), Option.bind_some, ih (i + 1) n (by omega) (by omega) (by omega)]
        simp only [servB]
        unfold okT
        by_cases c : ((wait cs i).length : Int) = 0
        · rw [if_pos c, decide_eq_false (by omega), Bool.false_and]
        · rw [if_neg c]
          by_cases c2 : rd G i < grt (wait cs i)
          · rw [if_pos c2, decide_eq_false (by omega), Bool.false_and]
          · rw [if_neg c2, decide_eq_true (by omega), Bool.true_and]
  unfold impl_Tasks_serves.f impl_Tasks_serves.g
  exact key G.length 0 k (by omega) (by omega) (by omega)

end Go.Proofs.Ytmgdobiloapelaa.Vf
