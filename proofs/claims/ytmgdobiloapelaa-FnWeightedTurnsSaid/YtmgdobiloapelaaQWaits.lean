/- Waits: what program and reference give. -/
import Derived.Test.YtmgdobiloapelaaQServe
set_option linter.unusedVariables false
set_option linter.unusedSimpArgs false
namespace Go.Proofs.Ytmgdobiloapelaa.Vf
open Go Go.V Go.RowKit

def dif : Int → List Int → List Int
  | _, [] => []
  | a, b :: P => (b - a) :: dif b P
def lastA : Int → List Int → Int
  | a, [] => a
  | _, b :: P => lastA b P
def wts (n : Int) : List Int → List Int
  | [] => []
  | f :: P => dif f P ++ [n - lastA f P + f]
/-- The slots of a task, ahead of one. -/
def places (cs : List Int) (t : Int) : Nat → List Int
  | 0 => []
  | i + 1 => if rd cs i = t then places cs t i ++ [(i : Int)] else places cs t i
/-- The waits of a task. -/
def wait (cs : List Int) (t : Int) : List Int := wts cs.length (places cs t cs.length)

theorem dif_app : ∀ (P : List Int) (a x : Int), dif a (P ++ [x]) = dif a P ++ [x - lastA a P]
  | [], a, x => rfl
  | b :: P, a, x => by
    show (b - a) :: dif b (P ++ [x]) = (b - a) :: (dif b P ++ [x - lastA b P])
    rw [dif_app P b x]
theorem lastA_app : ∀ (P : List Int) (a x : Int), lastA a (P ++ [x]) = x
  | [], a, x => rfl
  | b :: P, a, x => lastA_app P b x
theorem lastA_mem : ∀ (P : List Int) (a : Int), lastA a P ∈ a :: P
  | [], a => by simp [lastA]
  | b :: P, a => List.mem_cons_of_mem _ (lastA_mem P b)
theorem dif_len : ∀ (P : List Int) (a : Int), (dif a P).length = P.length
  | [], a => rfl
  | b :: P, a => by simp [dif, dif_len P b]
theorem wts_len (n : Int) : ∀ P : List Int, (wts n P).length = P.length
  | [] => rfl
  | f :: P => by simp [wts, dif_len]
theorem places_bnd (cs : List Int) (t : Int) : ∀ (i : Nat), ∀ x ∈ places cs t i, 0 ≤ x ∧ x < i
  | 0, x, h => by cases h
  | i + 1, x, h => by
    unfold places at h
    split at h
    · rcases List.mem_append.1 h with h | h
      · have := places_bnd cs t i x h; omega
      · simp only [List.mem_singleton] at h; omega
    · have := places_bnd cs t i x h; omega
theorem places_len (cs : List Int) (t : Int) : ∀ (i : Nat), (places cs t i).length ≤ i
  | 0 => Nat.le_refl _
  | i + 1 => by
    have := places_len cs t i
    unfold places
    split
    · simp; omega
    · omega
theorem rd_cons (a : Int) (l : List Int) (i : Nat) : rd (a :: l) ((i + 1 : Nat) : Int) = rd l (i : Int) := by rw [rd_nat, rd_nat]; rfl
theorem rd_zero (a : Int) (l : List Int) : rd (a :: l) ((0 : Nat) : Int) = a := rfl
theorem dif_rd : ∀ (P : List Int) (a : Int) (j : Nat), j < P.length → rd (dif a P) j = rd (a :: P) ((j + 1 : Nat) : Int) - rd (a :: P) j
  | [], a, j, h => by simp at h
  | b :: P, a, 0, h => rfl
  | b :: P, a, j + 1, h => by
    show rd ((b - a) :: dif b P) ((j + 1 : Nat) : Int) = _
    rw [rd_cons (b - a) (dif b P) j, dif_rd P b j (by simpa using h), rd_cons a (b :: P) (j + 1), rd_cons a (b :: P) j]
theorem lastA_rd : ∀ (P : List Int) (a : Int), lastA a P = rd (a :: P) P.length
  | [], a => rfl
  | b :: P, a => by
    rw [List.length_cons, rd_cons]
    exact lastA_rd P b
theorem wts_rd (n : Int) {P : List Int} {j : Nat} (hj : j < P.length) : rd (wts n P) j = if j + 1 < P.length then rd P ((j + 1 : Nat) : Int) - rd P j else rd P ((0 : Nat) : Int) + n - rd P j := by
  cases P with
  | nil => simp at hj
  | cons f P =>
    show rd (dif f P ++ [n - lastA f P + f]) j = _
    rw [rd_app1, dif_len]
    have hl : (f :: P).length = P.length + 1 := rfl
    by_cases c : j < P.length
    · rw [if_pos c, if_pos (by omega), dif_rd P f j c]
    · have e : j = P.length := by omega
      rw [if_neg c, if_pos e, if_neg (by omega), lastA_rd, rd_zero, e]; omega

/-- The greatest. -/
def grt (w : List Int) : Int := w.foldl maxV 0
theorem maxV_le {a b g : Int} : maxV a b ≤ g ↔ a ≤ g ∧ b ≤ g := by unfold maxV; split <;> omega
theorem foldl_le : ∀ (w : List Int) (x g : Int), w.foldl maxV x ≤ g ↔ x ≤ g ∧ ∀ y ∈ w, y ≤ g
  | [], x, g => by simp
  | a :: w, x, g => by
    rw [List.foldl_cons, foldl_le w _ g, maxV_le]
    simp only [List.mem_cons, forall_eq_or_imp]
    constructor
    · rintro ⟨⟨h1, h2⟩, h3⟩; exact ⟨h1, h2, h3⟩
    · rintro ⟨h1, h2, h3⟩; exact ⟨⟨h1, h2⟩, h3⟩
theorem grt_le {w : List Int} {g : Int} : grt w ≤ g ↔ 0 ≤ g ∧ ∀ y ∈ w, y ≤ g := foldl_le w 0 g
theorem grt_nonneg (w : List Int) : 0 ≤ grt w := (grt_le.1 (Int.le_refl (grt w))).1
theorem grt_mem {w : List Int} {y : Int} (h : y ∈ w) : y ≤ grt w := (grt_le.1 (Int.le_refl (grt w))).2 y h

theorem wait_last {cs : List Int} {t : Int} (h : wait cs t ≠ []) : 1 ≤ grt (wait cs t) := by
  have hb := places_bnd cs t cs.length
  unfold wait at h ⊢
  cases hP : places cs t cs.length with
  | nil => rw [hP] at h; exact absurd rfl h
  | cons f P =>
    rw [hP] at hb
    have h1 := hb f (by simp)
    have h2 := hb _ (lastA_mem P f)
    have := grt_mem (w := wts cs.length (f :: P)) (y := (cs.length : Int) - lastA f P + f) (List.mem_append_right _ (by simp))
    omega

/-! ### The functions -/

theorem wait_len {cs : List Int} (t : Int) : (wait cs t).length ≤ cs.length := by
  unfold wait; rw [wts_len]; exact places_len cs t cs.length

/-- Whether a task is served. -/
def okT (cs : List Int) (t g : Int) : Bool := decide (1 ≤ (wait cs t).length ∧ grt (wait cs t) ≤ g)
def servB (G cs : List Int) : Nat → Nat → Bool
  | _, 0 => true
  | i, d + 1 => okT cs i (rd G i) && servB G cs (i + 1) d
theorem servB_iff {G cs : List Int} : ∀ {d i : Nat}, servB G cs i d = true ↔ ∀ t : Nat, i ≤ t → t < i + d → okT cs t (rd G t) = true
  | 0, i => by simp only [servB, true_iff]; intro t h1 h2; omega
  | d + 1, i => by
    simp only [servB, Bool.and_eq_true]
    rw [servB_iff (d := d)]
    constructor
    · rintro ⟨h1, h2⟩ t h3 h4
      by_cases e : t = i
      · rw [e]; exact h1
      · exact h2 t (by omega) (by omega)
    · intro h
      exact ⟨h i (by omega) (by omega), fun t h1 h2 => h t (by omega) (by omega)⟩

end Go.Proofs.Ytmgdobiloapelaa.Vf
