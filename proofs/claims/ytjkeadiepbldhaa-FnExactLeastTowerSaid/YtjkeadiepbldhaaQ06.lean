/- Gardens: the least tower that serves. -/
import Derived.Test.YtjkeadiepbldhaaQ02a
set_option linter.unusedVariables false
set_option linter.unusedSimpArgs false
namespace Go.Proofs.Ytjkeadiepbldhaa.Vf
open Go Go.V Go.RowKit

theorem toGarden_f {k : Nat} {l : List Int} (hk : 2097152 ≤ k) (hl : l.length ≤ 1048576) : laws_toGarden.f k l = some l := by
  unfold laws_toGarden.f
  rw [toInt64S_f hk hl]; rfl
theorem eqGarden_f {k : Nat} {a b : List Int} (hk : 2097152 ≤ k) (hl : a.length ≤ 1048576) : laws_eqGarden.f k a b = some (decide (a = b)) := by
  unfold laws_eqGarden.f
  rw [eqInt64S_f hk hl, Option.bind_some]
  by_cases h : a = b <;> simp [h]
theorem szGarden_f {l : List Int} {n : Int} (hl : l.length ≤ 9223372036854775807) (hn : -1 ≤ n) (hn2 : n ≤ 1048576) : laws_szGarden.f l n = some (if n < (l.length : Int) then -1 else n - l.length) := by
  unfold laws_szGarden.f
  rw [szInt64S_f hl hn hn2, Option.bind_some]
  by_cases h : n < (l.length : Int)
  · rw [if_pos h, if_pos (by omega)]
  · rw [if_neg h, if_neg (by omega)]

def plotB (g : Int) : Bool := decide (1 ≤ g ∧ g ≤ 20)
/-- A garden. -/
def isG (l : List Int) : Bool := decide (1 ≤ l.length ∧ l.length ≤ 8) && l.all plotB

theorem isG_iff {l : List Int} : isG l = true ↔ (1 ≤ l.length ∧ l.length ≤ 8) ∧ ∀ g ∈ l, 1 ≤ g ∧ g ≤ 20 := by
  unfold isG plotB
  simp [List.all_eq_true]

theorem l06Is_loop {k : Nat} {l : List Int} (hl : l.length ≤ 1048576) : ∀ (d i n : Nat), l.length - i = d → i ≤ l.length → d < n →
    spec_l06Is.l0 k n l i = some ((l.drop i).all plotB && decide (1 ≤ l.length ∧ l.length ≤ 8)) := by
  intro d
  induction d with
  | zero =>
    intro i n hd hi hn
    obtain rfl : i = l.length := by omega
    cases n with
    | zero => omega
    | succ n =>
      simp only [spec_l06Is.l0, spec_l06Is.s0]
      rw [if_neg (by omega), List.drop_length]
      simp only [List.all_nil, Bool.true_and]
      by_cases h : 0 < (l.length : Int)
      · rw [if_pos h]
        congr 1
        rw [decide_eq_decide]; omega
      · rw [if_neg h]
        congr 1
        symm
        rw [decide_eq_false_iff_not]; omega
  | succ d ih =>
    intro i n hd hi hn
    cases n with
    | zero => omega
    | succ n =>
      simp only [spec_l06Is.l0, spec_l06Is.s0]
      rw [if_pos (by omega), if_pos (by omega), if_pos (by omega), l01In_f, Option.bind_some, drop_cons (by omega), List.all_cons]
      by_cases e : 1 ≤ rd l i ∧ rd l i ≤ 20
      · rw [if_pos (by simpa using e), w64n (by omega), ih (i + 1) n (by omega) (by omega) (by omega)]
        simp [plotB, e]
      · rw [if_neg (by simpa using e)]
        simp only [plotB, e, decide_false, Bool.false_and]

theorem l06Is_f {k : Nat} {l : List Int} (hk : 2097152 ≤ k) (hl : l.length ≤ 1048576) : spec_l06Is.f k l = some (isG l) := by
  unfold spec_l06Is.f spec_l06Is.g
  have := l06Is_loop (k := k) hl l.length 0 k (by omega) (by omega) (by omega)
  exact this.trans (by rw [List.drop_zero, isG, Bool.and_comm])

theorem areAll_garden {k : Nat} {l : List Int} (hk : 2097152 ≤ k) (hl : l.length ≤ 1048576) : impl_areAll_int64_impl_IsGarden_1.f k l () = some (l.all plotB) := by
  obtain ⟨j, h1, h2⟩ := idx_run (L := slices_IndexFunc_int64_int64_impl_areAll_int64_1_impl_IsGarden_1.l0 k) (p := fun x => !plotB x) (l := l) (c := ())
    (fun n i hi => by
      simp only [slices_IndexFunc_int64_int64_impl_areAll_int64_1_impl_IsGarden_1.l0, slices_IndexFunc_int64_int64_impl_areAll_int64_1_impl_IsGarden_1.s0]
      rw [if_pos (by omega), if_pos (by omega), if_pos (by omega)]
      simp only [impl_areAll_int64_1_impl_IsGarden_1.f, impl_IsGarden_1.f, within_f, Option.bind_some, plotB, w64n (show i ≤ 9223372036854775806 by omega)]
      by_cases h : 1 ≤ rd l i ∧ rd l i ≤ 20 <;> simp [h])
    (fun n => by
      simp only [slices_IndexFunc_int64_int64_impl_areAll_int64_1_impl_IsGarden_1.l0, slices_IndexFunc_int64_int64_impl_areAll_int64_1_impl_IsGarden_1.s0]
      rw [if_neg (by omega)]) l.length 0 k (by omega) (by omega) (by omega)
  unfold impl_areAll_int64_impl_IsGarden_1.f slices_ContainsFunc_int64_int64_impl_areAll_int64_1_impl_IsGarden_1.f slices_IndexFunc_int64_int64_impl_areAll_int64_1_impl_IsGarden_1.f slices_IndexFunc_int64_int64_impl_areAll_int64_1_impl_IsGarden_1.g
  rw [show slices_IndexFunc_int64_int64_impl_areAll_int64_1_impl_IsGarden_1.l0 k k l () l.length 0 = some j from h1, Option.bind_some, Option.bind_some]
  rw [List.drop_zero] at h2
  congr 1
  exact all_iff (p := fun x => !plotB x) (fun _ => rfl) h2

theorem isGarden_f {k : Nat} {l : List Int} (hk : 2097152 ≤ k) (hl : l.length ≤ 1048576) : impl_IsGarden.f k l = some (isG l) := by
  unfold impl_IsGarden.f
  simp only [length_f, within_f, Option.bind_some, areAll_garden hk hl]
  unfold isG
  by_cases h : 1 ≤ l.length ∧ l.length ≤ 8
  · rw [if_pos (by simp; omega)]; simp [h]
  · rw [if_neg (by simp; omega)]; simp [h]

theorem gardenCode_f {k : Nat} {l : List Int} (hk : 2097152 ≤ k) (hl : l.length ≤ 1048576) (b : Bool) : impl_gardenCode.f k l b = some (if isG l then (if b then 0 else 2) else 1) := by
  unfold impl_gardenCode.f
  rw [isGarden_f hk hl, Option.bind_some]
  cases isG l <;> cases b <;> rfl

/-! ### Sums -/

def Plots (l : List Int) : Prop := ∀ g ∈ l, 1 ≤ g ∧ g ≤ 20
theorem plots_sum : ∀ {l : List Int}, Plots l → 0 ≤ l.sum ∧ l.sum ≤ 20 * l.length
  | [], _ => by simp
  | g :: l, h => by
    have h1 := h g (by simp)
    have h2 := plots_sum (l := l) fun x hx => h x (by simp [hx])
    simp only [List.sum_cons, List.length_cons]
    omega
theorem plots_le : ∀ {l : List Int}, Plots l → ∀ g ∈ l, g ≤ l.sum
  | [], _, g, hg => by simp at hg
  | a :: l, h, g, hg => by
    have h1 := h a (by simp)
    have h3 := plots_sum (l := l) fun x hx => h x (by simp [hx])
    simp only [List.sum_cons]
    rcases List.mem_cons.1 hg with rfl | hg
    · omega
    · have := plots_le (l := l) (fun x hx => h x (by simp [hx])) g hg
      omega

theorem l06Sum_loop {k : Nat} {l : List Int} (hl : l.length ≤ 8) (hp : Plots l) : ∀ (d i n : Nat) (s m : Int), l.length - i = d → i ≤ l.length → d < n → 0 ≤ s → s ≤ 20 * i →
    ∃ m', spec_l06Sum.l0 k n l s m i = some (s + (l.drop i).sum, m') := by
  intro d
  induction d with
  | zero =>
    intro i n s m hd hi hn h0 h1
    cases n with
    | zero => omega
    | succ n =>
      simp only [spec_l06Sum.l0, spec_l06Sum.s0]
      rw [if_neg (by omega), List.drop_eq_nil_of_le (by omega)]
      exact ⟨m, by simp⟩
  | succ d ih =>
    intro i n s m hd hi hn h0 h1
    cases n with
    | zero => omega
    | succ n =>
      simp only [spec_l06Sum.l0, spec_l06Sum.s0]
      have hr := hp _ (rd_mem (l := l) (i := i) (by omega))
      rw [if_pos (by omega), if_pos (by omega), if_pos (by omega), if_pos (by omega), if_pos (by omega), w64n (by omega), w64 (by omega) (by omega), drop_cons (by omega)]
      obtain ⟨m', h⟩ := ih (i + 1) n (s + rd l i) (maxV m (rd l i)) (by omega) (by omega) (by omega) (by omega) (by omega)
      exact ⟨m', by rw [h, List.sum_cons, Int.add_assoc]⟩

theorem l06Sum_f {k : Nat} {l : List Int} (hk : 2097152 ≤ k) (hl : l.length ≤ 8) (hp : Plots l) : ∃ m, spec_l06Sum.f k l = some (l.sum, m) := by
  unfold spec_l06Sum.f spec_l06Sum.g
  obtain ⟨m, h⟩ := l06Sum_loop (k := k) hl hp l.length 0 k 0 0 (by omega) (by omega) (by omega) (by omega) (by omega)
  exact ⟨m, h.trans (by simp)⟩

theorem sum_loop {k : Nat} {l : List Int} (hl : l.length ≤ 8) (hp : Plots l) : ∀ (d i n : Nat) (s : Int), l.length - i = d → i ≤ l.length → d < n → 0 ≤ s → s ≤ 20 * i →
    impl_Garden_sum.l0 k n s l l.length i = some (s + (l.drop i).sum) := by
  intro d
  induction d with
  | zero =>
    intro i n s hd hi hn h0 h1
    cases n with
    | zero => omega
    | succ n =>
      simp only [impl_Garden_sum.l0, impl_Garden_sum.s0]
      rw [if_neg (by omega), List.drop_eq_nil_of_le (by omega)]
      simp
  | succ d ih =>
    intro i n s hd hi hn h0 h1
    cases n with
    | zero => omega
    | succ n =>
      simp only [impl_Garden_sum.l0, impl_Garden_sum.s0]
      have hr := hp _ (rd_mem (l := l) (i := i) (by omega))
      rw [if_pos (by omega), if_pos (by omega), if_pos (by omega), w64n (by omega), w64 (by omega) (by omega), drop_cons (by omega), ih (i + 1) n _ (by omega) (by omega) (by omega) (by omega) (by omega), List.sum_cons, Int.add_assoc]

theorem sum_f {k : Nat} {l : List Int} (hk : 2097152 ≤ k) (hl : l.length ≤ 8) (hp : Plots l) : impl_Garden_sum.f k l = some l.sum := by
  unfold impl_Garden_sum.f impl_Garden_sum.g
  exact (sum_loop (k := k) hl hp l.length 0 k 0 (by omega) (by omega) (by omega) (by omega) (by omega)).trans (by simp)

/-! ### Tasks of a tower -/

def towT (l : List Int) (x : Int) : List Int := l.map fun a => x / a

theorem tdiv_pos {x a : Int} (h0 : 0 ≤ x) : wrap64 (Int.tdiv x a) = wrap64 (x / a) := by rw [Int.tdiv_eq_ediv_of_nonneg h0]

theorem div_bnd {x a : Int} (h0 : a ≤ x) (h1 : 1 ≤ a) : 1 ≤ x / a ∧ x / a ≤ x :=
  ⟨(Int.le_ediv_iff_mul_le (by omega)).2 (by omega), Int.ediv_le_self _ (by omega)⟩

theorem l06Tasks_loop {k : Nat} {l : List Int} {x : Int} (hl : l.length ≤ 8) (hp : Plots l) (hx : ∀ g ∈ l, g ≤ x) (h0 : 0 ≤ x) (h1 : x ≤ 1000) : ∀ (d i n : Nat) (out : List Int), l.length - i = d → i ≤ l.length → d < n → out.length = i →
    spec_l06Tasks.l0 k n x l out i = some (if (towT (l.drop i) x).all (fun g => decide (g ≤ 40)) = true then (out ++ towT (l.drop i) x, true) else ([], false)) := by
  intro d
  induction d with
  | zero =>
    intro i n out hd hi hn ho
    cases n with
    | zero => omega
    | succ n =>
      simp only [spec_l06Tasks.l0, spec_l06Tasks.s0]
      rw [if_neg (by omega), List.drop_eq_nil_of_le (by omega)]
      simp [towT]
  | succ d ih =>
    intro i n out hd hi hn ho
    cases n with
    | zero => omega
    | succ n =>
      simp only [spec_l06Tasks.l0, spec_l06Tasks.s0]
      have hm := rd_mem (l := l) (i := i) (by omega)
      have hr := hp _ hm
      have hb := div_bnd (hx _ hm) hr.1
      rw [if_pos (by omega), if_pos (by omega), if_pos (by omega), if_neg (by omega), tdiv_pos h0, w64 (by omega) (by omega), w64n (by omega), drop_cons (by omega)]
      by_cases h : 40 < x / rd l i
      · rw [if_pos h, if_neg (by simp [towT]; omega)]
      · rw [if_neg h, if_pos (by omega), ih (i + 1) n _ (by omega) (by omega) (by omega) (by simp; omega)]
        have : x / rd l i ≤ 40 := by omega
        simp [towT, this]

theorem l06Tasks_f {k : Nat} {l : List Int} {x : Int} (hk : 2097152 ≤ k) (hl : l.length ≤ 8) (hp : Plots l) (hx : ∀ g ∈ l, g ≤ x) (h0 : 0 ≤ x) (h1 : x ≤ 1000) :
    spec_l06Tasks.f k l x = some (if (towT l x).all (fun g => decide (g ≤ 40)) = true then (towT l x, true) else ([], false)) := by
  unfold spec_l06Tasks.f spec_l06Tasks.g
  exact l06Tasks_loop (k := k) hl hp hx h0 h1 l.length 0 k [] (by omega) (by omega) (by omega) rfl

theorem tasks_loop {k : Nat} {l : List Int} {x : Int} (hl : l.length ≤ 8) (hp : Plots l) (hx : ∀ g ∈ l, g ≤ x) (h0 : 0 ≤ x) (h1 : x ≤ 1000) : ∀ (d i n : Nat) (out : List Int), l.length - i = d → i ≤ l.length → d < n → out.length = i →
    impl_Garden_tasks.l0 k n x out l l.length i = some (out ++ towT (l.drop i) x) := by
  intro d
  induction d with
  | zero =>
    intro i n out hd hi hn ho
    cases n with
    | zero => omega
    | succ n =>
      simp only [impl_Garden_tasks.l0, impl_Garden_tasks.s0]
      rw [if_neg (by omega), List.drop_eq_nil_of_le (by omega)]
      simp [towT]
  | succ d ih =>
    intro i n out hd hi hn ho
    cases n with
    | zero => omega
    | succ n =>
      simp only [impl_Garden_tasks.l0, impl_Garden_tasks.s0]
      have hm := rd_mem (l := l) (i := i) (by omega)
      have hr := hp _ hm
      have hb := div_bnd (hx _ hm) hr.1
      rw [if_pos (by omega), if_pos (by omega), if_pos (by omega), if_neg (by omega), if_pos (by omega), tdiv_pos h0, w64 (by omega) (by omega), w64n (by omega), drop_cons (by omega), ih (i + 1) n _ (by omega) (by omega) (by omega) (by simp; omega)]
      simp [towT]

theorem tasks_f {k : Nat} {l : List Int} {x : Int} (hk : 2097152 ≤ k) (hl : l.length ≤ 8) (hp : Plots l) (hx : ∀ g ∈ l, g ≤ x) (h0 : 0 ≤ x) (h1 : x ≤ 1000) : impl_Garden_tasks.f k l x = some (towT l x) := by
  unfold impl_Garden_tasks.f impl_Garden_tasks.g
  exact tasks_loop (k := k) hl hp hx h0 h1 l.length 0 k [] (by omega) (by omega) (by omega) rfl

theorem towT_len (l : List Int) (x : Int) : (towT l x).length = l.length := by simp [towT]

theorem towT_isT {l : List Int} {x : Int} (hl : 1 ≤ l.length ∧ l.length ≤ 8) (hp : Plots l) (hx : ∀ g ∈ l, g ≤ x) : isT (towT l x) = (towT l x).all (fun g => decide (g ≤ 40)) := by
  unfold isT
  rw [towT_len, decide_eq_true hl, Bool.true_and]
  rw [Bool.eq_iff_iff]
  simp only [List.all_eq_true, towT, List.mem_map, gapB, decide_eq_true_eq]
  constructor
  · intro h g hg; exact (h g hg).2
  · rintro h g ⟨a, ha, rfl⟩
    exact ⟨(div_bnd (hx a ha) (hp a ha).1).1, h _ ⟨a, ha, rfl⟩⟩

/-- The least tower from a height on. -/
def tower (l : List Int) : Nat → Int → Int × Int
  | 0, _ => (0, 3)
  | d + 1, x => if isT (towT l x) = true then (if 4000 < cnt (towT l x) then (0, 3) else if (canR (towT l x)).1 = true then (x, 0) else tower l d (x + 1)) else (0, 3)

theorem tower_far {l : List Int} {x : Int} (hl : 1 ≤ l.length) (hp : Plots l) (h : 820 ≤ x) : isT (towT l x) = false := by
  cases hb : isT (towT l x) with
  | false => rfl
  | true =>
    cases l with
    | nil => simp at hl
    | cons a l =>
      have h1 := (isT_iff.1 hb).2 (x / a) (by simp [towT])
      have h2 := hp a (by simp)
      have := (Int.le_ediv_iff_mul_le (a := 41) (b := x) (c := a) (by omega)).2 (by omega)
      omega

theorem canR_few {G : List Int} (h : isT G = true) (hc : cnt G ≤ 4000) : (canR G).1 = (lasting G).getD (cnt G - 1).toNat false := by
  unfold canR
  rw [if_pos (by unfold few; rw [if_pos h, if_neg (by omega)])]

theorem spec_tower {k : Nat} {l : List Int} (hk : 2097152 ≤ k) (hl : 1 ≤ l.length ∧ l.length ≤ 8) (hp : Plots l) : ∀ (d n : Nat) (x : Int), 820 ≤ x + d → x ≤ 821 → d < n → (∀ g ∈ l, g ≤ x) → 0 ≤ x →
    spec_LeastTower.l0 k n l x = some (tower l d x) := by
  intro d
  induction d with
  | zero =>
    intro n x hd hx1 hn hx h0
    cases n with
    | zero => omega
    | succ n =>
      simp only [spec_LeastTower.l0, spec_LeastTower.s0]
      rw [l06Tasks_f hk hl.2 hp hx h0 (by omega), ← towT_isT hl hp hx, tower_far hl.1 hp (by omega), if_neg (by simp), Option.bind_some]
      rfl
  | succ d ih =>
    intro n x hd hx1 hn hx h0
    cases n with
    | zero => omega
    | succ n =>
      simp only [spec_LeastTower.l0, spec_LeastTower.s0]
      rw [l06Tasks_f hk hl.2 hp hx h0 (by omega), ← towT_isT hl hp hx]
      simp only [tower]
      cases hb : isT (towT l x) with
      | false => rw [if_neg (by simp), Option.bind_some]; rfl
      | true =>
        have hxx : x < 820 := by
          by_cases e : x < 820
          · exact e
          · rw [tower_far hl.1 hp (by omega)] at hb; cases hb
        simp only [if_true, Option.bind_some]
        rw [l02Count_f hk hb, Option.bind_some]
        by_cases hc : 4000 < cnt (towT l x)
        · rw [if_pos hc, if_pos hc]
        · rw [if_neg hc, if_neg hc, l02Can_f hk hb (by omega), Option.bind_some, canR_few hb (by omega)]
          by_cases hs : (lasting (towT l x)).getD (cnt (towT l x) - 1).toNat false = true
          · rw [if_pos hs, if_pos hs]
          · rw [if_neg hs, if_neg hs, w64 (by omega) (by omega), ih n (x + 1) (by omega) (by omega) (by omega) (fun g hg => by have := hx g hg; omega) (by omega)]

theorem impl_tower {k : Nat} {l : List Int} (hk : 2097152 ≤ k) (hl : 1 ≤ l.length ∧ l.length ≤ 8) (hp : Plots l) : ∀ (d n : Nat) (x : Int), 820 ≤ x + d → x ≤ 821 → d < n → (∀ g ∈ l, g ≤ x) → 0 ≤ x →
    impl_LeastTower.l0 k n l x = some (tower l d x) := by
  intro d
  induction d with
  | zero =>
    intro n x hd hx1 hn hx h0
    cases n with
    | zero => omega
    | succ n =>
      simp only [impl_LeastTower.l0, impl_LeastTower.s0]
      rw [tasks_f hk hl.2 hp hx h0 (by omega), Option.bind_some, isTasks_f hk (by rw [towT_len]; omega), tower_far hl.1 hp (by omega), Option.bind_some]
      rfl
  | succ d ih =>
    intro n x hd hx1 hn hx h0
    cases n with
    | zero => omega
    | succ n =>
      simp only [impl_LeastTower.l0, impl_LeastTower.s0]
      rw [tasks_f hk hl.2 hp hx h0 (by omega), Option.bind_some, isTasks_f hk (by rw [towT_len]; omega)]
      simp only [tower]
      cases hb : isT (towT l x) with
      | false => rfl
      | true =>
        have hxx : x < 820 := by
          by_cases e : x < 820
          · exact e
          · rw [tower_far hl.1 hp (by omega)] at hb; cases hb
        simp only [if_true, Option.bind_some]
        rw [states_f hk hb, Option.bind_some]
        by_cases hc : 4000 < cnt (towT l x)
        · rw [if_pos hc, if_pos hc]
        · rw [if_neg hc, if_neg hc, impl_CanServe_f hk (by rw [towT_len]; omega), Option.bind_some]
          by_cases hs : (canR (towT l x)).1 = true
          · rw [if_pos hs, if_pos hs]
          · rw [if_neg hs, if_neg hs, w64 (by omega) (by omega), ih n (x + 1) (by omega) (by omega) (by omega) (fun g hg => by have := hx g hg; omega) (by omega)]

def towerR (l : List Int) : Int × Int := if isG l = true then tower l 820 l.sum else (0, 1)

theorem spec_LeastTower_f {k : Nat} {l : List Int} (hk : 2097152 ≤ k) (hl : l.length ≤ 1048576) : spec_LeastTower.f k l = some (towerR l) := by
  unfold spec_LeastTower.f spec_LeastTower.g towerR
  rw [l06Is_f hk hl, Option.bind_some]
  by_cases h : isG l = true
  · obtain ⟨h1, h2⟩ := isG_iff.1 h
    have hs := plots_sum h2
    obtain ⟨m, hm⟩ := l06Sum_f hk h1.2 h2
    rw [if_pos h, if_pos h, hm, Option.bind_some]
    exact spec_tower hk h1 h2 820 k l.sum (by omega) (by omega) (by omega) (plots_le h2) hs.1
  · rw [if_neg h, if_neg h]

theorem impl_LeastTower_f {k : Nat} {l : List Int} (hk : 2097152 ≤ k) (hl : l.length ≤ 1048576) : impl_LeastTower.f k l = some (towerR l) := by
  unfold impl_LeastTower.f impl_LeastTower.g towerR
  rw [gardenCode_f hk hl, Option.bind_some]
  by_cases h : isG l = true
  · obtain ⟨h1, h2⟩ := isG_iff.1 h
    have hs := plots_sum h2
    rw [if_pos h, if_pos h, if_pos (by simp), sum_f hk h1.2 h2, Option.bind_some]
    exact impl_tower hk h1 h2 820 k l.sum (by omega) (by omega) (by omega) (plots_le h2) hs.1
  · rw [if_neg h, if_neg h, if_neg (by omega)]

theorem law_LeastTower {k : Nat} {l : List Int} (hk : 2097152 ≤ k) (hl : l.length ≤ 9223372036854775807) : laws_FnExactLeastTower.f k l = some true := by
  unfold laws_FnExactLeastTower.f
  rw [szGarden_f hl (by omega) (by omega), Option.bind_some]
  by_cases hb : (1048576 : Int) < (l.length : Int)
  · rw [if_pos hb, if_pos (by omega)]
  · rw [if_neg hb, if_neg (by omega)]
    have h : l.length ≤ 1048576 := by omega
    simp only [toGarden_f hk h, spec_LeastTower_f hk h, impl_LeastTower_f hk h, eqGarden_f hk h, Option.bind_some, if_true, decide_true]

end Go.Proofs.Ytjkeadiepbldhaa.Vf
