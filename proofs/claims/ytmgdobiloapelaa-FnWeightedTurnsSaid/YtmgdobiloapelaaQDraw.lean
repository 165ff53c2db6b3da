/- Draws: the reference's source hands out numbers below what it is asked for, whatever the code is. -/
import Derived.Test.YtmgdobiloapelaaQBase
set_option linter.unusedVariables false
set_option linter.unusedSimpArgs false
namespace Go.Proofs.Ytmgdobiloapelaa.Vf
open Go Go.V Go.RowKit

/-- A value is there, and is such. -/
def Gv {α : Type} (o : Option α) (Q : α → Prop) : Prop := ∃ b, o = some b ∧ Q b
theorem Gv.ok {α : Type} {b : α} {Q : α → Prop} (h : Q b) : Gv (some b) Q := ⟨b, rfl, h⟩
theorem Gv.bind {α β : Type} {o : Option α} {f : α → Option β} {P : α → Prop} {Q : β → Prop} (h : Gv o P) (hf : ∀ r, P r → Gv (f r) Q) : Gv (o.bind f) Q := by
  obtain ⟨r, rfl, hr⟩ := h
  exact hf r hr
theorem Gv.pos {α : Type} {p : Prop} [Decidable p] {o o' : Option α} {Q : α → Prop} (hp : p) (h : Gv o Q) : Gv (if p then o else o') Q := by rw [if_pos hp]; exact h
theorem Gv.neg {α : Type} {p : Prop} [Decidable p] {o o' : Option α} {Q : α → Prop} (hp : ¬p) (h : Gv o' Q) : Gv (if p then o else o') Q := by rw [if_neg hp]; exact h
theorem Gv.ite {α : Type} {p : Prop} [Decidable p] {o o' : Option α} {Q : α → Prop} (h1 : p → Gv o Q) (h2 : ¬p → Gv o' Q) : Gv (if p then o else o') Q := by
  by_cases hp : p
  · exact Gv.pos hp (h1 hp)
  · exact Gv.neg hp (h2 hp)
theorem Gv.mono {α : Type} {o : Option α} {P Q : α → Prop} (h : Gv o P) (hf : ∀ r, P r → Q r) : Gv o Q := by
  obtain ⟨r, e, hr⟩ := h
  exact ⟨r, e, hf r hr⟩

abbrev SrcT := List Int × Int × Int
/-- A source as it may stand. -/
structure Src (s : SrcT) : Prop where
  bytes : ∀ x ∈ s.1, 0 ≤ x ∧ x ≤ 255
  len : s.1.length ≤ 4096
  t0 : 0 ≤ s.2.1

theorem mask_range (a : Int) : 0 ≤ andV .u64 a 16777215 ∧ andV .u64 a 16777215 ≤ 16777215 := by
  rw [andV_eq]
  have h : (BitVec.ofInt IntKind.u64.bits a &&& BitVec.ofInt IntKind.u64.bits 16777215).toNat ≤ 16777215 := by
    rw [BitVec.toNat_and]
    refine Nat.le_trans Nat.and_le_right ?_
    decide
  generalize (BitVec.ofInt IntKind.u64.bits a &&& BitVec.ofInt IntKind.u64.bits 16777215).toNat = n at h
  show 0 ≤ IntKind.u64.wrap (n : Int) ∧ IntKind.u64.wrap (n : Int) ≤ 16777215
  have e : IntKind.u64.wrap (n : Int) = (n : Int) % 18446744073709551616 := by simp [IntKind.wrap, IntKind.bits, IntKind.signed]
  rw [e]; omega

/-- A number below 'n'. -/
def Nx (n : Int) (r : Int × SrcT) : Prop := Src r.2 ∧ (n < 1 → r.1 = 0) ∧ (1 ≤ n → 0 ≤ r.1 ∧ r.1 < n)

theorem next_ok {s : SrcT} (S : Src s) (n : Int) : Gv (spec_l01Next.f s n) (Nx n) := by
  unfold spec_l01Next.f
  by_cases c1 : n < 1
  · exact Gv.pos c1 (Gv.ok ⟨S, fun _ => rfl, fun h => by omega⟩)
  rw [if_neg c1]
  have hm := mask_range (shrV .u64 (IntKind.wrap .u64 ((IntKind.wrap .u64 (s.2.2 * 6364136223846793005)) + 1442695040888963407)) 33)
  generalize andV .u64 (shrV .u64 (IntKind.wrap .u64 ((IntKind.wrap .u64 (s.2.2 * 6364136223846793005)) + 1442695040888963407)) 33) 16777215 = x at hm ⊢
  rw [w64 (x := x) (by omega) (by omega)]
  have td : ∀ y : Int, 0 ≤ y → 0 ≤ Int.tmod y n ∧ Int.tmod y n < n := by
    intro y hy
    rw [Int.tmod_eq_emod_of_nonneg hy]
    exact ⟨Int.emod_nonneg _ (by omega), Int.emod_lt_of_pos _ (by omega)⟩
  have h0 := S.t0
  have hl := S.len
  by_cases c2 : s.2.1 < (s.1.length : Int)
  · have hb := S.bytes (rd s.1 s.2.1) (by
      obtain ⟨k, hk⟩ := Int.eq_ofNat_of_zero_le h0
      rw [hk]
      exact rd_mem (by omega))
    rw [if_pos c2, if_pos h0, if_pos c2, if_neg (by omega), w64 (x := rd s.1 s.2.1) (by omega) (by omega), w64 (x := x + rd s.1 s.2.1) (by omega) (by omega), w64 (x := s.2.1 + 1) (by omega) (by omega)]
    exact Gv.ok ⟨⟨S.bytes, S.len, by simp only; omega⟩, fun h => absurd h c1, fun _ => td _ (by omega)⟩
  · rw [if_neg c2, if_neg (by omega)]
    exact Gv.ok ⟨⟨S.bytes, S.len, S.t0⟩, fun h => absurd h c1, fun _ => td _ (by omega)⟩

theorem pick_ok {s : SrcT} (S : Src s) (l : List Int) (hl : 1 ≤ l.length) : Gv (spec_l01Pick.f s l) fun r => Src r.2 ∧ r.1 ∈ l := by
  unfold spec_l01Pick.f
  refine Gv.bind (next_ok S (l.length : Int)) fun r hr => ?_
  obtain ⟨h1, h2⟩ := hr.2.2 (by omega)
  refine Gv.pos h1 (Gv.pos h2 (Gv.ok ⟨hr.1, ?_⟩))
  obtain ⟨k, hk⟩ := Int.eq_ofNat_of_zero_le h1
  show rd l r.1 ∈ l
  rw [hk]
  exact rd_mem (by omega)

theorem drawNear_ok {s : SrcT} (S : Src s) (m : Int) : Gv (spec_l01Near.f s m) fun r => Src r.2 := by
  unfold spec_l01Near.f
  refine Gv.bind (next_ok S 14) fun r hr => Gv.ite (fun _ => ?_) fun _ => ?_
  · exact Gv.bind (pick_ok hr.1 _ (by simp)) fun q hq => Gv.ok hq.1
  · exact Gv.bind (next_ok hr.1 _) fun q hq => Gv.ok hq.1

theorem own_ok (l : List Int) (h : l.length ≤ 1048576) : spec_l01Own.f l = some l := by
  unfold spec_l01Own.f
  rw [if_pos (by omega)]; rfl

theorem from_ok {k : Nat} (hk : 2097152 ≤ k) {c : List Int} (hb : ∀ x ∈ c, 0 ≤ x ∧ x ≤ 255) (hl : c.length ≤ 4096) : Gv (spec_l01From.f k c) Src := by
  have key : ∀ (d i n : Nat) (h : Int), c.length - i = d → i ≤ c.length → d < n → Gv (spec_l01From.l0 k n c c 0 h i) Src := by
    intro d
    induction d with
    | zero =>
      intro i n h hd hi hn
      cases n with
      | zero => omega
      | succ n =>
        simp only [spec_l01From.l0, spec_l01From.s0]
        exact Gv.neg (by omega) (Gv.ok ⟨hb, hl, by simp⟩)
    | succ d ih =>
      intro i n h hd hi hn
      cases n with
      | zero => omega
      | succ n =>
        simp only [spec_l01From.l0, spec_l01From.s0]
        refine Gv.pos (by omega) (Gv.pos (by omega) (Gv.pos (by omega) (Gv.pos (by omega) ?_)))
        rw [w64n (by omega)]
        exact ih (i + 1) n _ (by omega) (by omega) (by omega)
  unfold spec_l01From.f spec_l01From.g
  exact key c.length 0 k _ (by omega) (by omega) (by omega)

/-- Bytes. -/
theorem bytes_of {c : List Int} (h : ∀ a : Int, List.Mem a c → (Lit.int .u8 a).wf = true) : ∀ x ∈ c, 0 ≤ x ∧ x ≤ 255 := by
  intro x hx
  have := h x hx
  simp only [Lit.wf, Bool.and_eq_true, decide_eq_true_eq] at this
  exact ⟨by have := this.1; simpa [IntKind.min, IntKind.signed, IntKind.bits] using this, by have := this.2; simpa [IntKind.max, IntKind.signed, IntKind.bits] using this⟩

end Go.Proofs.Ytmgdobiloapelaa.Vf
