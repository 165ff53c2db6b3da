/- Draws: the reference's source hands out numbers below what it is asked for, whatever the code is. -/
import Derived.Test.YtmgdobiloapelaaQBase
set_option linter.unusedVariables false
set_option linter.unusedSimpArgs false
namespace Go.Proofs.Ytmgdobiloapelaa.Vf
open Go Go.V Go.RowKit

/-- A value is there, and is such. -/
def Gv {α : Type} (o : Option α) (Q : α → Prop) : Prop := ∃ b, o = some b ∧ Q b
theorem Gv.ok {α : Type} {b : α} {Q : α → Prop} (h : Q b) : Gv (some b) Q := ⟨b, rfl, h⟩
theorem Gv.bind {α β : Type} {o : Option α} {f : α → Option β} {P : α → Prop} {Q : β → Prop} (h : Gv o P) (hf : ∀ r, P r → Gv (f r) Q) : Gv (o.bind f) Q := by
  obtain ⟨r, rfl, hr⟩ := h
  exact hf r hr
theorem Gv.pos {α : Type} {p : Prop} [Decidable p] {o o' : Option α} {Q : α → Prop} (hp : p) (h : Gv o Q) : Gv (if p then o else o') Q := by rw [if_pos hp]; exact h
theorem Gv.neg {α : Type} {p : Prop} [Decidable p] {o o' : Option α} {Q : α → Prop} (hp : ¬p) (h : Gv o' Q) : Gv (if p then o else o') Q := by rw [if_neg hp]; exact h
theorem Gv.ite {α : Type} {p : Prop} [Decidable p] {o o' : Option α} {Q : α → Prop} (h1 : p → Gv o Q) (h2 : ¬p → Gv o' Q) : Gv (if p then o else o') Q := by
  by_cases hp : p
  · exact Gv.pos hp (h1 hp)
  · exact Gv.neg hp (h2 hp)
theorem Gv.mono {α : Type} {o : Option α} {P Q : α → Prop} (h : Gv o P) (hf : ∀ r, P r → Q r) : Gv o Q := by
  obtain ⟨r, e, hr⟩ := h
  exact ⟨r, e, hf r hr⟩

abbrev SrcT := List Int × Int × Int
/-- A source as it may stand. -/
structure Src (s : SrcT) : Prop where
  bytes : ∀ x ∈ s.1, 0 ≤ x ∧ x ≤ 255
  len : s.1.length ≤ 4096
  t0 : 0 ≤ s.2.1

theorem mask_range (a : Int) : 0 ≤ andV .u64 a 16777215 ∧ andV .u64 a 16777215 ≤ 16777215 := by
  rw [andV_eq]
  have h : (BitVec.ofInt IntKind.u64.bits a &&& BitVec.ofInt IntKind.u64.bits 16777215).toNat ≤ 16777215 := by
    rw [BitVec.toNat_and]
    refine Nat.le_trans Nat.and_le_right ?_
    decide
  generalize (BitVec.ofInt IntKind.u64.bits a &&& BitVec.ofInt IntKind.u64.bits 16777215).toNat = n at h
  show 0 ≤ IntKind.u64.wrap (n : Int) ∧ IntKind.u64.wrap (n : Int) ≤ 16777215
  have e : IntKind.u64.wrap (n : Int) = (n : Int) % 18446744073709551616 := by simp [IntKind.wrap, IntKind.bits, IntKind.signed]
  rw [e]; omega

/-- A number below 'n'. -/
def Nx (n : Int) (r : Int × SrcT) : Prop := Src r.2 ∧ (n < 1 → r.1 = 0) ∧ (1 ≤ n → 0 ≤ r.1 ∧ r.1 < n)

theorem own_ok (l : List Int) (h : l.length ≤ 1048576) : spec_l01Own.f l = some l := by
  unfold spec_l01Own.f
  rw [if_pos (by omega)]; rfl

/-- Bytes. -/
theorem bytes_of {c : List Int} (h : ∀ a : Int, List.Mem a c → (Lit.int .u8 a).wf = true) : ∀ x ∈ c, 0 ≤ x ∧ x ≤ 255 := by
  intro x hx
  have := h x hx
  simp only [Lit.wf, Bool.and_eq_true, decide_eq_true_eq] at this
  exact ⟨by have := this.1; simpa [IntKind.min, IntKind.signed, IntKind.bits] using this, by have := this.2; simpa [IntKind.max, IntKind.signed, IntKind.bits] using this⟩

end Go.Proofs.Ytmgdobiloapelaa.Vf
