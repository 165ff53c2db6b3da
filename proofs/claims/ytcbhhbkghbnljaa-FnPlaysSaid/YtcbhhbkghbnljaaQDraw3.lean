/- Draws of states. -/
import Derived.Test.YtcbhhbkghbnljaaQDraw2
import Derived.Test.YtcbhhbkghbnljaaQ02k
set_option linter.unusedVariables false
set_option linter.unusedSimpArgs false
namespace Go.Proofs.Ytcbhhbkghbnljaa.Vf
open Go Go.V Go.RowKit

def l02Table : List (List Int) := [[1], [2, 2], [2, 3], [2, 4, 4], [3, 3, 3], [2, 3, 6], [3, 4, 4], [3, 4, 5], [2, 5, 6], [4, 4, 4, 4], [3, 4, 6, 6], [2, 4, 8, 8], [1, 2], [3, 5, 5, 5], [4, 5, 5, 5], [2, 6, 7]]
theorem l02Table_len : ∀ l ∈ l02Table, 1 ≤ l.length ∧ l.length ≤ 8 := by decide

theorem l02DrawOf_ok {k : Nat} (hk : 2097152 ≤ k) {s : SrcT} (S : Src s) : Gv (spec_l02DrawOf.f k s) fun r => Src r.2 ∧ 1 ≤ r.1.length ∧ r.1.length ≤ 8 := by
  unfold spec_l02DrawOf.f
  refine Gv.bind (next_ok S 16) fun r hr => ?_
  obtain ⟨h0, h1⟩ := hr.2.2 (by omega)
  refine Gv.pos h0 (Gv.pos h1 ?_)
  obtain ⟨l, hl⟩ : ∃ l, l = rdOf ([] : List Int) l02Table r.1 := ⟨_, rfl⟩
  have hl2 : 1 ≤ l.length ∧ l.length ≤ 8 := by
    obtain ⟨j, hj⟩ := Int.eq_ofNat_of_zero_le h0
    have hlt : j < l02Table.length := by show j < 16; omega
    rw [hl, hj, rdOf_lt hlt]
    exact l02Table_len _ (List.getElem_mem hlt)
  show Gv ((spec_l01Own.f (rdOf ([] : List Int) l02Table r.1)).bind _) _
  rw [← hl, own_ok l (by omega), Option.bind_some]
  refine Gv.bind (next_ok hr.1 4) fun q hq => Gv.ite (fun _ => ?_) fun _ => ?_
  · unfold spec_l01K.f
    rw [Option.bind_some]
    refine Gv.bind (next_ok hq.1 _) fun p hp => ?_
    obtain ⟨g0, g1⟩ := hp.2.2 (by omega)
    refine Gv.pos g0 (Gv.pos g1 (Gv.bind (next_ok hp.1 3) fun a ha => Gv.pos g0 (Gv.pos g1 (Gv.bind (next_ok ha.1 24) fun b hb => Gv.ite (fun _ => ?_) fun _ => ?_))))
    · exact Gv.bind (draw_ok' hk hb.1) fun z hz => Gv.ok hz
    · exact Gv.ok ⟨hb.1, by simp; omega, by simp; omega⟩
  · refine Gv.bind (next_ok hq.1 24) fun b hb => Gv.ite (fun _ => ?_) fun _ => ?_
    · exact Gv.bind (draw_ok' hk hb.1) fun z hz => Gv.ok hz
    · exact Gv.ok ⟨hb.1, hl2.1, hl2.2⟩

theorem l02Draw_ok {k : Nat} (hk : 2097152 ≤ k) {c : List Int} (hb : ∀ x ∈ c, 0 ≤ x ∧ x ≤ 255) (hl : c.length ≤ 4096) : Gv (spec_l02Draw.f k c) fun r => r.length ≤ 1009 := by
  unfold spec_l02Draw.f
  refine Gv.bind (from_ok hk hb hl) fun s S => Gv.bind (l02DrawOf_ok hk S) fun r hr => Gv.bind (bad_ok hk hr.1 hr.2.1 (by omega)) fun q hq => Gv.ok hq.2

end Go.Proofs.Ytcbhhbkghbnljaa.Vf
