/- Draws, waits and sets that are put on channels, plainly. Conditions: as each theorem states. My own. -/
import Derived.Test.YtcbhhbkghbnljaaGreatDoorQa
set_option linter.unusedVariables false
set_option linter.unusedSimpArgs false
namespace Go.Proofs.YtcbhhbkghbnljaaGreatDoor.Vf
open Go Go.V Go.RowKit
def Gv {α : Type} (o : Option α) (Q : α → Prop) : Prop := ∃ b, o = some b ∧ Q b
theorem Gv.ok {α : Type} {b : α} {Q : α → Prop} (h : Q b) : Gv (some b) Q := ⟨b, rfl, h⟩
theorem Gv.bind {α β : Type} {o : Option α} {f : α → Option β} {P : α → Prop} {Q : β → Prop} (h : Gv o P) (hf : ∀ r, P r → Gv (f r) Q) : Gv (o.bind f) Q := by
 obtain ⟨r, rfl, hr⟩ := h
 exact hf r hr
theorem Gv.pos {α : Type} {p : Prop} [Decidable p] {o o' : Option α} {Q : α → Prop} (hp : p) (h : Gv o Q) : Gv (if p then o else o') Q := by rw [if_pos hp]; exact h
theorem Gv.neg {α : Type} {p : Prop} [Decidable p] {o o' : Option α} {Q : α → Prop} (hp : ¬p) (h : Gv o' Q) : Gv (if p then o else o') Q := by rw [if_neg hp]; exact h
theorem Gv.ite {α : Type} {p : Prop} [Decidable p] {o o' : Option α} {Q : α → Prop} (h1 : p → Gv o Q) (h2 : ¬p → Gv o' Q) : Gv (if p then o else o') Q := by
 by_cases hp : p
 ·exact Gv.pos hp (h1 hp)
 ·exact Gv.neg hp (h2 hp)
theorem Gv.mono {α : Type} {o : Option α} {P Q : α → Prop} (h : Gv o P) (hf : ∀ r, P r → Q r) : Gv o Q := by
 obtain ⟨r, e, hr⟩ := h
 exact ⟨r, e, hf r hr⟩
abbrev SrcT := List Int × Int × Int
structure Src (s : SrcT) : Prop where
 bytes : ∀ x ∈ s.1, 0 ≤ x ∧ x ≤ 255
 len : s.1.length ≤ 4096
 t0 : 0 ≤ s.2.1
theorem mask_range (a : Int) : 0 ≤ andV .u64 a 16777215 ∧ andV .u64 a 16777215 ≤ 16777215 := by
 rw [andV_eq]
 have h : (BitVec.ofInt IntKind.u64.bits a &&& BitVec.ofInt IntKind.u64.bits 16777215).toNat ≤ 16777215 := by
  rw [BitVec.toNat_and]
  refine Nat.le_trans Nat.and_le_right ?_
  decide
 generalize (BitVec.ofInt IntKind.u64.bits a &&& BitVec.ofInt IntKind.u64.bits 16777215).toNat = n at h
 show 0 ≤ IntKind.u64.wrap (n : Int) ∧ IntKind.u64.wrap (n : Int) ≤ 16777215
 have e : IntKind.u64.wrap (n : Int) = (n : Int) % 18446744073709551616 := by simp [IntKind.wrap, IntKind.bits, IntKind.signed]
 rw [e]; omega
def Nx (n : Int) (r : Int × SrcT) : Prop := Src r.2 ∧ (n < 1 → r.1 = 0) ∧ (1 ≤ n → 0 ≤ r.1 ∧ r.1 < n)
theorem next_ok {s : SrcT} (S : Src s) (n : Int) : Gv (spec_l01Next.f s n) (Nx n) := by
 unfold spec_l01Next.f
 by_cases c1 : n < 1
 ·exact Gv.pos c1 (Gv.ok ⟨S, fun _ => rfl, fun h => by omega⟩)
 rw [if_neg c1]
 have hm := mask_range (shrV .u64 (IntKind.wrap .u64 ((IntKind.wrap .u64 (s.2.2 * 6364136223846793005)) + 1442695040888963407)) 33)
 generalize andV .u64 (shrV .u64 (IntKind.wrap .u64 ((IntKind.wrap .u64 (s.2.2 * 6364136223846793005)) + 1442695040888963407)) 33) 16777215 = x at hm ⊢
 rw [w64 (x := x) (by omega) (by omega)]
 have td : ∀ y : Int, 0 ≤ y → 0 ≤ Int.tmod y n ∧ Int.tmod y n < n := by
  intro y hy
  rw [Int.tmod_eq_emod_of_nonneg hy]
  exact ⟨Int.emod_nonneg _ (by omega), Int.emod_lt_of_pos _ (by omega)⟩
 have h0 := S.t0
 have hl := S.len
 by_cases c2 : s.2.1 < (s.1.length : Int)
 ·have hb := S.bytes (rd s.1 s.2.1) (by
   obtain ⟨k, hk⟩ := Int.eq_ofNat_of_zero_le h0
   rw [hk]
   exact rd_mem (by omega))
  rw [if_pos c2, if_pos h0, if_pos c2, if_neg (by omega), w64 (x := rd s.1 s.2.1) (by omega) (by omega), w64 (x := x + rd s.1 s.2.1) (by omega) (by omega), w64 (x := s.2.1 + 1) (by omega) (by omega)]
  exact Gv.ok ⟨⟨S.bytes, S.len, by simp only; omega⟩, fun h => absurd h c1, fun _ => td _ (by omega)⟩
 ·rw [if_neg c2, if_neg (by omega)]
  exact Gv.ok ⟨⟨S.bytes, S.len, S.t0⟩, fun h => absurd h c1, fun _ => td _ (by omega)⟩
theorem pick_ok {s : SrcT} (S : Src s) (l : List Int) (hl : 1 ≤ l.length) : Gv (spec_l01Pick.f s l) fun r => Src r.2 ∧ r.1 ∈ l := by
 unfold spec_l01Pick.f
 refine Gv.bind (next_ok S (l.length : Int)) fun r hr => ?_
 obtain ⟨h1, h2⟩ := hr.2.2 (by omega)
 refine Gv.pos h1 (Gv.pos h2 (Gv.ok ⟨hr.1, ?_⟩))
 obtain ⟨k, hk⟩ := Int.eq_ofNat_of_zero_le h1
 show rd l r.1 ∈ l
 rw [hk]
 exact rd_mem (by omega)
theorem drawNear_ok {s : SrcT} (S : Src s) (m : Int) : Gv (spec_l01Near.f s m) fun r => Src r.2 := by
 unfold spec_l01Near.f
 refine Gv.bind (next_ok S 14) fun r hr => Gv.ite (fun _ => ?_) fun _ => ?_
 ·exact Gv.bind (pick_ok hr.1 _ (by simp)) fun q hq => Gv.ok hq.1
 ·exact Gv.bind (next_ok hr.1 _) fun q hq => Gv.ok hq.1
theorem own_ok (l : List Int) (h : l.length ≤ 1048576) : spec_l01Own.f l = some l := by
 unfold spec_l01Own.f
 rw [if_pos (by omega)]; rfl
theorem from_ok {k : Nat} (hk : 2097152 ≤ k) {c : List Int} (hb : ∀ x ∈ c, 0 ≤ x ∧ x ≤ 255) (hl : c.length ≤ 4096) : Gv (spec_l01From.f k c) Src := by
 have key : ∀ (d i n : Nat) (h : Int), c.length - i = d → i ≤ c.length → d < n → Gv (spec_l01From.l0 k n c c 0 h i) Src := by
  intro d
  induction d with
  | zero =>
   intro i n h hd hi hn
   cases n with
   | zero => omega
   | succ n =>
    simp only [spec_l01From.l0, spec_l01From.s0]
    exact Gv.neg (by omega) (Gv.ok ⟨hb, hl, by simp⟩)
  | succ d ih =>
   intro i n h hd hi hn
   cases n with
   | zero => omega
   | succ n =>
    simp only [spec_l01From.l0, spec_l01From.s0]
    refine Gv.pos (by omega) (Gv.pos (by omega) (Gv.pos (by omega) (Gv.pos (by omega) ?_)))
    rw [w64n (by omega)]
    exact ih (i + 1) n _ (by omega) (by omega) (by omega)
 unfold spec_l01From.f spec_l01From.g
 exact key c.length 0 k _ (by omega) (by omega) (by omega)
theorem bytes_of {c : List Int} (h : ∀ a : Int, List.Mem a c → (Lit.int .u8 a).wf = true) : ∀ x ∈ c, 0 ≤ x ∧ x ≤ 255 := by
 intro x hx
 have := h x hx
 simp only [Lit.wf, Bool.and_eq_true, decide_eq_true_eq] at this
 exact ⟨by have := this.1; simpa [IntKind.min, IntKind.signed, IntKind.bits] using this, by have := this.2; simpa [IntKind.max, IntKind.signed, IntKind.bits] using this⟩
theorem drawTurns_ok {k : Nat} (hk : 2097152 ≤ k) {s : SrcT} (S : Src s) (m : Int) : Gv (spec_l01DrawTurns.f k s m) fun r => Src r.2 ∧ 1 ≤ r.1.length ∧ r.1.length ≤ 120 := by
 have key : ∀ (d n : Nat) (out : List Int) (idle : Int) (s : SrcT), Src s → out.length + d ≤ 120 → 1 ≤ out.length + d → d < n → Gv (spec_l01DrawTurns.l0 k n s.1 s.2.1 s.2.2 m out idle (d : Int)) fun r => Src r.2 ∧ 1 ≤ r.1.length ∧ r.1.length ≤ 120 := by
  intro d
  induction d with
  | zero =>
   intro n out idle s S h1 h2 hn
   cases n with
   | zero => omega
   | succ n =>
    simp only [spec_l01DrawTurns.l0, spec_l01DrawTurns.s0]
    exact Gv.neg (by omega) (Gv.ok ⟨S, by simp only; omega, by simp only; omega⟩)
  | succ d ih =>
   intro n out idle s S h1 h2 hn
   cases n with
   | zero => omega
   | succ n =>
    simp only [spec_l01DrawTurns.l0, spec_l01DrawTurns.s0]
    refine Gv.pos (by omega) (Gv.bind (next_ok S m) fun r hr => Gv.bind (next_ok hr.1 _) fun q hq => Gv.ite (fun _ => Gv.pos (by omega) ?_) fun _ => Gv.pos (by omega) ?_)
    ·rw [show wrap64 (((d + 1 : Nat) : Int) - 1) = (d : Int) by rw [w64 (by omega) (by omega)]; omega]
     exact ih n _ idle _ hq.1 (by simp; omega) (by simp; omega) (by omega)
    ·rw [show wrap64 (((d + 1 : Nat) : Int) - 1) = (d : Int) by rw [w64 (by omega) (by omega)]; omega]
     exact ih n _ idle _ hq.1 (by simp; omega) (by simp; omega) (by omega)
 unfold spec_l01DrawTurns.f spec_l01DrawTurns.g
 refine Gv.bind (pick_ok S [1, 4, 20] (by simp)) fun r hr => Gv.bind (pick_ok hr.1 [6, 12, 40, 120] (by simp)) fun q hq => Gv.bind (next_ok hq.1 _) fun p hp => ?_
 have hq2 : 1 ≤ q.1 ∧ q.1 ≤ 120 := by
  have := hq.2
  simp at this
  omega
 have hp2 := hp.2.2 hq2.1
 obtain ⟨d, hd⟩ := Int.eq_ofNat_of_zero_le hp2.1
 rw [hd, show wrap64 (1 + (d : Int)) = ((1 + d : Nat) : Int) by rw [w64 (by omega) (by omega)]; omega]
 exact key (1 + d) k [] r.1 p.2 hp.1 (by simp; omega) (by simp) (by omega)
theorem waits_ok {k : Nat} (hk : 2097152 ≤ k) {l : List Int} (hl : l.length ≤ 1048576) (a : Int) : Gv (spec_l01Waits.f k l a) fun r => r.length ≤ 1048577 := by
 have key : ∀ (d i n : Nat) (out : List Int) (x y : Int), l.length - i = d → i ≤ l.length → out.length ≤ i → d < n → Gv (spec_l01Waits.l0 k n l a out x y i) fun r => r.length ≤ 1048577 := by
  intro d
  induction d with
  | zero =>
   intro i n out x y hd hi ho hn
   cases n with
   | zero => omega
   | succ n =>
    simp only [spec_l01Waits.l0, spec_l01Waits.s0]
    exact Gv.neg (by omega) (Gv.ite (fun _ => Gv.pos (by omega) (Gv.ok (by simp; omega))) fun _ => Gv.ok (by omega))
  | succ d ih =>
   intro i n out x y hd hi ho hn
   cases n with
   | zero => omega
   | succ n =>
    simp only [spec_l01Waits.l0, spec_l01Waits.s0]
    refine Gv.pos (by omega) (Gv.pos (by omega) (Gv.pos (by omega) ?_))
    rw [w64n (by omega)]
    refine Gv.ite (fun _ => Gv.ite (fun _ => ih (i + 1) n _ _ _ (by omega) (by omega) (by omega) (by omega)) fun _ => Gv.pos (by omega) (ih (i + 1) n _ _ _ (by omega) (by omega) (by simp; omega) (by omega))) fun _ => ih (i + 1) n _ _ _ (by omega) (by omega) (by omega) (by omega)
 unfold spec_l01Waits.f spec_l01Waits.g
 exact key l.length 0 k [] _ _ (by omega) (by omega) (by simp) (by omega)
theorem greatest_ok {k : Nat} (hk : 2097152 ≤ k) {l : List Int} (hl : l.length ≤ 1048576) (a : Int) : Gv (spec_l01Greatest.f k l a) fun _ => True := by
 have key : ∀ (w : List Int), w.length ≤ 1048577 → ∀ (d i n : Nat) (x : Int), w.length - i = d → i ≤ w.length → d < n → Gv (spec_l01Greatest.l0 k n w x i) fun _ => True := by
  intro w hw d
  induction d with
  | zero =>
   intro i n x hd hi hn
   cases n with
   | zero => omega
   | succ n =>
    simp only [spec_l01Greatest.l0, spec_l01Greatest.s0]
    exact Gv.neg (by omega) (Gv.ok trivial)
  | succ d ih =>
   intro i n x hd hi hn
   cases n with
   | zero => omega
   | succ n =>
    simp only [spec_l01Greatest.l0, spec_l01Greatest.s0]
    refine Gv.pos (by omega) (Gv.pos (by omega) (Gv.pos (by omega) ?_))
    rw [w64n (by omega)]
    exact ih (i + 1) n _ (by omega) (by omega) (by omega)
 unfold spec_l01Greatest.f spec_l01Greatest.g
 refine Gv.bind (waits_ok hk hl a) fun w hw => ?_
 exact key w hw w.length 0 k 0 (by omega) (by omega) (by omega)
theorem drawOf_ok {k : Nat} (hk : 2097152 ≤ k) {s : SrcT} (S : Src s) {m : Nat} (hm : m ≤ 1000) : Gv (spec_l01DrawOf.f k s (m : Int)) fun r => Src r.2 ∧ r.1.length = m := by
 have key : ∀ (d i n : Nat) (out : List Int) (s : SrcT), Src s → m - i = d → i ≤ m → out.length = i → d < n → Gv (spec_l01DrawOf.l0 k n s.1 s.2.1 s.2.2 (m : Int) out (i : Int)) fun r => Src r.2 ∧ r.1.length = m := by
  intro d
  induction d with
  | zero =>
   intro i n out s S hd hi ho hn
   cases n with
   | zero => omega
   | succ n =>
    simp only [spec_l01DrawOf.l0, spec_l01DrawOf.s0]
    exact Gv.neg (by omega) (Gv.ok ⟨S, by simp only; omega⟩)
  | succ d ih =>
   intro i n out s S hd hi ho hn
   cases n with
   | zero => omega
   | succ n =>
    simp only [spec_l01DrawOf.l0, spec_l01DrawOf.s0]
    refine Gv.pos (by omega) (Gv.bind (pick_ok S _ (by simp)) fun r hr => Gv.bind (next_ok hr.1 _) fun q hq => Gv.pos (by omega) ?_)
    rw [w64n (by omega)]
    exact ih (i + 1) n _ _ hq.1 (by omega) (by omega) (by simp; omega) (by omega)
 unfold spec_l01DrawOf.f spec_l01DrawOf.g
 exact key m 0 k [] s S (by omega) (by omega) (by simp) (by omega)
theorem served_l1 {k m : Nat} (hk : 2097152 ≤ k) (hm8 : 1 ≤ m ∧ m ≤ 8) : ∀ (w : List Int), 1 ≤ w.length → w.length ≤ 120 → ∀ (d i n : Nat) (out : List Int) (s : SrcT), Src s → m - i = d → i ≤ m → out.length = i → d < n → Gv (spec_l01DrawServed.l1 k n s.1 s.2.1 s.2.2 (m : Int) w out (i : Int)) fun r => Src r.2.2 ∧ 1 ≤ r.1.length ∧ r.1.length ≤ 8 ∧ 1 ≤ r.2.1.length ∧ r.2.1.length ≤ 120 := by
 intro w hw1 hw2 d
 induction d with
 | zero =>
  intro i n out s S hd hi ho hn
  cases n with
  | zero => omega
  | succ n =>
   simp only [spec_l01DrawServed.l1, spec_l01DrawServed.s1]
   exact Gv.neg (by omega) (Gv.ok ⟨S, by simp only; omega, by simp only; omega, hw1, hw2⟩)
 | succ d ih =>
  intro i n out s S hd hi ho hn
  cases n with
  | zero => omega
  | succ n =>
   simp only [spec_l01DrawServed.l1, spec_l01DrawServed.s1]
   have nx : wrap64 ((i : Int) + 1) = ((i + 1 : Nat) : Int) := w64n (by omega)
   rw [nx]
   have go : ∀ (x : Int) (s : SrcT), Src s → Gv (spec_l01DrawServed.l1 k n s.1 s.2.1 s.2.2 (m : Int) w (out ++ [x]) ((i + 1 : Nat) : Int)) fun r => Src r.2.2 ∧ 1 ≤ r.1.length ∧ r.1.length ≤ 8 ∧ 1 ≤ r.2.1.length ∧ r.2.1.length ≤ 120 :=
    fun x s S => ih (i + 1) n _ s S (by omega) (by omega) (by simp; omega) (by omega)
   refine Gv.pos (by omega) (Gv.bind (greatest_ok hk (by omega) _) fun g _ => Gv.ite (fun _ => ?_) fun _ => ?_)
   ·refine Gv.bind (next_ok S 4) fun a ha => Gv.ite (fun _ => Gv.bind (next_ok ha.1 4) fun b hb => Gv.pos (by omega) (go _ _ hb.1)) fun _ => Gv.pos (by omega) (go _ _ ha.1)
   ·refine Gv.bind (next_ok S 4) fun a ha => Gv.ite (fun _ => Gv.bind (next_ok ha.1 4) fun b hb => Gv.pos (by omega) (go _ _ hb.1)) fun _ => Gv.pos (by omega) (go _ _ ha.1)
theorem served_l0 {k m : Nat} (hk : 2097152 ≤ k) (hm8 : 1 ≤ m ∧ m ≤ 8) : ∀ (d i n : Nat) (w : List Int) (s : SrcT), Src s → 1 ≤ w.length → w.length ≤ 120 → m - i = d → i ≤ m → d < n → Gv (spec_l01DrawServed.l0 k n s.1 s.2.1 s.2.2 (m : Int) w (i : Int)) fun r => Src r.2.2 ∧ 1 ≤ r.1.length ∧ r.1.length ≤ 8 ∧ 1 ≤ r.2.1.length ∧ r.2.1.length ≤ 120 := by
 intro d
 induction d with
 | zero =>
  intro i n w s S h1 h2 hd hi hn
  cases n with
  | zero => omega
  | succ n =>
   simp only [spec_l01DrawServed.l0, spec_l01DrawServed.s0]
   exact Gv.neg (by omega) (served_l1 hk hm8 w h1 h2 m 0 k [] s S (by omega) (by omega) (by simp) (by omega))
 | succ d ih =>
  intro i n w s S h1 h2 hd hi hn
  cases n with
  | zero => omega
  | succ n =>
   simp only [spec_l01DrawServed.l0, spec_l01DrawServed.s0]
   have nx : wrap64 ((i : Int) + 1) = ((i + 1 : Nat) : Int) := w64n (by omega)
   rw [nx]
   refine Gv.pos (by omega) (Gv.ite (fun c => Gv.bind (greatest_ok hk (by omega) _) fun g _ => Gv.ite (fun _ => Gv.pos (by omega) (Gv.pos c ?_)) fun _ => ?_) fun _ => ?_)
   ·exact ih (i + 1) n _ s S (by simp; omega) (by simp; omega) (by omega) (by omega) (by omega)
   ·exact ih (i + 1) n w s S h1 h2 (by omega) (by omega) (by omega)
   ·exact served_l1 hk hm8 w h1 h2 m 0 k [] s S (by omega) (by omega) (by simp) (by omega)
theorem drawServed_ok {k : Nat} (hk : 2097152 ≤ k) {s : SrcT} (S : Src s) : Gv (spec_l01DrawServed.f k s) fun r => Src r.2.2 ∧ 1 ≤ r.1.length ∧ r.1.length ≤ 8 ∧ 1 ≤ r.2.1.length ∧ r.2.1.length ≤ 120 := by
 unfold spec_l01DrawServed.f spec_l01DrawServed.g
 refine Gv.bind (pick_ok S [3, 5, 8] (by simp)) fun r hr => Gv.bind (next_ok hr.1 _) fun q hq => ?_
 have hr2 : 1 ≤ r.1 ∧ r.1 ≤ 8 := by
  have := hr.2
  simp at this
  omega
 have hq2 := hq.2.2 hr2.1
 obtain ⟨m0, hm0⟩ := Int.eq_ofNat_of_zero_le hq2.1
 rw [hm0, show wrap64 (1 + (m0 : Int)) = ((1 + m0 : Nat) : Int) by rw [w64 (by omega) (by omega)]; omega]
 obtain ⟨m, hm⟩ : ∃ m, m = 1 + m0 := ⟨_, rfl⟩
 have hm8 : 1 ≤ m ∧ m ≤ 8 := by omega
 rw [← hm]
 refine Gv.bind (drawTurns_ok hk hq.1 _) fun p hp => ?_
 exact served_l0 hk hm8 m 0 k p.1 p.2 hp.1 hp.2.1 hp.2.2 (by omega) (by omega) (by omega)
theorem draw_ok' {k : Nat} (hk : 2097152 ≤ k) {s : SrcT} (S : Src s) : Gv (spec_l01Draw.f k s) fun r => Src r.2 ∧ 1 ≤ r.1.length ∧ r.1.length ≤ 8 := by
 unfold spec_l01Draw.f
 refine Gv.bind (next_ok S 2) fun r hr => Gv.ite (fun _ => ?_) fun _ => ?_
 ·exact Gv.bind (drawServed_ok hk hr.1) fun q hq => Gv.ok ⟨hq.1, hq.2.1, hq.2.2.1⟩
 ·refine Gv.bind (pick_ok hr.1 [3, 5, 8] (by simp)) fun q hq => Gv.bind (next_ok hq.1 _) fun p hp => ?_
  have hq2 : 1 ≤ q.1 ∧ q.1 ≤ 8 := by
   have := hq.2
   simp at this
   omega
  have hp2 := hp.2.2 hq2.1
  obtain ⟨m0, hm0⟩ := Int.eq_ofNat_of_zero_le hp2.1
  rw [hm0, show wrap64 (1 + (m0 : Int)) = ((1 + m0 : Nat) : Int) by rw [w64 (by omega) (by omega)]; omega]
  exact Gv.bind (drawOf_ok hk hp.1 (by omega)) fun z hz => Gv.ok ⟨hz.1, by show 1 ≤ z.1.length; omega, by show z.1.length ≤ 8; omega⟩
theorem bad_ok {k : Nat} (hk : 2097152 ≤ k) {s : SrcT} (S : Src s) {l : List Int} (h1 : 1 ≤ l.length) (h2 : l.length ≤ 1000) : Gv (spec_l01Bad.f k s l) fun r => Src r.2 ∧ r.1.length ≤ 1009 := by
 have key : ∀ (d n : Nat) (out : List Int) (s : SrcT), Src s → out.length ≤ 1009 → 9 - out.length ≤ d → d < n → Gv (spec_l01Bad.l0 k n out s.1 s.2.1 s.2.2) fun r => Src r.2 ∧ r.1.length ≤ 1009 := by
  intro d
  induction d with
  | zero =>
   intro n out s S ho hd hn
   cases n with
   | zero => omega
   | succ n =>
    simp only [spec_l01Bad.l0, spec_l01Bad.s0]
    exact Gv.neg (by omega) (Gv.ok ⟨S, by simp only; omega⟩)
  | succ d ih =>
   intro n out s S ho hd hn
   cases n with
   | zero => omega
   | succ n =>
    simp only [spec_l01Bad.l0, spec_l01Bad.s0]
    refine Gv.ite (fun c => Gv.pos (by omega) (ih n _ s S (by simp; omega) (by simp; omega) (by omega))) fun c => Gv.ok ⟨S, by simp only; omega⟩
 unfold spec_l01Bad.f spec_l01Bad.g
 rw [own_ok l (by omega), Option.bind_some]
 refine Gv.bind (next_ok S 50) fun r hr => Gv.ite (fun _ => Gv.ok ⟨hr.1, by simp⟩) fun _ => Gv.ite (fun _ => ?_) fun _ => Gv.ite (fun _ => key 9 k l r.2 hr.1 (by omega) (by omega) (by omega)) fun _ => Gv.ok ⟨hr.1, by simp only; omega⟩
 unfold spec_l01K.f
 rw [Option.bind_some]
 refine Gv.bind (next_ok hr.1 _) fun q hq => Gv.bind (pick_ok hq.1 _ (by simp)) fun p hp => ?_
 have := hq.2.2 (by omega)
 exact Gv.pos this.1 (Gv.pos this.2 (Gv.ok ⟨hp.1, by simp; omega⟩))
def l02Table : List (List Int) := [[1], [2, 2], [2, 3], [2, 4, 4], [3, 3, 3], [2, 3, 6], [3, 4, 4], [3, 4, 5], [2, 5, 6], [4, 4, 4, 4], [3, 4, 6, 6], [2, 4, 8, 8], [1, 2], [3, 5, 5, 5], [4, 5, 5, 5], [2, 6, 7]]
theorem l02Table_len : ∀ l ∈ l02Table, 1 ≤ l.length ∧ l.length ≤ 8 := by decide
theorem l02DrawOf_ok {k : Nat} (hk : 2097152 ≤ k) {s : SrcT} (S : Src s) : Gv (spec_l02DrawOf.f k s) fun r => Src r.2 ∧ 1 ≤ r.1.length ∧ r.1.length ≤ 8 := by
 unfold spec_l02DrawOf.f
 refine Gv.bind (next_ok S 16) fun r hr => ?_
 obtain ⟨h0, h1⟩ := hr.2.2 (by omega)
 refine Gv.pos h0 (Gv.pos h1 ?_)
 obtain ⟨l, hl⟩ : ∃ l, l = rdOf ([] : List Int) l02Table r.1 := ⟨_, rfl⟩
 have hl2 : 1 ≤ l.length ∧ l.length ≤ 8 := by
  obtain ⟨j, hj⟩ := Int.eq_ofNat_of_zero_le h0
  have hlt : j < l02Table.length := by show j < 16; omega
  rw [hl, hj, rdOf_lt hlt]
  exact l02Table_len _ (List.getElem_mem hlt)
 show Gv ((spec_l01Own.f (rdOf ([] : List Int) l02Table r.1)).bind _) _
 rw [← hl, own_ok l (by omega), Option.bind_some]
 refine Gv.bind (next_ok hr.1 4) fun q hq => Gv.ite (fun _ => ?_) fun _ => ?_
 ·unfold spec_l01K.f
  rw [Option.bind_some]
  refine Gv.bind (next_ok hq.1 _) fun p hp => ?_
  obtain ⟨g0, g1⟩ := hp.2.2 (by omega)
  refine Gv.pos g0 (Gv.pos g1 (Gv.bind (next_ok hp.1 3) fun a ha => Gv.pos g0 (Gv.pos g1 (Gv.bind (next_ok ha.1 24) fun b hb => Gv.ite (fun _ => ?_) fun _ => ?_))))
  ·exact Gv.bind (draw_ok' hk hb.1) fun z hz => Gv.ok hz
  ·exact Gv.ok ⟨hb.1, by simp; omega, by simp; omega⟩
 ·refine Gv.bind (next_ok hq.1 24) fun b hb => Gv.ite (fun _ => ?_) fun _ => ?_
  ·exact Gv.bind (draw_ok' hk hb.1) fun z hz => Gv.ok hz
  ·exact Gv.ok ⟨hb.1, hl2.1, hl2.2⟩
theorem rd_app1 (P : List Int) (x : Int) (j : Nat) : rd (P ++ [x]) j = if j < P.length then rd P j else if j = P.length then x else 0 := by
 rw [rd_nat, rd_nat, List.getD_eq_getElem?_getD, List.getD_eq_getElem?_getD]
 by_cases h : j < P.length
 ·rw [if_pos h, List.getElem?_append_left h]
 ·rw [if_neg h, List.getElem?_append_right (by omega)]
  by_cases e : j = P.length
  ·rw [if_pos e, e]; simp
  ·rw [if_neg e, List.getElem?_eq_none (by simp; omega)]; rfl
structure Turn (cs : List Int) (t g : Int) (X : Nat → Int) : Prop where
 st : ∀ j : Nat, j < cs.length → X (j + 1) = if rd cs j = t then g else X j - 1
 bd : ∀ j : Nat, j ≤ cs.length → 1 ≤ X j ∧ X j ≤ g
 ret : X cs.length = X 0
structure PlI (t g : Int) (X : Nat → Int) (i : Nat) (P : List Int) : Prop where
 len : P.length ≤ i
 el : ∀ j : Nat, j < P.length → 0 ≤ rd P j ∧ rd P j < i
 df : ∀ j : Nat, j + 1 < P.length → rd P ((j + 1 : Nat) : Int) - rd P j ≤ g
 no : P.length = 0 → X i = X 0 - i
 la : 1 ≤ P.length → X i = g - (i - rd P ((P.length - 1 : Nat) : Int) - 1)
 fi : 1 ≤ P.length → X (rd P ((0 : Nat) : Int)).toNat = X 0 - rd P ((0 : Nat) : Int)
theorem PlI.skip {cs : List Int} {t g : Int} {X : Nat → Int} (T : Turn cs t g X) {i : Nat} {P : List Int} (I : PlI t g X i P) (hi : i < cs.length) (h : ¬ rd cs i = t) : PlI t g X (i + 1) P := by
 have hs := T.st i hi
 rw [if_neg h] at hs
 have hl := I.len
 refine ⟨by omega, fun j hj => ?_, I.df, fun h0 => ?_, fun h1 => ?_, I.fi⟩
 ·have := I.el j hj; omega
 ·have := I.no h0; rw [hs, this]; push_cast; omega
 ·have := I.la h1; rw [hs, this]; push_cast; omega
theorem PlI.take {cs : List Int} {t g : Int} {X : Nat → Int} (T : Turn cs t g X) {i : Nat} {P : List Int} (I : PlI t g X i P) (hi : i < cs.length) (h : rd cs i = t) : PlI t g X (i + 1) (P ++ [(i : Int)]) := by
 have hs := T.st i hi
 rw [if_pos h] at hs
 have hb := T.bd i (by omega)
 have hl := I.len
 have e1 : (P ++ [(i : Int)]).length = P.length + 1 := by simp
 refine ⟨by omega, fun j hj => ?_, fun j hj => ?_, fun h0 => by omega, fun h1 => ?_, fun h1 => ?_⟩
 ·rw [rd_app1]
  split
  ·rename_i hlt; have := I.el j hlt; omega
  ·rw [if_pos (by omega)]; omega
 ·rw [rd_app1, rd_app1]
  by_cases c : j + 1 < P.length
  ·rw [if_pos c, if_pos (by omega)]; exact I.df j c
  ·have hj' : j + 1 = P.length := by omega
   rw [if_neg c, if_pos hj', if_pos (by omega)]
   have := I.la (by omega)
   rw [show P.length - 1 = j by omega] at this
   omega
 ·rw [e1, show P.length + 1 - 1 = P.length by omega, rd_app1, if_neg (by omega), if_pos rfl, hs]; push_cast; omega
 ·rw [rd_app1]
  by_cases c : 0 < P.length
  ·rw [if_pos c]; exact I.fi (by omega)
  ·rw [if_neg c, if_pos (by omega), Int.toNat_natCast]
   exact I.no (by omega)
theorem waits_l1 {k : Nat} {cs P : List Int} {t g : Int} {X : Nat → Int} (T : Turn cs t g X) (hn : cs.length ≤ 1048576) (I : PlI t g X cs.length P) (hP : 1 ≤ P.length) : ∀ (d j n : Nat) (out : List Int), P.length - j = d → j ≤ P.length → out.length = j → (∀ x ∈ out, x ≤ g) → d < n →
  Gv (impl_waits.l1 k n cs P out P.length j) fun w => 1 ≤ w.length ∧ w.length ≤ 1048576 ∧ ∀ x ∈ w, x ≤ g := by
 have hl := I.len
 intro d
 induction d with
 | zero =>
  intro j n out hd hj ho hout hn'
  cases n with
  | zero => omega
  | succ n =>
   simp only [impl_waits.l1, impl_waits.s1]
   exact Gv.neg (by omega) (Gv.ok ⟨by omega, by omega, hout⟩)
 | succ d ih =>
  intro j n out hd hj ho hout hn'
  cases n with
  | zero => omega
  | succ n =>
   simp only [impl_waits.l1, impl_waits.s1]
   rw [w64n (by omega)]
   have hj' := I.el j (by omega)
   refine Gv.pos (by omega) (Gv.pos (by omega) (Gv.pos (by omega) ?_))
   have app : ∀ y : Int, y ≤ g → ∀ x ∈ out ++ [y], x ≤ g := by
    intro y hy x hx
    rcases List.mem_append.1 hx with hx | hx
    ·exact hout x hx
    ·simp only [List.mem_singleton] at hx; omega
   by_cases c : j + 1 < P.length
   ·have h1 := I.el (j + 1) c
    have h2 := I.df j c
    refine Gv.pos (by omega) (Gv.pos (by omega) (Gv.pos (by omega) (Gv.pos (by omega) ?_)))
    rw [w64 (x := rd P ((j + 1 : Nat) : Int) - rd P j) (by omega) (by omega)]
    exact ih (j + 1) n _ (by omega) (by omega) (by simp; omega) (app _ h2) (by omega)
   ·have h1 := I.el 0 (by omega)
    have h2 := I.la hP
    have h3 := I.fi hP
    have h4 := T.ret
    have h5 := T.bd (rd P ((0 : Nat) : Int)).toNat (by omega)
    rw [show P.length - 1 = j by omega] at h2
    refine Gv.neg (by omega) (Gv.pos (by omega) ?_)
    rw [length_f, Option.bind_some]
    refine Gv.pos (by omega) ?_
    have e0 : rd P 0 = rd P ((0 : Nat) : Int) := rfl
    rw [e0, w64 (x := rd P ((0 : Nat) : Int) + cs.length) (by omega) (by omega), w64 (x := rd P ((0 : Nat) : Int) + cs.length - rd P j) (by omega) (by omega)]
    exact ih (j + 1) n _ (by omega) (by omega) (by simp; omega) (app _ (by omega)) (by omega)
theorem waits_f {k : Nat} {cs : List Int} {t g : Int} {X : Nat → Int} (hk : 2097152 ≤ k) (T : Turn cs t g X) (h1 : 1 ≤ cs.length) (hn : cs.length ≤ 1048576) : Gv (impl_waits.f k cs t) fun w => 1 ≤ w.length ∧ w.length ≤ 1048576 ∧ ∀ x ∈ w, x ≤ g := by
 have key : ∀ (d i n : Nat) (P : List Int), cs.length - i = d → i ≤ cs.length → PlI t g X i P → d < n → Gv (impl_waits.l0 k n cs t P cs cs.length i) fun w => 1 ≤ w.length ∧ w.length ≤ 1048576 ∧ ∀ x ∈ w, x ≤ g := by
  intro d
  induction d with
  | zero =>
   intro i n P hd hi I hn'
   obtain rfl : i = cs.length := by omega
   cases n with
   | zero => omega
   | succ n =>
    simp only [impl_waits.l0, impl_waits.s0]
    refine Gv.neg (by omega) ?_
    have hl := I.len
    have hP : 1 ≤ P.length := by
     by_cases c : P.length = 0
     ·have := I.no c; have := T.ret; omega
     ·omega
    exact waits_l1 T hn I hP P.length 0 k [] (by omega) (by omega) rfl (by simp) (by omega)
  | succ d ih =>
   intro i n P hd hi I hn'
   cases n with
   | zero => omega
   | succ n =>
    have hl := I.len
    simp only [impl_waits.l0, impl_waits.s0]
    rw [w64n (by omega)]
    refine Gv.pos (by omega) (Gv.pos (by omega) (Gv.pos (by omega) (Gv.ite (fun c => Gv.pos (by omega) ?_) fun c => ?_)))
    ·exact ih (i + 1) n _ (by omega) (by omega) (I.take T (by omega) c) (by omega)
    ·exact ih (i + 1) n _ (by omega) (by omega) (I.skip T (by omega) c) (by omega)
 unfold impl_waits.f impl_waits.g
 exact key cs.length 0 k [] (by omega) (by omega) ⟨by simp, fun j hj => by simp at hj, fun j hj => by simp at hj, fun _ => by simp, fun h => by simp at h, fun h => by simp at h⟩ (by omega)
theorem greatest_le {k : Nat} {w : List Int} {g : Int} (hk : 2097152 ≤ k) (hw : w.length ≤ 1048576) (hg : 0 ≤ g) (h : ∀ x ∈ w, x ≤ g) : Gv (impl_greatest.f k w) fun r => r ≤ g := by
 have key : ∀ (d i n : Nat) (x : Int), w.length - i = d → i ≤ w.length → x ≤ g → d < n → Gv (impl_greatest.l0 k n x w w.length i) fun r => r ≤ g := by
  intro d
  induction d with
  | zero =>
   intro i n x hd hi hx hn
   cases n with
   | zero => omega
   | succ n =>
    simp only [impl_greatest.l0, impl_greatest.s0]
    exact Gv.neg (by omega) (Gv.ok hx)
  | succ d ih =>
   intro i n x hd hi hx hn
   cases n with
   | zero => omega
   | succ n =>
    simp only [impl_greatest.l0, impl_greatest.s0]
    rw [w64n (by omega)]
    have := h _ (rd_mem (l := w) (i := i) (by omega))
    refine Gv.pos (by omega) (Gv.pos (by omega) (Gv.pos (by omega) (ih (i + 1) n _ (by omega) (by omega) ?_ (by omega))))
    unfold maxV; split <;> omega
 unfold impl_greatest.f impl_greatest.g
 exact key w.length 0 k 0 (by omega) (by omega) hg (by omega)
def turnB (m : Int) (c : Int) : Bool := decide (-1 ≤ c ∧ c ≤ m - 1)
theorem areTurns_all {k : Nat} {l : List Int} {m : Int} (hk : 2097152 ≤ k) (hl : l.length ≤ 1048576) (hm : 0 ≤ m) (hm2 : m ≤ 1048576) : impl_areAll_int64_impl_areTurns_1.f k l m = some (l.all (turnB m)) := by
 obtain ⟨j, h1, h2⟩ := idx_run (L := slices_IndexFunc_int64_int64_impl_areAll_int64_1_impl_areTurns_1.l0 k) (p := fun x => !turnB m x) (l := l) (c := m)
  (fun n i hi => by
   simp only [slices_IndexFunc_int64_int64_impl_areAll_int64_1_impl_areTurns_1.l0, slices_IndexFunc_int64_int64_impl_areAll_int64_1_impl_areTurns_1.s0]
   rw [if_pos (by omega), if_pos (by omega), if_pos (by omega)]
   simp only [impl_areAll_int64_1_impl_areTurns_1.f, impl_areTurns_1.f, within_f, Option.bind_some, w64n (show i ≤ 9223372036854775806 by omega), w64 (x := m - 1) (by omega) (by omega)]
   unfold turnB
   cases decide (-1 ≤ rd l i ∧ rd l i ≤ m - 1) <;> simp)
  (fun n => by
   simp only [slices_IndexFunc_int64_int64_impl_areAll_int64_1_impl_areTurns_1.l0, slices_IndexFunc_int64_int64_impl_areAll_int64_1_impl_areTurns_1.s0]
   rw [if_neg (by omega)]) l.length 0 k (by omega) (by omega) (by omega)
 unfold impl_areAll_int64_impl_areTurns_1.f slices_ContainsFunc_int64_int64_impl_areAll_int64_1_impl_areTurns_1.f slices_IndexFunc_int64_int64_impl_areAll_int64_1_impl_areTurns_1.f slices_IndexFunc_int64_int64_impl_areAll_int64_1_impl_areTurns_1.g
 rw [show slices_IndexFunc_int64_int64_impl_areAll_int64_1_impl_areTurns_1.l0 k k l m l.length 0 = some j from h1, Option.bind_some, Option.bind_some]
 rw [List.drop_zero] at h2
 congr 1
 exact all_iff (p := fun x => !turnB m x) (fun _ => rfl) h2
def dif : Int → List Int → List Int
 | _, [] => []
 | a, b :: P => (b - a) :: dif b P
def lastA : Int → List Int → Int
 | a, [] => a
 | _, b :: P => lastA b P
def wts (n : Int) : List Int → List Int
 | [] => []
 | f :: P => dif f P ++ [n - lastA f P + f]
def places (cs : List Int) (t : Int) : Nat → List Int
 | 0 => []
 | i + 1 => if rd cs i = t then places cs t i ++ [(i : Int)] else places cs t i
def wait (cs : List Int) (t : Int) : List Int := wts cs.length (places cs t cs.length)
theorem dif_app : ∀ (P : List Int) (a x : Int), dif a (P ++ [x]) = dif a P ++ [x - lastA a P]
 | [], a, x => rfl
 | b :: P, a, x => by
  show (b - a) :: dif b (P ++ [x]) = (b - a) :: (dif b P ++ [x - lastA b P])
  rw [dif_app P b x]
theorem lastA_app : ∀ (P : List Int) (a x : Int), lastA a (P ++ [x]) = x
 | [], a, x => rfl
 | b :: P, a, x => lastA_app P b x
theorem lastA_mem : ∀ (P : List Int) (a : Int), lastA a P ∈ a :: P
 | [], a => by simp [lastA]
 | b :: P, a => List.mem_cons_of_mem _ (lastA_mem P b)
theorem dif_len : ∀ (P : List Int) (a : Int), (dif a P).length = P.length
 | [], a => rfl
 | b :: P, a => by simp [dif, dif_len P b]
theorem wts_len (n : Int) : ∀ P : List Int, (wts n P).length = P.length
 | [] => rfl
 | f :: P => by simp [wts, dif_len]
theorem places_bnd (cs : List Int) (t : Int) : ∀ (i : Nat), ∀ x ∈ places cs t i, 0 ≤ x ∧ x < i
 | 0, x, h => by cases h
 | i + 1, x, h => by
  unfold places at h
  split at h
  ·rcases List.mem_append.1 h with h | h
   ·have := places_bnd cs t i x h; omega
   ·simp only [List.mem_singleton] at h; omega
  ·have := places_bnd cs t i x h; omega
theorem places_len (cs : List Int) (t : Int) : ∀ (i : Nat), (places cs t i).length ≤ i
 | 0 => Nat.le_refl _
 | i + 1 => by
  have := places_len cs t i
  unfold places
  split
  ·simp; omega
  ·omega
theorem rd_cons (a : Int) (l : List Int) (i : Nat) : rd (a :: l) ((i + 1 : Nat) : Int) = rd l (i : Int) := by rw [rd_nat, rd_nat]; rfl
theorem rd_zero (a : Int) (l : List Int) : rd (a :: l) ((0 : Nat) : Int) = a := rfl
theorem dif_rd : ∀ (P : List Int) (a : Int) (j : Nat), j < P.length → rd (dif a P) j = rd (a :: P) ((j + 1 : Nat) : Int) - rd (a :: P) j
 | [], a, j, h => by simp at h
 | b :: P, a, 0, h => rfl
 | b :: P, a, j + 1, h => by
  show rd ((b - a) :: dif b P) ((j + 1 : Nat) : Int) = _
  rw [rd_cons (b - a) (dif b P) j, dif_rd P b j (by simpa using h), rd_cons a (b :: P) (j + 1), rd_cons a (b :: P) j]
theorem lastA_rd : ∀ (P : List Int) (a : Int), lastA a P = rd (a :: P) P.length
 | [], a => rfl
 | b :: P, a => by
  rw [List.length_cons, rd_cons]
  exact lastA_rd P b
theorem wts_rd (n : Int) {P : List Int} {j : Nat} (hj : j < P.length) : rd (wts n P) j = if j + 1 < P.length then rd P ((j + 1 : Nat) : Int) - rd P j else rd P ((0 : Nat) : Int) + n - rd P j := by
 cases P with
 | nil => simp at hj
 | cons f P =>
  show rd (dif f P ++ [n - lastA f P + f]) j = _
  rw [rd_app1, dif_len]
  have hl : (f :: P).length = P.length + 1 := rfl
  by_cases c : j < P.length
  ·rw [if_pos c, if_pos (by omega), dif_rd P f j c]
  ·have e : j = P.length := by omega
   rw [if_neg c, if_pos e, if_neg (by omega), lastA_rd, rd_zero, e]; omega
def grt (w : List Int) : Int := w.foldl maxV 0
theorem maxV_le {a b g : Int} : maxV a b ≤ g ↔ a ≤ g ∧ b ≤ g := by unfold maxV; split <;> omega
theorem foldl_le : ∀ (w : List Int) (x g : Int), w.foldl maxV x ≤ g ↔ x ≤ g ∧ ∀ y ∈ w, y ≤ g
 | [], x, g => by simp
 | a :: w, x, g => by
  rw [List.foldl_cons, foldl_le w _ g, maxV_le]
  simp only [List.mem_cons, forall_eq_or_imp]
  constructor
  ·rintro ⟨⟨h1, h2⟩, h3⟩; exact ⟨h1, h2, h3⟩
  ·rintro ⟨h1, h2, h3⟩; exact ⟨⟨h1, h2⟩, h3⟩
theorem grt_le {w : List Int} {g : Int} : grt w ≤ g ↔ 0 ≤ g ∧ ∀ y ∈ w, y ≤ g := foldl_le w 0 g
theorem grt_nonneg (w : List Int) : 0 ≤ grt w := (grt_le.1 (Int.le_refl (grt w))).1
theorem grt_mem {w : List Int} {y : Int} (h : y ∈ w) : y ≤ grt w := (grt_le.1 (Int.le_refl (grt w))).2 y h
theorem wait_last {cs : List Int} {t : Int} (h : wait cs t ≠ []) : 1 ≤ grt (wait cs t) := by
 have hb := places_bnd cs t cs.length
 unfold wait at h ⊢
 cases hP : places cs t cs.length with
 | nil => rw [hP] at h; exact absurd rfl h
 | cons f P =>
  rw [hP] at hb
  have h1 := hb f (by simp)
  have h2 := hb _ (lastA_mem P f)
  have := grt_mem (w := wts cs.length (f :: P)) (y := (cs.length : Int) - lastA f P + f) (List.mem_append_right _ (by simp))
  omega
theorem spec_waits_f {k : Nat} {cs : List Int} (hk : 2097152 ≤ k) (hl : cs.length ≤ 1048576) (t : Int) : spec_l01Waits.f k cs t = some (wait cs t) := by
 have key : ∀ (d i n : Nat) (out : List Int) (f l : Int), cs.length - i = d → i ≤ cs.length → d < n →
   ((places cs t i = [] ∧ out = [] ∧ f = -1) ∨ ∃ Q, places cs t i = f :: Q ∧ out = dif f Q ∧ l = lastA f Q) → spec_l01Waits.l0 k n cs t out f l i = some (wait cs t) := by
  intro d
  induction d with
  | zero =>
   intro i n out f l hd hi hn I
   obtain rfl : i = cs.length := by omega
   cases n with
   | zero => omega
   | succ n =>
    have hb := places_bnd cs t cs.length
    have hpl := places_len cs t cs.length
    simp only [spec_l01Waits.l0, spec_l01Waits.s0]
    rw [if_neg (by omega)]
    rcases I with ⟨h1, h2, h3⟩ | ⟨Q, h1, h2, h3⟩
    ·rw [if_neg (by omega), h2]; unfold wait; rw [h1]; rfl
    ·rw [h1] at hb hpl
     have b1 := hb f (by simp)
     have b2 := hb _ (lastA_mem Q f)
     have hq := dif_len Q f
     simp at hpl
     rw [if_pos b1.1, h2, if_pos (by omega), h3, w64 (x := (cs.length : Int) - lastA f Q) (by omega) (by omega), w64 (by omega) (by omega)]
     unfold wait; rw [h1]; rfl
  | succ d ih =>
   intro i n out f l hd hi hn I
   cases n with
   | zero => omega
   | succ n =>
    have hb := places_bnd cs t i
    have hpl := places_len cs t i
    simp only [spec_l01Waits.l0, spec_l01Waits.s0]
    rw [w64n (by omega), if_pos (by omega), if_pos (by omega), if_pos (by omega)]
    by_cases c : rd cs i = t
    ·rw [if_pos c]
     have hp : places cs t (i + 1) = places cs t i ++ [(i : Int)] := if_pos c
     rcases I with ⟨h1, h2, h3⟩ | ⟨Q, h1, h2, h3⟩
     ·rw [if_pos (by omega)]
      exact ih (i + 1) n _ _ _ (by omega) (by omega) (by omega) (.inr ⟨[], by rw [hp, h1]; rfl, h2, rfl⟩)
     ·rw [h1] at hb hpl
      have b1 := hb f (by simp)
      have b2 := hb _ (lastA_mem Q f)
      have hq := dif_len Q f
      simp at hpl
      rw [if_neg (by omega), h2, if_pos (by omega), h3, w64 (by omega) (by omega)]
      exact ih (i + 1) n _ _ _ (by omega) (by omega) (by omega) (.inr ⟨Q ++ [(i : Int)], by rw [hp, h1]; rfl, (dif_app Q f i).symm, (lastA_app Q f i).symm⟩)
    ·rw [if_neg c]
     have hp : places cs t (i + 1) = places cs t i := if_neg c
     exact ih (i + 1) n _ _ _ (by clear I; omega) (by clear I; omega) (by clear I; omega) (by rw [hp]; exact I)
 unfold spec_l01Waits.f spec_l01Waits.g
 exact key cs.length 0 k [] _ _ (by omega) (by omega) (by omega) (.inl ⟨rfl, rfl, rfl⟩)
theorem impl_waits_f {k : Nat} {cs : List Int} (hk : 2097152 ≤ k) (hl : cs.length ≤ 1048576) (t : Int) : impl_waits.f k cs t = some (wait cs t) := by
 have hb := places_bnd cs t cs.length
 have hpl := places_len cs t cs.length
 have key1 : ∀ (d j n : Nat), (places cs t cs.length).length - j = d → j ≤ (places cs t cs.length).length → d < n → impl_waits.l1 k n cs (places cs t cs.length) ((wait cs t).take j) (places cs t cs.length).length j = some (wait cs t) := by
  have hwl : (wait cs t).length = (places cs t cs.length).length := wts_len _ _
  intro d
  induction d with
  | zero =>
   intro j n hd hj hn
   cases n with
   | zero => omega
   | succ n =>
    simp only [impl_waits.l1, impl_waits.s1]
    rw [if_neg (by omega), List.take_of_length_le (by omega)]
  | succ d ih =>
   intro j n hd hj hn
   cases n with
   | zero => omega
   | succ n =>
    have hr := wts_rd (cs.length : Int) (P := places cs t cs.length) (j := j) (by omega)
    have e : (wait cs t).take (j + 1) = (wait cs t).take j ++ [rd (wait cs t) j] := by rw [rd_lt (by omega), List.take_succ_eq_append_getElem (by omega)]
    have b1 := hb _ (rd_mem (l := places cs t cs.length) (i := j) (by omega))
    have tl : ((wait cs t).take j).length ≤ 1048576 := by rw [List.length_take]; omega
    simp only [impl_waits.l1, impl_waits.s1]
    rw [w64n (by omega), if_pos (by omega), if_pos (by omega), if_pos (by omega)]
    have next := ih (j + 1) n (by omega) (by omega) (by omega)
    by_cases c : j + 1 < (places cs t cs.length).length
    ·have b2 := hb _ (rd_mem (l := places cs t cs.length) (i := j + 1) c)
     rw [if_pos c] at hr
     rw [if_pos (by omega), if_pos (by omega), if_pos (by omega), if_pos (by omega), w64 (by omega) (by omega), ← hr]
     rw [e] at next
     exact next
    ·have b2 := hb _ (rd_mem (l := places cs t cs.length) (i := 0) (by omega))
     rw [if_neg c] at hr
     have e0 : rd (places cs t cs.length) 0 = rd (places cs t cs.length) ((0 : Nat) : Int) := rfl
     rw [if_neg (by omega), if_pos (by omega), length_f, Option.bind_some, if_pos (by omega), e0, w64 (x := rd (places cs t cs.length) ((0 : Nat) : Int) + cs.length) (by omega) (by omega), w64 (by omega) (by omega), ← hr]
     rw [e] at next
     exact next
 have key0 : ∀ (d i n : Nat), cs.length - i = d → i ≤ cs.length → d < n → impl_waits.l0 k n cs t (places cs t i) cs cs.length i = some (wait cs t) := by
  intro d
  induction d with
  | zero =>
   intro i n hd hi hn
   obtain rfl : i = cs.length := by omega
   cases n with
   | zero => omega
   | succ n =>
    simp only [impl_waits.l0, impl_waits.s0]
    rw [if_neg (by omega)]
    exact key1 _ 0 k rfl (by omega) (by omega)
  | succ d ih =>
   intro i n hd hi hn
   cases n with
   | zero => omega
   | succ n =>
    have hpi := places_len cs t i
    simp only [impl_waits.l0, impl_waits.s0]
    rw [w64n (by omega), if_pos (by omega), if_pos (by omega), if_pos (by omega)]
    have next := ih (i + 1) n (by omega) (by omega) (by omega)
    by_cases c : rd cs i = t
    ·rw [if_pos c, if_pos (by omega)]
     rw [show places cs t (i + 1) = places cs t i ++ [(i : Int)] from if_pos c] at next
     exact next
    ·rw [if_neg c]
     rw [show places cs t (i + 1) = places cs t i from if_neg c] at next
     exact next
 unfold impl_waits.f impl_waits.g
 exact key0 cs.length 0 k (by omega) (by omega) (by omega)
theorem wait_len {cs : List Int} (t : Int) : (wait cs t).length ≤ cs.length := by
 unfold wait; rw [wts_len]; exact places_len cs t cs.length
theorem impl_greatest_f {k : Nat} {w : List Int} (hk : 2097152 ≤ k) (hw : w.length ≤ 1048576) : impl_greatest.f k w = some (grt w) := by
 have key : ∀ (d i n : Nat) (x : Int), w.length - i = d → i ≤ w.length → d < n → impl_greatest.l0 k n x w w.length i = some ((w.drop i).foldl maxV x) := by
  intro d
  induction d with
  | zero =>
   intro i n x hd hi hn
   cases n with
   | zero => omega
   | succ n =>
    simp only [impl_greatest.l0, impl_greatest.s0]
    rw [if_neg (by omega), List.drop_eq_nil_of_le (by omega)]; rfl
  | succ d ih =>
   intro i n x hd hi hn
   cases n with
   | zero => omega
   | succ n =>
    simp only [impl_greatest.l0, impl_greatest.s0]
    rw [w64n (by omega), if_pos (by omega), if_pos (by omega), if_pos (by omega), drop_cons (by omega), ih (i + 1) n _ (by omega) (by omega) (by omega)]; rfl
 unfold impl_greatest.f impl_greatest.g
 exact key w.length 0 k 0 (by omega) (by omega) (by omega)
theorem spec_greatest_f {k : Nat} {cs : List Int} (hk : 2097152 ≤ k) (hl : cs.length ≤ 1048576) (t : Int) : spec_l01Greatest.f k cs t = some (grt (wait cs t)) := by
 have hw : (wait cs t).length ≤ 1048576 := by have := wait_len (cs := cs) t; omega
 have key : ∀ (d i n : Nat) (x : Int), (wait cs t).length - i = d → i ≤ (wait cs t).length → d < n → spec_l01Greatest.l0 k n (wait cs t) x i = some (((wait cs t).drop i).foldl maxV x) := by
  intro d
  induction d with
  | zero =>
   intro i n x hd hi hn
   cases n with
   | zero => omega
   | succ n =>
    simp only [spec_l01Greatest.l0, spec_l01Greatest.s0]
    rw [if_neg (by omega), List.drop_eq_nil_of_le (by omega)]; rfl
  | succ d ih =>
   intro i n x hd hi hn
   cases n with
   | zero => omega
   | succ n =>
    simp only [spec_l01Greatest.l0, spec_l01Greatest.s0]
    rw [w64n (by omega), if_pos (by omega), if_pos (by omega), if_pos (by omega), drop_cons (by omega), ih (i + 1) n _ (by omega) (by omega) (by omega)]; rfl
 unfold spec_l01Greatest.f spec_l01Greatest.g
 rw [spec_waits_f hk hl, Option.bind_some]
 exact key (wait cs t).length 0 k 0 (by omega) (by omega) (by omega)
def okT (cs : List Int) (t g : Int) : Bool := decide (1 ≤ (wait cs t).length ∧ grt (wait cs t) ≤ g)
def servB (G cs : List Int) : Nat → Nat → Bool
 | _, 0 => true
 | i, d + 1 => okT cs i (rd G i) && servB G cs (i + 1) d
theorem servB_iff {G cs : List Int} : ∀ {d i : Nat}, servB G cs i d = true ↔ ∀ t : Nat, i ≤ t → t < i + d → okT cs t (rd G t) = true
 | 0, i => by simp only [servB, true_iff]; intro t h1 h2; omega
 | d + 1, i => by
  simp only [servB, Bool.and_eq_true]
  rw [servB_iff (d := d)]
  constructor
  ·rintro ⟨h1, h2⟩ t h3 h4
   by_cases e : t = i
   ·rw [e]; exact h1
   ·exact h2 t (by omega) (by omega)
  ·intro h
   exact ⟨h i (by omega) (by omega), fun t h1 h2 => h t (by omega) (by omega)⟩
def turnW (p c : Int) : Bool := decide (-1 ≤ c ∧ c ≤ wrap64 (p - 1))
def turnsW (p : Int) (cs : List Int) : Bool := decide (1 ≤ cs.length ∧ cs.length ≤ 120) && cs.all (turnW p)
theorem areTurnsW {k : Nat} {l : List Int} (hk : 2097152 ≤ k) (hl : l.length ≤ 1048576) (m : Int) : impl_areTurns.f k l m = some (turnsW m l) := by
 have key : impl_areAll_int64_impl_areTurns_1.f k l m = some (l.all (turnW m)) := by
  obtain ⟨j, h1, h2⟩ := idx_run (L := slices_IndexFunc_int64_int64_impl_areAll_int64_1_impl_areTurns_1.l0 k) (p := fun x => !turnW m x) (l := l) (c := m)
   (fun n i hi => by
    simp only [slices_IndexFunc_int64_int64_impl_areAll_int64_1_impl_areTurns_1.l0, slices_IndexFunc_int64_int64_impl_areAll_int64_1_impl_areTurns_1.s0]
    rw [if_pos (by omega), if_pos (by omega), if_pos (by omega)]
    simp only [impl_areAll_int64_1_impl_areTurns_1.f, impl_areTurns_1.f, within_f, Option.bind_some, w64n (show i ≤ 9223372036854775806 by omega)]
    unfold turnW
    cases decide (-1 ≤ rd l i ∧ rd l i ≤ wrap64 (m - 1)) <;> simp)
   (fun n => by
    simp only [slices_IndexFunc_int64_int64_impl_areAll_int64_1_impl_areTurns_1.l0, slices_IndexFunc_int64_int64_impl_areAll_int64_1_impl_areTurns_1.s0]
    rw [if_neg (by omega)]) l.length 0 k (by omega) (by omega) (by omega)
  unfold impl_areAll_int64_impl_areTurns_1.f slices_ContainsFunc_int64_int64_impl_areAll_int64_1_impl_areTurns_1.f slices_IndexFunc_int64_int64_impl_areAll_int64_1_impl_areTurns_1.f slices_IndexFunc_int64_int64_impl_areAll_int64_1_impl_areTurns_1.g
  rw [show slices_IndexFunc_int64_int64_impl_areAll_int64_1_impl_areTurns_1.l0 k k l m l.length 0 = some j from h1, Option.bind_some, Option.bind_some]
  rw [List.drop_zero] at h2
  congr 1
  exact all_iff (p := fun x => !turnW m x) (fun _ => rfl) h2
 unfold impl_areTurns.f turnsW
 rw [length_f, Option.bind_some, within_f, Option.bind_some]
 by_cases c : 1 ≤ l.length ∧ l.length ≤ 120
 ·rw [if_pos (decide_eq_true (by omega)), key, Option.bind_some, decide_eq_true c, Bool.true_and]
 ·rw [if_neg (by simp; omega), decide_eq_false c, Bool.false_and]
theorem turnsW_el {p : Int} {cs : List Int} (h1 : 1 ≤ p) (h2 : p ≤ 6) (h : turnsW p cs = true) : (1 ≤ cs.length ∧ cs.length ≤ 120) ∧ ∀ i : Nat, i < cs.length → -1 ≤ rd cs i ∧ rd cs i < p := by
 unfold turnsW at h
 rw [Bool.and_eq_true] at h
 refine ⟨of_decide_eq_true h.1, fun i hi => ?_⟩
 have := of_decide_eq_true (List.all_eq_true.1 h.2 _ (rd_mem hi))
 rw [w64 (x := p - 1) (by omega) (by omega)] at this
 omega
theorem contains_f {k : Nat} {l : List Int} (hk : 2097152 ≤ k) (hl : l.length ≤ 1048576) (a : Int) : ∃ b, slices_Contains_int64_int64.f k l a = some b ∧ (b = true ↔ ∃ x ∈ l, x = a) := by
 obtain ⟨j, h1, h2⟩ := idx_run (L := slices_Index_int64_int64.l0 k) (p := fun x => decide (a = x)) (l := l) (c := a)
  (fun n i hi => by
   simp only [slices_Index_int64_int64.l0, slices_Index_int64_int64.s0]
   rw [if_pos (by omega), if_pos (by omega), if_pos (by omega), w64n (by omega)]
   by_cases c : a = rd l i
   ·rw [if_pos c, if_pos (decide_eq_true c)]
   ·rw [if_neg c, if_neg (by simpa using c)])
  (fun n => by
   simp only [slices_Index_int64_int64.l0, slices_Index_int64_int64.s0]
   rw [if_neg (by omega)]) l.length 0 k (by omega) (by omega) (by omega)
 unfold slices_Contains_int64_int64.f slices_Index_int64_int64.f slices_Index_int64_int64.g
 rw [show slices_Index_int64_int64.l0 k k l a l.length 0 = some j from h1, Option.bind_some]
 refine ⟨_, rfl, ?_⟩
 rw [decide_eq_true_eq, h2, List.drop_zero]
 constructor
 ·rintro ⟨x, hx, e⟩; exact ⟨x, hx, (of_decide_eq_true e).symm⟩
 ·rintro ⟨x, hx, e⟩; exact ⟨x, hx, decide_eq_true e.symm⟩
structure Rw (m n : Nat) (L : List (List Int)) : Prop where
 len : L.length = m
 row : ∀ r ∈ L, r.length = n
theorem Rw.at {m n : Nat} {L : List (List Int)} (h : Rw m n L) {c : Nat} (hc : c < m) : (L.getD c []).length = n := by
 rw [List.getD_eq_getElem?_getD, List.getElem?_eq_getElem (by rw [h.len]; exact hc), Option.getD_some]
 exact h.row _ (List.getElem_mem _)
theorem Rw.set {m n : Nat} {L : List (List Int)} (h : Rw m n L) {c : Nat} {r : List Int} (hr : r.length = n) : Rw m n (L.set c r) := by
 refine ⟨by rw [List.length_set]; exact h.len, fun x hx => ?_⟩
 rcases List.mem_or_eq_of_mem_set hx with hx | rfl
 ·exact h.row x hx
 ·exact hr
theorem Rw.app {m n : Nat} {L : List (List Int)} (h : Rw m n L) {r : List Int} (hr : r.length = n) : Rw (m + 1) n (L ++ [r]) := by
 refine ⟨by rw [List.length_append, h.len]; rfl, fun x hx => ?_⟩
 rcases List.mem_append.1 hx with hx | hx
 ·exact h.row x hx
 ·rw [List.mem_singleton.1 hx]; exact hr
def SetE (G : List Int) (m : Int) (e : Int) : Prop := ∃ x : Nat, e = x ∧ x < 2 ^ G.length ∧ (popc x : Int) ≤ m
theorem nextO_set {G : List Int} {m v : Int} (h : isT G = true) (hc : cnt G ≤ 4000) (h0 : 0 ≤ v) (h1 : v < cnt G) (hv : (lastS G m).getD v.toNat false = true) : SetE G m (nextO G m v).1 := by
 obtain ⟨o, hr, h3, h4, h5⟩ := lastS_good h hc h0 h1 hv
 have e : nextO G m v = o := by unfold nextO; rw [hr]; rfl
 rw [e]
 have hm := List.mem_of_find?_eq_some hr
 obtain ⟨x, hx, ho⟩ := List.mem_filterMap.1 hm
 obtain ⟨h6, h7⟩ := List.mem_filter.1 hx
 have h8 := List.mem_range'.1 h6
 refine ⟨x, (opE_bnd h (ofN_st v (isT_gp h)) ho).1, ?_, of_decide_eq_true h7⟩
 obtain ⟨i, hi, rfl⟩ := h8
 omega
theorem playS_good {G : List Int} {m : Int} (h : isT G = true) (hc : cnt G ≤ 4000) : ∀ (n : Nat) (v : Int) (came out : List Int) (r : List Int × List Int), PlayS G m v came out → (∀ i : Nat, i < came.length → rd came i < out.length) → (∀ e ∈ out, SetE G m e) → playS G m n v came out = some r → 1 ≤ r.2.length ∧ ∀ e ∈ r.2, SetE G m e
 | 0, _, _, _, _, _, _, _, e => by cases e
 | n + 1, v, came, out, r, I, hb, ho, e => by
  unfold playS at e
  have hv0 := I.v0; have hv1 := I.v1; have hcl := I.cl
  by_cases c : 0 ≤ rd came v
  ·rw [if_pos c] at e
   obtain rfl := Option.some.inj e
   have hlt := hb v.toNat (by omega)
   rw [show ((v.toNat : Nat) : Int) = v by omega] at hlt
   exact ⟨by show 1 ≤ (out.drop _).length; rw [List.length_drop]; omega, fun x hx => ho x (List.mem_of_mem_drop hx)⟩
  ·rw [if_neg c] at e
   refine playS_good h hc n _ _ _ r (I.next h hc c) (fun i hi => ?_) (fun x hx => ?_) e
   ·have hi' : i < came.length := by simpa using hi
    rw [rd_set (by omega)]
    split
    ·simp; omega
    ·have := hb i hi'
     simp; omega
   ·rcases List.mem_append.1 hx with hx | hx
    ·exact ho x hx
    ·rw [List.mem_singleton.1 hx]
     exact nextO_set h hc hv0 hv1 I.lv
theorem playOnR_sets {G : List Int} {m : Int} (h0 : (playOnR G m).2.2 = 0) : 1 ≤ (playOnR G m).2.1.length ∧ ∀ e ∈ (playOnR G m).2.1, SetE G m e := by
 by_cases hf : code8 G m = 0
 ·by_cases hs : canS G m = true
  ·obtain ⟨h1, -, h3⟩ := code8_zero hf
   obtain ⟨r, e, e2, -, -⟩ := playOnR_eq hf hs
   rw [e2]
   refine playS_good h1 h3 _ _ _ _ r (playS_start h1 h3 hs) (fun i hi => ?_) (fun x hx => by cases hx) e
   rw [rd_nat, List.getD_eq_getElem?_getD, List.getElem?_replicate, if_pos (by simpa using hi)]
   decide
  ·unfold playOnR at h0
   rw [if_pos hf, if_neg hs] at h0
   cases h0
 ·unfold playOnR at h0
  rw [if_neg hf] at h0
  exact absurd h0 hf
def Lb (L : List (List Int)) : Prop := L.length ≤ 1000 ∧ ∀ r ∈ L, r.length ≤ 1000
theorem rdOf_rw (L : List (List Int)) (c : Nat) : rdOf ([] : List Int) L (c : Int) = L.getD c [] := rdOf_nat _ _ _
theorem drop_rw {L : List (List Int)} {c : Nat} (h : c < L.length) : L.drop c = L.getD c [] :: L.drop (c + 1) := by
 rw [List.getD_eq_getElem?_getD, List.getElem?_eq_getElem h, Option.getD_some]; exact List.drop_eq_getElem_cons h
def chRow (K : Int) (n : Nat) (r : List Int) : Bool := turnsW K r && decide (r.length = n)
theorem chRow_t {K : Int} {n : Nat} {r : List Int} (e : turnsW K r = true) (q : r.length = n) : chRow K n r = true := by unfold chRow; rw [e, decide_eq_true q]; rfl
theorem chRow_f1 {K : Int} {n : Nat} {r : List Int} (e : ¬ turnsW K r = true) : chRow K n r = false := by unfold chRow; rw [Bool.eq_false_iff.2 e]; rfl
theorem chRow_f2 {K : Int} {n : Nat} {r : List Int} (q : ¬ r.length = n) : chRow K n r = false := by unfold chRow; rw [decide_eq_false q, Bool.and_false]
def areCh (K : Int) (L : List (List Int)) : Bool := decide (1 ≤ K ∧ K ≤ 8) && (decide (1 ≤ L.length ∧ L.length ≤ 4) && L.all (chRow K (L.getD 0 []).length))
structure Ch (K : Nat) (n : Nat) (L : List (List Int)) : Prop where
 k : 1 ≤ K ∧ K ≤ 8
 l : 1 ≤ L.length ∧ L.length ≤ 4
 n1 : 1 ≤ n ∧ n ≤ 120
 row : Rw L.length n L
 el : ∀ c s : Nat, c < L.length → s < n → -1 ≤ rd (L.getD c []) s ∧ rd (L.getD c []) s < K
 hd : (L.getD 0 []).length = n
theorem ch_of {K : Int} {L : List (List Int)} (h : areCh K L = true) : ∃ K' : Nat, K = K' ∧ Ch K' (L.getD 0 []).length L := by
 unfold areCh at h
 simp only [Bool.and_eq_true, decide_eq_true_eq, List.all_eq_true] at h
 obtain ⟨h1, h2, h3⟩ := h
 obtain ⟨K', rfl⟩ := Int.eq_ofNat_of_zero_le (show 0 ≤ K by omega)
 have hrow : ∀ c, c < L.length → turnsW (K' : Int) (L.getD c []) = true ∧ (L.getD c []).length = (L.getD 0 []).length := by
  intro c hc
  have hm : L.getD c [] ∈ L := by
   rw [List.getD_eq_getElem?_getD, List.getElem?_eq_getElem hc]; exact List.getElem_mem _
  have := h3 _ hm
  simp only [chRow, Bool.and_eq_true, decide_eq_true_eq] at this
  exact this
 have ht : ∀ c, c < L.length → (1 ≤ (L.getD c []).length ∧ (L.getD c []).length ≤ 120) ∧ ∀ s : Nat, s < (L.getD c []).length → -1 ≤ rd (L.getD c []) s ∧ rd (L.getD c []) s < K' := by
  intro c hc
  have h4 := (hrow c hc).1
  simp only [turnsW, Bool.and_eq_true, decide_eq_true_eq, List.all_eq_true] at h4
  refine ⟨h4.1, fun s hs => ?_⟩
  have := h4.2 _ (rd_mem hs)
  simp only [turnW, decide_eq_true_eq] at this
  rw [w64 (by omega) (by omega)] at this
  omega
 refine ⟨K', rfl, by omega, h2, (ht 0 (by omega)).1, ⟨rfl, fun r hr => ?_⟩, fun c s hc hs => (ht c hc).2 s (by rw [(hrow c hc).2]; exact hs), rfl⟩
 have := h3 r hr
 simp only [chRow, Bool.and_eq_true, decide_eq_true_eq] at this
 exact this.2
theorem areCh_all {k : Nat} {L : List (List Int)} (hk : 2097152 ≤ k) (hL : Lb L) (h1 : 1 ≤ L.length) (K : Int) : impl_areAll_int64_impl_areChannels_1.f k L (K, L) = some (L.all (chRow K (L.getD 0 []).length)) := by
 have hl1 := hL.1
 have key : ∀ (d c n : Nat), c + d = L.length → d < n → ∃ j : Int, slices_IndexFunc_int64_int64_impl_areAll_int64_1_impl_areChannels_1.l0 k n L (K, L) (L.length : Int) (c : Int) = some j ∧ (0 ≤ j ↔ ¬ (L.drop c).all (chRow K (L.getD 0 []).length) = true) := by
  intro d
  induction d with
  | zero =>
   intro c n hc hn
   cases n with
   | zero => omega
   | succ n =>
    refine ⟨-1, ?_, ?_⟩
    ·simp only [slices_IndexFunc_int64_int64_impl_areAll_int64_1_impl_areChannels_1.l0, slices_IndexFunc_int64_int64_impl_areAll_int64_1_impl_areChannels_1.s0]
     rw [if_neg (by omega)]
    ·rw [List.drop_eq_nil_of_le (by omega)]; simp
  | succ d ih =>
   intro c n hc hn
   cases n with
   | zero => omega
   | succ n =>
    have hm : L.getD c [] ∈ L := by
     rw [List.getD_eq_getElem?_getD, List.getElem?_eq_getElem (by omega)]; exact List.getElem_mem _
    have hcl : impl_areAll_int64_1_impl_areChannels_1.f k (L.getD c []) (K, L) = some (!chRow K (L.getD 0 []).length (L.getD c [])) := by
     unfold impl_areAll_int64_1_impl_areChannels_1.f impl_areChannels_1.f
     rw [areTurnsW hk (by have := hL.2 _ hm; omega)]
     simp only [Option.bind_some]
     by_cases e : turnsW K (L.getD c []) = true
     ·rw [if_pos e, if_pos (by omega)]
      rw [show rdOf ([] : List Int) L 0 = L.getD 0 [] from rdOf_rw L 0]
      simp only [Option.bind_some]
      by_cases q : (L.getD c []).length = (L.getD 0 []).length
      ·rw [chRow_t e q, decide_eq_true (p := ((L.getD c []).length : Int) = ((L.getD 0 []).length : Int)) (by omega)]; rfl
      ·rw [chRow_f2 q, decide_eq_false (p := ((L.getD c []).length : Int) = ((L.getD 0 []).length : Int)) (by omega)]; rfl
     ·rw [if_neg e, chRow_f1 e]; rfl
    simp only [slices_IndexFunc_int64_int64_impl_areAll_int64_1_impl_areChannels_1.l0, slices_IndexFunc_int64_int64_impl_areAll_int64_1_impl_areChannels_1.s0]
    rw [if_pos (by omega), if_pos (by omega), if_pos (by omega), rdOf_rw, hcl, drop_rw (show c < L.length by omega)]
    simp only [Option.bind_some]
    by_cases e : chRow K (L.getD 0 []).length (L.getD c []) = true
    ·rw [if_neg (by rw [e]; decide), w64n (by omega)]
     obtain ⟨j, h2, h3⟩ := ih (c + 1) n (by omega) (by omega)
     exact ⟨j, h2, by rw [h3, List.all_cons, e, Bool.true_and]⟩
    ·rw [if_pos (by rw [Bool.eq_false_iff.2 e]; rfl)]
     exact ⟨c, rfl, by rw [List.all_cons, Bool.eq_false_iff.2 e]; simp⟩
 obtain ⟨j, h2, h3⟩ := key L.length 0 k (by omega) (by omega)
 unfold impl_areAll_int64_impl_areChannels_1.f slices_ContainsFunc_int64_int64_impl_areAll_int64_1_impl_areChannels_1.f slices_IndexFunc_int64_int64_impl_areAll_int64_1_impl_areChannels_1.f slices_IndexFunc_int64_int64_impl_areAll_int64_1_impl_areChannels_1.g
 have h2 : slices_IndexFunc_int64_int64_impl_areAll_int64_1_impl_areChannels_1.l0 k k L (K, L) (L.length : Int) 0 = some j := h2
 rw [h2]
 simp only [Option.bind_some]
 rw [List.drop_zero] at h3
 congr 1
 cases e : L.all (chRow K (L.getD 0 []).length) with
 | true => rw [e] at h3; simp at h3; simp; omega
 | false => rw [e] at h3; simp at h3; simp; exact h3
theorem areChannels_f {k : Nat} {L : List (List Int)} (hk : 2097152 ≤ k) (hL : Lb L) (K : Int) : impl_areChannels.f k K L = some (areCh K L) := by
 unfold impl_areChannels.f impl_isMany.f impl_length_int64_131.f areCh
 rw [within_f]
 simp only [Option.bind_some]
 by_cases e : 1 ≤ K ∧ K ≤ 8
 ·rw [if_pos (decide_eq_true e), within_f, decide_eq_true e]
  simp only [Option.bind_some, Bool.true_and]
  by_cases e2 : 1 ≤ L.length ∧ L.length ≤ 4
  ·rw [if_pos (decide_eq_true (by omega)), areCh_all hk hL e2.1, decide_eq_true e2]
   rfl
  ·rw [if_neg (by rw [decide_eq_true_eq]; omega), decide_eq_false e2]; rfl
 ·rw [if_neg (by rw [decide_eq_true_eq]; exact e), decide_eq_false e]; rfl
def has (L : List (List Int)) (s : Nat) (i : Int) : Nat := L.countP fun r => decide (rd r s = i)
def clR (L : List (List Int)) (s : Nat) : Nat → Nat → List (List Int)
 | _, 0 => []
 | i, d + 1 => (if 1 < has L s i then [[(s : Int), (i : Int)]] else []) ++ clR L s (i + 1) d
def clS (K : Nat) (L : List (List Int)) : Nat → Nat → List (List Int)
 | _, 0 => []
 | s, d + 1 => clR L s 0 K ++ clS K L (s + 1) d
def clash (K : Nat) (L : List (List Int)) : List (List Int) := clS K L 0 (L.getD 0 []).length
theorem has_le (L : List (List Int)) (s : Nat) (i : Int) : has L s i ≤ L.length := List.countP_le_length
theorem has_drop {L : List (List Int)} {c : Nat} (h : c < L.length) (s : Nat) (i : Int) : has (L.drop c) s i = (if rd (L.getD c []) s = i then 1 else 0) + has (L.drop (c + 1)) s i := by
 unfold has
 rw [drop_rw h, List.countP_cons]
 by_cases e : rd (L.getD c []) s = i
 ·rw [if_pos e, if_pos (decide_eq_true e)]; omega
 ·rw [if_neg e, if_neg (by rw [decide_eq_true_eq]; exact e)]; omega
theorem clR_len (L : List (List Int)) (s : Nat) : ∀ (d i : Nat), (clR L s i d).length ≤ d
 | 0, i => Nat.le_refl _
 | d + 1, i => by
  have := clR_len L s d (i + 1)
  simp only [clR]
  rw [List.length_append]
  split <;> simp <;> omega
theorem clS_len (K : Nat) (L : List (List Int)) : ∀ (d s : Nat), (clS K L s d).length ≤ d * K
 | 0, s => by simp [clS]
 | d + 1, s => by
  have := clS_len K L d (s + 1)
  have := clR_len L s K 0
  simp only [clS]
  rw [List.length_append, Nat.add_mul, Nat.one_mul]
  omega
theorem impl_clashes_f {k K n : Nat} {L : List (List Int)} (hk : 2097152 ≤ k) (C : Ch K n L) : impl_clashes.f k K L = some (clash K L) := by
 have hk8 := C.k; have hl := C.l; have hn := C.n1
 have in2 : ∀ {r0 : Int → (List (List Int)) → (List (List Int)) → Int → Int → Option ((List (List Int)))} {r1 : Int → (List (List Int)) → (List (List Int)) → Int → Int → Int → Int → Int → Option ((List (List Int)))} {s i : Nat} (hs : s < n) (hi : i < K) {out : List (List Int)} (ho : out.length ≤ 2000) (d c m x : Nat), c + d = L.length → x ≤ c → d < m →
   impl_clashes.l2 k r0 r1 m K L out s i x (n : Int) s (K : Int) i L (L.length : Int) c = r1 K L (out ++ (if 1 < x + has (L.drop c) s i then [[(s : Int), (i : Int)]] else [])) s (n : Int) s (K : Int) ((i + 1 : Nat) : Int) := by
  intro r0 r1 s i hs hi out ho d
  induction d with
  | zero =>
   intro c m x hc hx hm
   cases m with
   | zero => omega
   | succ m =>
    simp only [impl_clashes.l2, impl_clashes.s2]
    rw [if_neg (by omega), List.drop_eq_nil_of_le (by omega)]
    show (if 1 < (x : Int) then _ else _) = _
    by_cases e : 1 < x
    ·rw [if_pos (by omega), if_pos (by omega), if_pos (by show 1 < x + 0; omega), w64n (by omega)]
    ·rw [if_neg (by omega), if_neg (by show ¬ 1 < x + 0; omega), w64n (by omega), List.append_nil]
  | succ d ih =>
   intro c m x hc hx hm
   cases m with
   | zero => omega
   | succ m =>
    have h1 := C.row.at (show c < L.length by omega)
    simp only [impl_clashes.l2, impl_clashes.s2]
    rw [if_pos (by omega), if_pos (by omega), if_pos (by omega), if_pos (by omega), rdOf_rw, if_pos (by omega), has_drop (show c < L.length by omega)]
    by_cases e : rd (L.getD c []) s = i
    ·rw [if_pos e, if_pos e, w64n (by omega), w64n (by omega), ih (c + 1) m (x + 1) (by omega) (by omega) (by omega), Nat.add_assoc]
    ·rw [if_neg e, if_neg e, w64n (by omega), ih (c + 1) m x (by omega) (by omega) (by omega), Nat.zero_add]
 have in1 : ∀ {r0 : Int → (List (List Int)) → (List (List Int)) → Int → Int → Option ((List (List Int)))} {s : Nat} (hs : s < n) (d i m : Nat) (out : List (List Int)), i + d = K → d < m → out.length ≤ s * K + i → impl_clashes.l1 k r0 m K L out s (n : Int) s (K : Int) i = r0 K L (out ++ clR L s i d) (n : Int) ((s + 1 : Nat) : Int) := by
  intro r0 s hs d
  induction d with
  | zero =>
   intro i m out hi hm ho
   cases m with
   | zero => omega
   | succ m =>
    simp only [impl_clashes.l1, impl_clashes.s1, clR]
    rw [if_neg (by omega), w64n (by omega), List.append_nil]
  | succ d ih =>
   intro i m out hi hm ho
   cases m with
   | zero => omega
   | succ m =>
    have hsk : s * K ≤ 120 * 8 := Nat.mul_le_mul (by omega) (by omega)
    simp only [impl_clashes.l1, impl_clashes.s1, clR]
    rw [if_pos (by omega)]
    have := in2 (r0 := r0) (r1 := impl_clashes.l1 k r0 m) hs (show i < K by omega) (out := out) (by omega) L.length 0 k 0 (by omega) (by omega) (by omega)
    rw [List.drop_zero, Nat.zero_add] at this
    refine Eq.trans this ?_
    rw [ih (i + 1) m _ (by omega) (by omega) (by rw [List.length_append]; split <;> simp <;> omega), List.append_assoc]
 have in0 : ∀ (d s m : Nat) (out : List (List Int)), s + d = n → d < m → out.length ≤ s * K → impl_clashes.l0 k m K L out (n : Int) s = some (out ++ clS K L s d) := by
  intro d
  induction d with
  | zero =>
   intro s m out hs hm ho
   cases m with
   | zero => omega
   | succ m =>
    simp only [impl_clashes.l0, impl_clashes.s0, clS]
    rw [if_neg (by omega), List.append_nil]
  | succ d ih =>
   intro s m out hs hm ho
   cases m with
   | zero => omega
   | succ m =>
    have h1 := clR_len L s K 0
    simp only [impl_clashes.l0, impl_clashes.s0, clS]
    rw [if_pos (by omega)]
    rw [show (0 : Int) = ((0 : Nat) : Int) from rfl, in1 (show s < n by omega) K 0 k out (by omega) (by omega) (by omega), ih (s + 1) m _ (by omega) (by omega) (by rw [List.length_append, Nat.add_mul, Nat.one_mul]; omega), List.append_assoc]
 unfold impl_clashes.f impl_clashes.g clash
 rw [if_pos (by omega), show rdOf ([] : List Int) L 0 = L.getD 0 [] from rdOf_rw L 0, C.hd]
 exact in0 n 0 k [] (by omega) (by omega) (by simp)
theorem likeInts_self {k : Nat} (hk : 2097152 ≤ k) {l : List Int} (hl : l.length ≤ 1048576) : laws_likeInts.f k l l = some true := by
 have key : ∀ (d i n : Nat), l.length - i = d → i ≤ l.length → d < n → laws_likeInts.l0 k n l l i = some true := by
  intro d
  induction d with
  | zero =>
   intro i n hd hi hn
   cases n with
   | zero => omega
   | succ n =>
    simp only [laws_likeInts.l0, laws_likeInts.s0]
    rw [if_neg (by omega)]
  | succ d ih =>
   intro i n hd hi hn
   cases n with
   | zero => omega
   | succ n =>
    simp only [laws_likeInts.l0, laws_likeInts.s0]
    rw [w64n (by omega), if_pos (by omega), if_pos (by omega), if_pos (by omega), if_pos (by omega), if_pos (by omega), if_pos trivial]
    exact ih (i + 1) n (by omega) (by omega) (by omega)
 unfold laws_likeInts.f laws_likeInts.g
 rw [if_pos rfl]
 exact key l.length 0 k (by omega) (by omega) (by omega)
theorem rows9_self {k : Nat} (hk : 2097152 ≤ k) {L : List (List Int)} (hl : L.length ≤ 1048576) (hr : ∀ r ∈ L, r.length ≤ 1048576) : laws_rows9.f k L L = some true := by
 have key : ∀ (d i n : Nat), i + d = L.length → d < n → laws_rows9.l0 k n L L i = some true := by
  intro d
  induction d with
  | zero =>
   intro i n hi hn
   cases n with
   | zero => omega
   | succ n =>
    simp only [laws_rows9.l0, laws_rows9.s0]
    rw [if_neg (by omega)]
  | succ d ih =>
   intro i n hi hn
   cases n with
   | zero => omega
   | succ n =>
    have hm : L.getD i [] ∈ L := by
     rw [List.getD_eq_getElem?_getD, List.getElem?_eq_getElem (by omega)]; exact List.getElem_mem _
    simp only [laws_rows9.l0, laws_rows9.s0]
    rw [if_pos (by omega), if_pos (by omega), if_pos (by omega), if_pos (by omega), if_pos (by omega), rdOf_rw, likeInts_self hk (hr _ hm), Option.bind_some, if_pos rfl, w64n (by omega)]
    exact ih (i + 1) n (by omega) (by omega)
 unfold laws_rows9.f laws_rows9.g
 rw [if_pos rfl]
 exact key L.length 0 k (by omega) (by omega)
def togL (L : List (List Int)) (n : Nat) (i : Int) : List Int := (List.range n).map fun s => if 0 < has L s i then i else -1
theorem togL_len (L : List (List Int)) (n : Nat) (i : Int) : (togL L n i).length = n := by simp [togL]
theorem togL_rd (L : List (List Int)) {n s : Nat} {i : Int} (h : s < n) : rd (togL L n i) (s : Int) = if 0 < has L s i then i else -1 := by
 rw [rd_lt (by rw [togL_len]; exact h)]
 simp [togL]
def mx (L : List (List Int)) (c s n : Nat) (i : Int) : List Int := (List.range n).map fun u => if 0 < has (L.take (if u < s then c + 1 else c)) u i then i else -1
theorem mx_len (L : List (List Int)) (c s n : Nat) (i : Int) : (mx L c s n i).length = n := by simp [mx]
theorem has_take {L : List (List Int)} {c : Nat} (h : c < L.length) (s : Nat) (i : Int) : has (L.take (c + 1)) s i = has (L.take c) s i + if rd (L.getD c []) s = i then 1 else 0 := by
 unfold has
 rw [List.getD_eq_getElem?_getD, List.getElem?_eq_getElem h, Option.getD_some, List.take_succ_eq_append_getElem h, List.countP_append, List.countP_singleton]
 simp only [decide_eq_true_eq]
theorem mx_set {L : List (List Int)} {c s n : Nat} {i : Int} (h : c < L.length) (e : rd (L.getD c []) s = i) : (mx L c s n i).set s i = mx L c (s + 1) n i := by
 apply List.ext_getElem (by simp [mx])
 intro u h1 h2
 have hu : u < n := by rw [mx_len] at h2; exact h2
 rw [List.getElem_set]
 simp only [mx, List.getElem_map, List.getElem_range]
 by_cases c1 : s = u
 ·subst c1
  have := has_take h s i
  rw [if_pos e] at this
  rw [if_pos rfl, if_pos (show s < s + 1 by omega), this, if_pos (by omega)]
 ·rw [if_neg c1]
  by_cases c2 : u < s
  ·rw [if_pos c2, if_pos (show u < s + 1 by omega)]
  ·rw [if_neg c2, if_neg (show ¬ u < s + 1 by omega)]
theorem mx_skip {L : List (List Int)} {c s n : Nat} {i : Int} (h : c < L.length) (e : ¬ rd (L.getD c []) s = i) : mx L c s n i = mx L c (s + 1) n i := by
 apply List.ext_getElem (by simp [mx])
 intro u h1 h2
 simp only [mx, List.getElem_map, List.getElem_range]
 by_cases c1 : s = u
 ·subst c1
  have := has_take h s i
  rw [if_neg e] at this
  rw [if_neg (show ¬ s < s by omega), if_pos (show s < s + 1 by omega), this, Nat.add_zero]
 ·by_cases c2 : u < s
  ·rw [if_pos c2, if_pos (show u < s + 1 by omega)]
  ·rw [if_neg c2, if_neg (show ¬ u < s + 1 by omega)]
theorem mx_end (L : List (List Int)) (c n : Nat) (i : Int) : mx L c n n i = mx L (c + 1) 0 n i := by
 apply List.ext_getElem (by simp [mx])
 intro u h1 h2
 have hu : u < n := by rw [mx_len] at h2; exact h2
 simp only [mx, List.getElem_map, List.getElem_range]
 rw [if_pos hu, if_neg (show ¬ u < 0 by omega)]
theorem mx_start (L : List (List Int)) (n : Nat) (i : Int) : List.replicate n (-1) = mx L 0 0 n i := by
 apply List.ext_getElem (by simp [mx])
 intro u h1 h2
 simp [mx, has]
theorem mx_all (L : List (List Int)) (n : Nat) (i : Int) : mx L L.length 0 n i = togL L n i := by
 apply List.ext_getElem (by simp [mx, togL])
 intro u h1 h2
 simp [mx, togL]
theorem together_f {k K n : Nat} {L : List (List Int)} (hk : 2097152 ≤ k) (C : Ch K n L) (i : Int) : impl_together.f k L i = some (togL L n i) := by
 have hl := C.l; have hn := C.n1
 have in1 : ∀ {r0 : Int → (List Int) → (List (List Int)) → Int → Int → Option ((List Int))} {c : Nat} (hc : c < L.length) (d s m : Nat), s + d = n → d < m → impl_together.l1 k r0 m i (mx L c s n i) L (L.length : Int) c (L.getD c []) (n : Int) s = r0 i (mx L (c + 1) 0 n i) L (L.length : Int) ((c + 1 : Nat) : Int) := by
  intro r0 c hc d
  have h1 := C.row.at hc
  induction d with
  | zero =>
   intro s m hs hm
   obtain rfl : s = n := by omega
   cases m with
   | zero => omega
   | succ m =>
    simp only [impl_together.l1, impl_together.s1]
    rw [if_neg (by omega), w64n (by omega), mx_end]
  | succ d ih =>
   intro s m hs hm
   cases m with
   | zero => omega
   | succ m =>
    simp only [impl_together.l1, impl_together.s1]
    rw [if_pos (by omega), if_pos (by omega), if_pos (by omega), w64n (by omega)]
    by_cases e : rd (L.getD c []) s = i
    ·rw [if_pos e, if_pos (by omega), if_pos (by rw [mx_len]; omega), Int.toNat_natCast, mx_set hc e]
     exact ih (s + 1) m (by omega) (by omega)
    ·rw [if_neg e, mx_skip hc e]
     exact ih (s + 1) m (by omega) (by omega)
 have in0 : ∀ (d c m : Nat), c + d = L.length → d < m → impl_together.l0 k m i (mx L c 0 n i) L (L.length : Int) c = some (togL L n i) := by
  intro d
  induction d with
  | zero =>
   intro c m hc hm
   obtain rfl : c = L.length := by omega
   cases m with
   | zero => omega
   | succ m =>
    simp only [impl_together.l0, impl_together.s0]
    rw [if_neg (by omega), mx_all]
  | succ d ih =>
   intro c m hc hm
   cases m with
   | zero => omega
   | succ m =>
    have h1 := C.row.at (show c < L.length by omega)
    have := in1 (r0 := impl_together.l0 k m) (show c < L.length by omega) n 0 k (by omega) (by omega)
    simp only [impl_together.l0, impl_together.s0]
    rw [if_pos (by omega), if_pos (by omega), if_pos (by omega), rdOf_rw, h1]
    refine Eq.trans this ?_
    exact ih (c + 1) m (by omega) (by omega)
 have hrep : slices_Repeat_int64_int64.f [-1] (n : Int) = some (List.replicate n (-1)) := by
  unfold slices_Repeat_int64_int64.f
  exact if_pos (by omega)
 unfold impl_together.f impl_together.g
 rw [if_pos (by omega), show rdOf ([] : List Int) L 0 = L.getD 0 [] from rdOf_rw L 0, C.hd, hrep, Option.bind_some, mx_start L n i]
 exact in0 L.length 0 k (by omega) (by omega)
def gw (L : List (List Int)) (i : Int) : Int := grt (wait (togL L (L.getD 0 []).length i) i)
theorem implW {k K n : Nat} {L : List (List Int)} (hk : 2097152 ≤ k) (C : Ch K n L) (i : Int) : ((impl_together.f k L i).bind fun t6 => (impl_waits.f k t6 i).bind fun t7 => impl_greatest.f k t7) = some (gw L i) := by
 have hn := C.n1
 have h1 : (togL L n i).length ≤ 1048576 := by rw [togL_len]; omega
 have h2 := wait_len (cs := togL L n i) i
 rw [together_f hk C, Option.bind_some, impl_waits_f hk h1, Option.bind_some, impl_greatest_f hk (by omega)]
 unfold gw
 rw [C.hd]
theorem bind3 {α β γ δ : Type} (a : Option α) (f : α → Option β) (g : β → Option γ) (h : γ → Option δ) : (a.bind fun x => (f x).bind fun y => (g y).bind fun z => h z) = (a.bind fun x => (f x).bind fun y => g y).bind h := by
 cases a with
 | none => rfl
 | some a =>
  simp only [Option.bind_some]
  cases f a with
  | none => rfl
  | some b => rfl
def wtT (K : Int) (L : List (List Int)) (i : Int) : Int × Int := if areCh K L = true then (if 0 ≤ i ∧ i ≤ wrap64 (K - 1) then (gw L i, 0) else (0, 2)) else (0, 2)
def okW (G : List Int) (L : List (List Int)) (i : Nat) : Bool := decide (gw L i ≠ 0 ∧ gw L i ≤ rd G i)
def srvC (G : List Int) (L : List (List Int)) : Nat → Nat → Bool
 | _, 0 => true
 | i, d + 1 => okW G L i && srvC G L (i + 1) d
def svT (G : List Int) (L : List (List Int)) : Bool × Int := if isT G = true then (if areCh (G.length : Int) L = true then (if 0 < (clash G.length L).length then (false, 5) else (srvC G L 0 G.length, 0)) else (false, 2)) else (false, 1)
theorem okW_f {G : List Int} {L : List (List Int)} {i : Nat} (h : gw L i = 0) : okW G L i = false := decide_eq_false fun e => e.1 h
theorem okW_g {G : List Int} {L : List (List Int)} {i : Nat} (h : rd G i < gw L i) : okW G L i = false := decide_eq_false fun e => by omega
theorem okW_t {G : List Int} {L : List (List Int)} {i : Nat} (h : gw L i ≠ 0) (h2 : ¬ rd G i < gw L i) : okW G L i = true := decide_eq_true ⟨h, by omega⟩
theorem impl_serveTog_f {k : Nat} {G : List Int} {L : List (List Int)} (hk : 2097152 ≤ k) (hG : G.length ≤ 1048576) (hL : Lb L) : impl_ServeTogether.f k G L = some (svT G L) := by
 have key : Ch G.length (L.getD 0 []).length L → ∀ (d i m : Nat), i + d = G.length → d < m → impl_ServeTogether.l0 k m L G (G.length : Int) i = some (srvC G L i d, 0) := by
  intro C d
  induction d with
  | zero =>
   intro i m hi hm
   cases m with
   | zero => omega
   | succ m =>
    simp only [impl_ServeTogether.l0, impl_ServeTogether.s0]
    rw [if_neg (by omega)]; rfl
  | succ d ih =>
   intro i m hi hm
   cases m with
   | zero => omega
   | succ m =>
    simp only [impl_ServeTogether.l0, impl_ServeTogether.s0, srvC]
    rw [if_pos (by omega), if_pos (by omega), if_pos (by omega), bind3, implW hk C, Option.bind_some, w64n (by omega)]
    by_cases c : gw L (i : Int) = 0
    ·rw [if_pos c, okW_f c]; rfl
    ·rw [if_neg c]
     by_cases c2 : rd G i < gw L (i : Int)
     ·rw [if_pos c2, okW_g c2]; rfl
     ·rw [if_neg c2, okW_t c c2, Bool.true_and]
      exact ih (i + 1) m (by omega) (by omega)
 unfold impl_ServeTogether.f impl_ServeTogether.g svT
 rw [many_f, Option.bind_some, areChannels_f hk hL, Option.bind_some, tasksCode_f hk hG, Option.bind_some]
 by_cases e : isT G = true
 ·have hg := isT_len e
  rw [if_pos e, if_pos e, show maxV (G.length : Int) 1 = (G.length : Int) by unfold maxV; split <;> omega]
  by_cases e2 : areCh (G.length : Int) L = true
  ·obtain ⟨K', q, C⟩ := ch_of e2
   obtain rfl : G.length = K' := by omega
   rw [if_pos e2, if_pos e2, if_pos rfl, Option.bind_some, impl_clashes_f hk C, Option.bind_some]
   by_cases e3 : 0 < (clash G.length L).length
   ·rw [if_pos (by omega), if_pos e3]
   ·rw [if_neg (by omega), if_neg e3]
    exact key C G.length 0 k (by omega) (by omega)
  ·rw [if_neg e2, if_neg e2, if_neg (by decide)]
 ·rw [if_neg e, if_neg e, if_neg (by decide)]
def clT (K : Int) (L : List (List Int)) : List (List Int) × Int := if areCh K L = true then (clash K.toNat L, 0) else ([], 2)
theorem impl_clashesOf_f {k : Nat} {L : List (List Int)} (hk : 2097152 ≤ k) (hL : Lb L) (K : Int) : impl_ClashesOf.f k K L = some (clT K L) := by
 unfold impl_ClashesOf.f clT
 rw [areChannels_f hk hL, Option.bind_some]
 by_cases e : areCh K L = true
 ·obtain ⟨K', rfl, C⟩ := ch_of e
  rw [if_pos e, if_pos e, impl_clashes_f hk C]; rfl
 ·rw [if_neg e, if_neg e]
theorem stt_of : ∀ {G S : List Int}, S.length = G.length → (∀ t : Nat, t < G.length → 1 ≤ rd S t ∧ rd S t ≤ rd G t) → Stt G S
 | [], [], _, _ => trivial
 | g :: G, s :: S, hl, h => by
  refine ⟨h 0 (by simp), stt_of (by simpa using hl) fun t ht => ?_⟩
  have := h (t + 1) (by simpa using ht)
  rwa [rd_cons, rd_cons] at this
 | [], _ :: _, hl, _ => by simp at hl
 | _ :: _, [], hl, _ => by simp at hl
theorem getD_set_ne {L : List Bool} {i j : Nat} {b : Bool} (h : i ≠ j) : (L.set i b).getD j false = L.getD j false := by
 rw [List.getD_eq_getElem?_getD, List.getD_eq_getElem?_getD, List.getElem?_set_ne h]
theorem swp_sup {g : List Bool → Nat → Bool} {X : Nat → Prop} (hg : ∀ L, (∀ v, X v → L.getD v false = true) → ∀ v, X v → g L v = true) : ∀ (d i : Nat) (L : List Bool) (ch : Bool), (∀ v, X v → L.getD v false = true) → ∀ v, X v → (swp g d i L ch).1.getD v false = true
 | 0, i, L, ch, h => h
 | d + 1, i, L, ch, h => by
  by_cases hb : L.getD i false = true
  ·by_cases hgg : g L i = true
   ·rw [swp_good hb hgg]; exact swp_sup hg d (i + 1) L ch h
   ·rw [swp_bad hb hgg]
    refine swp_sup hg d (i + 1) _ true fun v hv => ?_
    rw [getD_set_ne (fun e => hgg (by rw [e]; exact hg L h v hv))]
    exact h v hv
  ·rw [swp_end _ _ _ _ _ hb]; exact swp_sup hg d (i + 1) L ch h
theorem fix_sup {g : List Bool → Nat → Bool} {X : Nat → Prop} (hg : ∀ L, (∀ v, X v → L.getD v false = true) → ∀ v, X v → g L v = true) : ∀ (n : Nat) (L L' : List Bool) (ch : Bool), fixO g n L ch = some L' → (∀ v, X v → L.getD v false = true) → ∀ v, X v → L'.getD v false = true
 | 0, _, _, _, h, _ => by cases h
 | n + 1, L, L', false, h, hx => by
  obtain rfl : L = L' := by simpa [fixO] using h
  exact hx
 | n + 1, L, L', true, h, hx => by
  have h' : fixO g n (swp g L.length 0 L false).1 (swp g L.length 0 L false).2 = some L' := by simpa [fixO] using h
  exact fix_sup hg n _ L' _ h' (swp_sup hg _ _ _ _ hx)
def mk (p : Nat → Bool) : Nat → Nat
 | 0 => 0
 | d + 1 => mk p d ||| (if p d = true then 2 ^ d else 0)
theorem mk_lt (p : Nat → Bool) : ∀ d, mk p d < 2 ^ d
 | 0 => Nat.one_pos
 | d + 1 => by
  have h := mk_lt p d
  have h2 : 2 ^ d < 2 ^ (d + 1) := Nat.pow_lt_pow_right (by omega) (by omega)
  unfold mk
  refine Nat.or_lt_two_pow (by omega) ?_
  split <;> omega
theorem mk_bit (p : Nat → Bool) : ∀ d i, (mk p d).testBit i = (decide (i < d) && p i)
 | 0, i => by simp [mk]
 | d + 1, i => by
  unfold mk
  rw [Nat.testBit_or, mk_bit p d i]
  by_cases e : p d = true
  ·rw [if_pos e, Nat.testBit_two_pow]
   by_cases c : d = i
   ·subst c; simp [e]
   ·rw [decide_eq_false c, Bool.or_false, show decide (i < d) = decide (i < d + 1) from decide_eq_decide.2 (by omega)]
  ·rw [if_neg e, Nat.zero_testBit, Bool.or_false]
   by_cases c : d = i
   ·subst c; simp [e]
   ·rw [show decide (i < d) = decide (i < d + 1) from decide_eq_decide.2 (by omega)]
theorem stepSA_of {x : Nat} : ∀ {j : Nat} {G S T : List Int}, S.length = G.length → T.length = G.length → (∀ t : Nat, t < G.length → (x.testBit (j + t) = true → rd T t = rd G t) ∧ (x.testBit (j + t) = false → 2 ≤ rd S t ∧ rd T t = rd S t - 1)) → stepSA x j G S = some T
 | j, [], [], [], _, _, _ => rfl
 | j, g :: G, s :: S, u :: T, h1, h2, h => by
  have ih := stepSA_of (x := x) (j := j + 1) (G := G) (S := S) (T := T) (by simpa using h1) (by simpa using h2) (fun t ht => by
   have := h (t + 1) (by simpa using ht)
   rw [rd_cons, rd_cons, rd_cons, show j + (t + 1) = j + 1 + t by omega] at this
   exact this)
  have h0 := h 0 (by simp)
  have z : ∀ (a : Int) (l : List Int), rd (a :: l) ((0 : Nat) : Int) = a := fun a l => rfl
  rw [z, z, z, Nat.add_zero] at h0
  unfold stepSA
  cases e : x.testBit j with
  | true => rw [if_pos rfl, ih, ← h0.1 e]; rfl
  | false =>
   obtain ⟨a1, a2⟩ := h0.2 e
   rw [if_neg (by decide), if_neg (by omega), ih, a2]; rfl
 | j, [], _ :: _, _, h, _, _ => by simp at h
 | j, [], [], _ :: _, _, h, _ => by simp at h
 | j, _ :: _, [], _, h, _, _ => by simp at h
 | j, _ :: _, _ :: _, [], _, h, _ => by simp at h
theorem goodS_of {G T : List Int} {m : Int} {L : List Bool} {v x : Nat} (hx : x < 2 ^ G.length) (hm : (popc x : Int) ≤ m) (hs : stepS G (ofN G (v : Int)) x = some T) (hL : L.getD (num G T).toNat false = true) : goodS G m L v = true := by
 unfold goodS leastO
 rw [List.find?_isSome]
 refine ⟨((x : Int), num G T), List.mem_filterMap.2 ⟨x, List.mem_filter.2 ⟨List.mem_range'.2 ⟨x, hx, by omega⟩, decide_eq_true hm⟩, ?_⟩, hL⟩
 unfold opE
 rw [hs]; rfl
theorem lastS_sup {G : List Int} {m : Int} (h : isT G = true) (hc : cnt G ≤ 4000) {X : Nat → Prop} (hX : ∀ v, X v → (v : Int) < cnt G) (hg : ∀ v, X v → ∃ x T, x < 2 ^ G.length ∧ (popc x : Int) ≤ m ∧ stepS G (ofN G (v : Int)) x = some T ∧ X (num G T).toNat) : ∀ v, X v → (lastS G m).getD v false = true := by
 obtain ⟨h1, _⟩ := lastS_fix (m := m) (k := 4003) h hc (Nat.le_refl _)
 refine fix_sup (g := goodS G m) (X := X) (fun L hL v hv => ?_) 4003 _ _ true h1 (fun v hv => ?_)
 ·obtain ⟨x, T, hx, hm, hs, hxt⟩ := hg v hv
  exact goodS_of hx hm hs (hL _ hxt)
 ·have := hX v hv
  rw [List.getD_eq_getElem?_getD, List.getElem?_replicate, if_pos (by omega)]; rfl
theorem stepA_rd {c : Int} : ∀ {j : Int} {G S T : List Int} {t : Nat}, Stt G S → stepA c j G S = some T → t < G.length → rd T t = if j + t = c then rd G t else rd S t - 1
 | j, [], [], T, t, _, _, ht => by simp at ht
 | j, g :: G, s :: S, T, t, hs, h, ht => by
  have hr : ∀ (a : Int) (l : List Int) (i : Nat), rd (a :: l) ((i + 1 : Nat) : Int) = rd l (i : Int) := fun a l i => by rw [rd_nat, rd_nat]; rfl
  have h0 : ∀ (a : Int) (l : List Int), rd (a :: l) ((0 : Nat) : Int) = a := fun a l => rfl
  simp only [stepA] at h
  by_cases e : j = c
  ·rw [if_pos e] at h
   obtain ⟨T', h1, rfl⟩ := Option.map_eq_some_iff.1 h
   cases t with
   | zero => rw [h0, h0, if_pos (by omega)]
   | succ t =>
    rw [hr, hr, hr, stepA_rd hs.2 h1 (by simpa using ht), if_neg (by omega), if_neg (by omega)]
  ·rw [if_neg e] at h
   split at h
   ·cases h
   ·obtain ⟨T', h1, rfl⟩ := Option.map_eq_some_iff.1 h
    cases t with
    | zero => rw [h0, h0, h0, if_neg (by omega)]
    | succ t =>
     rw [hr, hr, hr, stepA_rd hs.2 h1 (by simpa using ht)]
     by_cases e2 : j + 1 + (t : Int) = c
     ·rw [if_pos e2, if_pos (by omega)]
     ·rw [if_neg e2, if_neg (by omega)]
 | j, [], _ :: _, _, _, h, _, _ => h.elim
 | j, _ :: _, [], _, _, h, _, _ => h.elim
theorem lasting_good {G : List Int} (h : isT G = true) (hc : cnt G ≤ 4000) {v : Int} (h0 : 0 ≤ v) (h1 : v < cnt G) (hv : (lasting G).getD v.toNat false = true) : keep G (lasting G) v ≠ [] := by
 obtain ⟨h2, h3⟩ := lasting_fix (k := 4003) h hc (Nat.le_refl _)
 have := fix_good (goodK G) _ _ _ _ h2 (fun e => by cases e) v.toNat (by omega) hv
 unfold goodK at this
 rw [show ((v.toNat : Nat) : Int) = v by omega] at this
 simpa using this
theorem nd_len : ∀ {l m : List Nat}, l.Nodup → (∀ x ∈ l, x ∈ m) → l.length ≤ m.length
 | [], m, _, _ => Nat.zero_le _
 | a :: l, m, h, hs => by
  have ha := hs a List.mem_cons_self
  have hd := List.nodup_cons.1 h
  have := nd_len (m := m.erase a) hd.2 fun x hx => (List.mem_erase_of_ne (fun e : x = a => hd.1 (by rw [← e]; exact hx))).2 (hs x (List.mem_cons_of_mem _ hx))
  rw [List.length_erase_of_mem ha] at this
  have : 0 < m.length := List.length_pos_of_mem ha
  rw [List.length_cons]; omega
theorem rd_iff {l : List Int} {x : Int} : x ∈ l ↔ ∃ p : Nat, p < l.length ∧ rd l p = x := by
 constructor
 ·intro h
  obtain ⟨p, hp, e⟩ := List.getElem_of_mem h
  exact ⟨p, hp, by rw [rd_lt hp]; exact e⟩
 ·rintro ⟨p, hp, rfl⟩
  rw [rd_lt hp]; exact List.getElem_mem _
structure Sl (K M : Nat) (s : Int) (sl : List Int) : Prop where
 ok : OkL K M sl
 inj : ∀ p q : Nat, p < M → q < M → rd sl p = rd sl q → 0 ≤ rd sl p → p = q
 bit : ∀ p : Nat, p < M → ∀ x : Nat, rd sl p = x → bitS s x = true
theorem Sl.rep (K M : Nat) (s : Int) : Sl K M s (List.replicate M (-1)) := by
 have e : ∀ p : Nat, p < M → rd (List.replicate M (-1)) (p : Int) = -1 := fun p hp => by rw [rd_lt (by simpa using hp)]; simp
 exact ⟨.rep _ _ (by omega), fun p q hp hq h h0 => by rw [e p hp] at h0; omega, fun p hp x h => by rw [e p hp] at h; omega⟩
theorem Sl.set {K M : Nat} {s : Int} {sl : List Int} (h : Sl K M s sl) {c i : Nat} (hc : c < M) (hi : i < K) (hb : bitS s i = true) (hn : (i : Int) ∉ sl) : Sl K M s (sl.set c i) := by
 have hl := h.ok.len
 have ns : ∀ p : Nat, p < M → rd sl p ≠ i := fun p hp e => hn (rd_iff.2 ⟨p, by omega, e⟩)
 have r : ∀ p : Nat, rd (sl.set c i) p = if p = c then (i : Int) else rd sl p := fun p => rd_set (by omega)
 refine ⟨h.ok.set (by omega), fun p q hp hq e e0 => ?_, fun p hp x e => ?_⟩
 ·rw [r p, r q] at e; rw [r p] at e0
  by_cases h1 : p = c <;> by_cases h2 : q = c
  ·omega
  ·rw [if_pos h1, if_neg h2] at e; exact absurd e.symm (ns q hq)
  ·rw [if_neg h1, if_pos h2] at e; exact absurd e (ns p hp)
  ·rw [if_neg h1, if_neg h2] at e; rw [if_neg h1] at e0; exact h.inj p q hp hq e e0
 ·rw [r p] at e
  by_cases h1 : p = c
  ·rw [if_pos h1] at e
   obtain rfl : i = x := by omega
   exact hb
  ·rw [if_neg h1] at e; exact h.bit p hp x e
theorem Sl.free {K M : Nat} {s : Int} {sl : List Int} (h : Sl K M s sl) (hK : K ≤ 8) {i : Nat} (hi : i < K) (hb : bitS s i = true) (hn : (i : Int) ∉ sl) (hp : popc s.toNat ≤ M) : idxS sl ≠ -1 := by
 intro he
 have hl := h.ok.len
 have all : ∀ p : Nat, p < M → 0 ≤ rd sl p ∧ rd sl p < K := fun p hp => by
  have := h.ok.rd hp
  refine ⟨?_, this.2⟩
  rcases Int.lt_or_le (rd sl p) 0 with h1 | h1
  ·exfalso
   have e1 : rd sl p = -1 := by have := this.1; omega
   have : idxX (-1) sl = idxS sl := idxX_S sl
   have h2 := (idxX_mem (x := -1) sl).2.2 (rd_iff.2 ⟨p, by omega, e1⟩)
   omega
  ·exact h1
 have nd : (i :: sl.map Int.toNat).Nodup := by
  refine List.nodup_cons.2 ⟨fun hm => ?_, ?_⟩
  ·obtain ⟨y, hy, e⟩ := List.mem_map.1 hm
   obtain ⟨p, hp, rfl⟩ := rd_iff.1 hy
   have := all p (by omega)
   exact hn (rd_iff.2 ⟨p, hp, by omega⟩)
  ·unfold List.Nodup
   rw [List.pairwise_iff_getElem]
   intro a b ha hb' hab
   rw [List.length_map] at ha hb'
   rw [List.getElem_map, List.getElem_map]
   intro e
   have h1 := all a (by omega)
   have h2 := all b (by omega)
   rw [rd_lt ha] at h1
   rw [rd_lt hb'] at h2
   have := h.inj a b (by omega) (by omega) (by rw [rd_lt ha, rd_lt hb']; omega) (by rw [rd_lt ha]; exact h1.1)
   omega
 have sub : ∀ x ∈ (i :: sl.map Int.toNat), x ∈ (List.range 8).filter fun j => s.toNat.testBit j := by
  intro x hx
  rw [List.mem_filter, List.mem_range]
  rcases List.mem_cons.1 hx with rfl | hx
  ·exact ⟨by omega, hb⟩
  ·obtain ⟨y, hy, rfl⟩ := List.mem_map.1 hx
   obtain ⟨p, hp, rfl⟩ := rd_iff.1 hy
   have h1 := all p (by omega)
   exact ⟨by omega, h.bit p (by omega) _ (by omega)⟩
 have := nd_len nd sub
 rw [List.length_cons, List.length_map, hl] at this
 unfold popc at hp
 omega
theorem free_idx : ∀ {sl : List Int}, (∀ x ∈ sl, -1 ≤ x) → idxS sl ≠ -1 → (freeS sl : Int) = idxS sl
 | [], _, h => absurd rfl h
 | a :: r, h, hn => by
  have ha := h a List.mem_cons_self
  unfold idxS at hn ⊢
  unfold freeS
  by_cases c : a = -1
  ·rw [if_pos c, if_pos (by omega)]; rfl
  ·rw [if_neg c] at hn ⊢
   rw [if_neg (by omega)]
   have hb := idxS_bnd r
   by_cases d : idxS r < 0
   ·rw [if_pos d] at hn; exact absurd rfl hn
   ·rw [if_neg d]
    have := free_idx (sl := r) (fun x hx => h x (List.mem_cons_of_mem _ hx)) (by omega)
    omega
theorem stepP_skip {must : Bool} {la sl : List Int} {s : Int} {i : Nat} (h : bitS s i = false ∨ (i : Int) ∈ sl) : stepP must la s i sl = sl := by
 unfold stepP
 rcases h with h | h
 ·rw [if_pos h]
 ·by_cases c : bitS s i = false
  ·rw [if_pos c]
  ·rw [if_neg c, if_pos h]
theorem stepP_sl {K M : Nat} {must : Bool} {la sl : List Int} {s : Int} {i : Nat} (hla : OkL M K la) (h : Sl K M s sl) (hi : i < K) : Sl K M s (stepP must la s i sl) ∧ ∀ x : Nat, (x : Int) ∈ sl → (x : Int) ∈ stepP must la s i sl := by
 by_cases c1 : bitS s i = false
 ·rw [stepP_skip (.inl c1)]; exact ⟨h, fun x hx => hx⟩
 ·by_cases c2 : (i : Int) ∈ sl
  ·rw [stepP_skip (.inr c2)]; exact ⟨h, fun x hx => hx⟩
  ·have ht := to_ok (must := must) hla h.ok hi
   unfold stepP
   rw [if_neg c1, if_neg c2]
   generalize (if must = true then rd la i else idxS sl) = c at ht
   by_cases c3 : c ≠ -1 ∧ rd sl c = -1
   ·rw [if_pos c3]
    obtain ⟨n, rfl⟩ := Int.eq_ofNat_of_zero_le (show 0 ≤ c by omega)
    rw [Int.toNat_natCast]
    refine ⟨h.set (by omega) hi (by simpa using c1) c2, fun x hx => ?_⟩
    obtain ⟨p, hp, e⟩ := rd_iff.1 hx
    refine rd_iff.2 ⟨p, by rw [List.length_set]; exact hp, ?_⟩
    rw [rd_set (by rw [h.ok.len]; omega), if_neg (fun e' => ?_)]
    ·exact e
    ·rw [e', c3.2] at e; omega
   ·rw [if_neg c3]; exact ⟨h, fun x hx => hx⟩
theorem pasS_sl {K M : Nat} {must : Bool} {la sl : List Int} {s : Int} (hla : OkL M K la) (h : Sl K M s sl) : ∀ i, i ≤ K → Sl K M s (pasS must la s sl i) ∧ ∀ x : Nat, (x : Int) ∈ sl → (x : Int) ∈ pasS must la s sl i
 | 0, _ => ⟨h, fun x hx => hx⟩
 | i + 1, hi => by
  obtain ⟨h1, h2⟩ := pasS_sl hla h i (by omega)
  obtain ⟨h3, h4⟩ := stepP_sl (must := must) hla h1 (show i < K by omega)
  exact ⟨h3, fun x hx => h4 x (h2 x hx)⟩
theorem pasS_all {K M : Nat} {la sl : List Int} {s : Int} (hK : K ≤ 8) (hp : popc s.toNat ≤ M) (hla : OkL M K la) (h : Sl K M s sl) : ∀ i, i ≤ K → ∀ x : Nat, x < i → bitS s x = true → (x : Int) ∈ pasS false la s sl i
 | 0, _, x, hx, _ => absurd hx (Nat.not_lt_zero _)
 | i + 1, hi, x, hx, hb => by
  obtain ⟨h1, -⟩ := pasS_sl (must := false) hla h i (by omega)
  obtain ⟨-, h4⟩ := stepP_sl (must := false) hla h1 (show i < K by omega)
  by_cases e : x < i
  ·exact h4 x (pasS_all hK hp hla h i (by omega) x e hb)
  ·obtain rfl : x = i := by omega
   show (x : Int) ∈ stepP false la s x (pasS false la s sl x)
   by_cases c2 : (x : Int) ∈ pasS false la s sl x
   ·exact h4 x c2
   ·have hf := h1.free hK (by omega) hb c2 hp
    obtain ⟨h5, h6⟩ := (idxS_bnd (pasS false la s sl x)).2.2 hf
    have h7 := (idxS_bnd (pasS false la s sl x)).2.1
    obtain ⟨n, hn⟩ := Int.eq_ofNat_of_zero_le h5
    have es : stepP false la s x (pasS false la s sl x) = (pasS false la s sl x).set n (x : Int) := by
     unfold stepP
     rw [if_neg (by rw [hb]; decide), if_neg c2]
     show (if idxS (pasS false la s sl x) ≠ -1 ∧ rd (pasS false la s sl x) (idxS (pasS false la s sl x)) = -1 then (pasS false la s sl x).set (idxS (pasS false la s sl x)).toNat (x : Int) else pasS false la s sl x) = _
     rw [if_pos ⟨hf, h6⟩, hn, Int.toNat_natCast]
    rw [es]
    exact rd_iff.2 ⟨n, by rw [List.length_set]; omega, by rw [rd_set (by omega), if_pos rfl]⟩
theorem slotF_ok {K M : Nat} {la : List Int} {s : Int} (hK : K ≤ 8) (hp : popc s.toNat ≤ M) (hla : OkL M K la) : Sl K M s (slotF K M la s) ∧ ∀ x : Nat, x < K → bitS s x = true → (x : Int) ∈ slotF K M la s := by
 have h1 := (pasS_sl (must := true) hla (Sl.rep K M s) K (Nat.le_refl _)).1
 exact ⟨(pasS_sl (must := false) hla h1 K (Nat.le_refl _)).1, fun x hx hb => pasS_all hK hp hla h1 K (Nat.le_refl _) x hx hb⟩
theorem pas0 {K M : Nat} {la : List Int} {s : Int} (hla : OkL M K la) : ∀ i, i ≤ K → pasA0 la s (List.replicate M (-1)) i = pasS true la s (List.replicate M (-1)) i ∧ (∀ p : Nat, p < M → rd (pasS true la s (List.replicate M (-1)) i) p < i) ∧
  ∀ p x : Nat, p < M → rd (pasS true la s (List.replicate M (-1)) i) p = x → rd la x = p
 | 0, _ => by
  have e : ∀ p : Nat, p < M → rd (List.replicate M (-1)) (p : Int) = -1 := fun p hp => by rw [rd_lt (by simpa using hp)]; simp
  exact ⟨rfl, fun p hp => by show rd (List.replicate M (-1)) p < _; rw [e p hp]; omega, fun p x hp h => by
   have h : rd (List.replicate M (-1)) p = x := h
   rw [e p hp] at h; omega⟩
 | i + 1, hi => by
  obtain ⟨h1, h2, h3⟩ := pas0 (s := s) hla i (by omega)
  have hsl := (pasS_sl (must := true) hla (Sl.rep K M s) i (by omega)).1
  show stepA0 la s i (pasA0 la s (List.replicate M (-1)) i) = stepP true la s i (pasS true la s (List.replicate M (-1)) i) ∧ (∀ p : Nat, p < M → rd (stepP true la s i (pasS true la s (List.replicate M (-1)) i)) p < ((i + 1 : Nat) : Int)) ∧ ∀ p x : Nat, p < M → rd (stepP true la s i (pasS true la s (List.replicate M (-1)) i)) p = x → rd la x = p
  rw [h1]
  generalize pasS true la s (List.replicate M (-1)) i = sl at h2 h3 hsl
  have hni : (i : Int) ∉ sl := fun hm => by
   obtain ⟨p, hp, e⟩ := rd_iff.1 hm
   have := h2 p (by rw [← hsl.ok.len]; exact hp); omega
  have hz := hla.rd (show i < K by omega)
  by_cases c1 : bitS s i = false
  ·rw [stepP_skip (.inl c1)]
   refine ⟨by unfold stepA0; rw [if_pos c1], fun p hp => by have := h2 p hp; omega, h3⟩
  ·have e1 : stepP true la s i sl = if rd la i ≠ -1 ∧ rd sl (rd la i) = -1 then sl.set (rd la i).toNat i else sl := by unfold stepP; rw [if_neg c1, if_neg hni]; rfl
   have e2 : stepA0 la s i sl = if 0 ≤ rd la i ∧ rd sl (rd la i) < 0 then sl.set (rd la i).toNat i else sl := by unfold stepA0; rw [if_neg c1]
   have iff : (0 ≤ rd la i ∧ rd sl (rd la i) < 0) ↔ (rd la i ≠ -1 ∧ rd sl (rd la i) = -1) := by
    constructor
    ·rintro ⟨a, b⟩
     obtain ⟨n, hn⟩ := Int.eq_ofNat_of_zero_le a
     have := hsl.ok.rd (show n < M by omega)
     rw [hn] at b ⊢
     exact ⟨by omega, by omega⟩
    ·rintro ⟨a, b⟩; exact ⟨by omega, by omega⟩
   rw [e1, e2]
   by_cases c3 : rd la i ≠ -1 ∧ rd sl (rd la i) = -1
   ·rw [if_pos c3, if_pos (iff.2 c3)]
    obtain ⟨n, hn⟩ := Int.eq_ofNat_of_zero_le (iff.2 c3).1
    rw [hn, Int.toNat_natCast]
    have r : ∀ p : Nat, rd (sl.set n i) p = if p = n then (i : Int) else rd sl p := fun p => rd_set (by rw [hsl.ok.len]; omega)
    refine ⟨rfl, fun p hp => ?_, fun p x hp e => ?_⟩
    ·rw [r]; split
     ·omega
     ·have := h2 p hp; omega
    ·rw [r] at e
     by_cases hpn : p = n
     ·rw [if_pos hpn] at e
      obtain rfl : i = x := by omega
      rw [hn]; omega
     ·rw [if_neg hpn] at e; exact h3 p x hp e
   ·rw [if_neg c3, if_neg (fun h => c3 (iff.1 h))]
    exact ⟨rfl, fun p hp => by have := h2 p hp; omega, h3⟩
structure P1 (K M : Nat) (la : List Int) (s : Int) (i : Nat) (sl lb : List Int) : Prop where
 hsl : Sl K M s sl
 hlb : OkL M K lb
 hi : ∀ x : Nat, i ≤ x → x < K → rd lb x = rd la x
 lo : ∀ x : Nat, x < i → x < K → (∃ p : Nat, p < M ∧ rd sl p = x ∧ rd lb x = p) ∨ ((x : Int) ∉ sl ∧ rd lb x = rd la x)
 at0 : ∀ p x : Nat, i ≤ x → p < M → rd sl p = x → rd la x = p
theorem P1.step {K M : Nat} {la sl lb : List Int} {s : Int} {i : Nat} (hK : K ≤ 8) (hp : popc s.toNat ≤ M) (hla : OkL M K la) (h : P1 K M la s i sl lb) (hi : i < K) :
  (bitS s i = true → freeS sl < M ∨ ¬ (rd lb i < 0 ∨ rd sl (rd lb i) ≠ i)) ∧ (stepA1 s i (sl, lb)).1 = stepP false la s i sl ∧ P1 K M la s (i + 1) (stepP false la s i sl) (stepA1 s i (sl, lb)).2 := by
 have hlen := h.hsl.ok.len
 have hei := h.hi i (Nat.le_refl _) hi
 by_cases c1 : bitS s i = false
 ·have e1 : stepA1 s i (sl, lb) = (sl, lb) := by unfold stepA1; rw [if_pos c1]
  rw [e1, stepP_skip (.inl c1)]
  refine ⟨(fun hb => by rw [c1] at hb; cases hb), rfl, h.hsl, h.hlb, fun x hx hxK => h.hi x (by omega) hxK, fun x hx hxK => ?_, fun p x hx => h.at0 p x (by omega)⟩
  by_cases e : x < i
  ·exact h.lo x e hxK
  ·obtain rfl : x = i := by omega
   refine .inr ⟨fun hm => ?_, hei⟩
   obtain ⟨p, hp', e'⟩ := rd_iff.1 hm
   rw [h.hsl.bit p (by omega) x e'] at c1; cases c1
 ·have hb : bitS s i = true := by simpa using c1
  by_cases c2 : (i : Int) ∈ sl
  ·obtain ⟨p, hp', e'⟩ := rd_iff.1 c2
   have hla' := h.at0 p i (Nat.le_refl _) (by omega) e'
   have nc : ¬ (rd lb i < 0 ∨ rd sl (rd lb i) ≠ i) := by
    rw [hei, hla']
    rintro (h1 | h1)
    ·omega
    ·exact h1 e'
   have e1 : stepA1 s i (sl, lb) = (sl, lb) := by unfold stepA1; rw [if_neg c1]; exact if_neg nc
   rw [e1, stepP_skip (.inr c2)]
   refine ⟨fun _ => .inr nc, rfl, h.hsl, h.hlb, fun x hx hxK => h.hi x (by omega) hxK, fun x hx hxK => ?_, fun p x hx => h.at0 p x (by omega)⟩
   by_cases e : x < i
   ·exact h.lo x e hxK
   ·obtain rfl : x = i := by omega
    exact .inl ⟨p, by omega, e', by rw [hei, hla']⟩
  ·have hz := h.hlb.rd hi
   have cc : rd lb i < 0 ∨ rd sl (rd lb i) ≠ i := by
    rcases Int.lt_or_le (rd lb i) 0 with h1 | h1
    ·exact .inl h1
    ·refine .inr fun e => c2 ?_
     obtain ⟨n, hn⟩ := Int.eq_ofNat_of_zero_le h1
     rw [hn] at e
     exact rd_iff.2 ⟨n, by omega, e⟩
   have hf := h.hsl.free hK hi hb c2 hp
   have hfi := free_idx (fun x hx => (h.hsl.ok.el x hx).1) hf
   obtain ⟨-, hb2, hb3⟩ := idxS_bnd sl
   obtain ⟨h5, h6⟩ := hb3 hf
   have hfl : freeS sl < M := by omega
   have e1 : stepA1 s i (sl, lb) = (sl.set (freeS sl) i, lb.set i (freeS sl)) := by unfold stepA1; rw [if_neg c1]; exact if_pos cc
   have e2 : stepP false la s i sl = sl.set (freeS sl) i := by
    unfold stepP
    rw [if_neg c1, if_neg c2]
    show (if idxS sl ≠ -1 ∧ rd sl (idxS sl) = -1 then sl.set (idxS sl).toNat i else sl) = _
    rw [if_pos ⟨hf, h6⟩, ← hfi, Int.toNat_natCast]
   rw [e1, e2]
   have hfr : rd sl (freeS sl : Int) = -1 := by rw [hfi]; exact h6
   have r : ∀ p : Nat, rd (sl.set (freeS sl) i) p = if p = freeS sl then (i : Int) else rd sl p := fun p => rd_set (by omega)
   have r2 : ∀ x : Nat, rd (lb.set i (freeS sl)) x = if x = i then (freeS sl : Int) else rd lb x := fun x => rd_set (by rw [h.hlb.len]; exact hi)
   refine ⟨fun _ => .inl hfl, rfl, h.hsl.set hfl hi hb c2, h.hlb.set (by omega), fun x hx hxK => by rw [r2, if_neg (by omega)]; exact h.hi x (by omega) hxK, fun x hx hxK => ?_, fun p x hx hpM e => ?_⟩
   ·by_cases e : x = i
    ·subst e; exact .inl ⟨freeS sl, hfl, by rw [r, if_pos rfl], by rw [r2, if_pos rfl]⟩
    ·rw [r2, if_neg e]
     rcases h.lo x (by omega) hxK with ⟨p, q1, q2, q3⟩ | ⟨q1, q2⟩
     ·refine .inl ⟨p, q1, ?_, q3⟩
      rw [r, if_neg (fun e' => by rw [e', hfr] at q2; omega)]; exact q2
     ·refine .inr ⟨fun hm => ?_, q2⟩
      obtain ⟨p, hp', e'⟩ := rd_iff.1 hm
      rw [r] at e'
      by_cases hpn : p = freeS sl
      ·rw [if_pos hpn] at e'; omega
      ·rw [if_neg hpn] at e'
       rw [List.length_set] at hp'
       exact q1 (rd_iff.2 ⟨p, hp', e'⟩)
   ·rw [r] at e
    by_cases hpn : p = freeS sl
    ·rw [if_pos hpn] at e; omega
    ·rw [if_neg hpn] at e; exact h.at0 p x (by omega) hpM e
theorem P1.start {K M : Nat} {la : List Int} {s : Int} (hla : OkL M K la) : P1 K M la s 0 (pasS true la s (List.replicate M (-1)) K) la :=
 ⟨(pasS_sl hla (Sl.rep K M s) K (Nat.le_refl _)).1, hla, fun x _ _ => rfl, fun x h => absurd h (Nat.not_lt_zero _), fun p x _ hp e => (pas0 hla K (Nat.le_refl _)).2.2 p x hp e⟩
theorem P1.all {K M : Nat} {la : List Int} {s : Int} (hK : K ≤ 8) (hp : popc s.toNat ≤ M) (hla : OkL M K la) : ∀ i, i ≤ K → (pasA1 s (pasA0 la s (List.replicate M (-1)) K, la) i).1 = pasS false la s (pasS true la s (List.replicate M (-1)) K) i ∧
  P1 K M la s i (pasS false la s (pasS true la s (List.replicate M (-1)) K) i) (pasA1 s (pasA0 la s (List.replicate M (-1)) K, la) i).2
 | 0, _ => ⟨(pas0 hla K (Nat.le_refl _)).1, P1.start hla⟩
 | i + 1, hi => by
  obtain ⟨h1, h2⟩ := P1.all hK hp hla i (by omega)
  have e : pasA1 s (pasA0 la s (List.replicate M (-1)) K, la) (i + 1) = stepA1 s i (pasS false la s (pasS true la s (List.replicate M (-1)) K) i, (pasA1 s (pasA0 la s (List.replicate M (-1)) K, la) i).2) := by
   show stepA1 s i (pasA1 s (pasA0 la s (List.replicate M (-1)) K, la) i) = _
   rw [← h1]
  obtain ⟨-, q1, q2⟩ := h2.step hK hp hla (show i < K by omega)
  rw [e]
  exact ⟨q1, q2⟩
theorem P1.fr {K M : Nat} {la : List Int} {s : Int} (hK : K ≤ 8) (hp : popc s.toNat ≤ M) (hla : OkL M K la) (i : Nat) (hi : i < K) (hb : bitS s i = true) : freeS (pasA1 s (pasA0 la s (List.replicate M (-1)) K, la) i).1 < M ∨
  ¬ (rd (pasA1 s (pasA0 la s (List.replicate M (-1)) K, la) i).2 i < 0 ∨ rd (pasA1 s (pasA0 la s (List.replicate M (-1)) K, la) i).1 (rd (pasA1 s (pasA0 la s (List.replicate M (-1)) K, la) i).2 i) ≠ i) := by
 obtain ⟨h1, h2⟩ := P1.all hK hp hla i (by omega)
 have := (h2.step hK hp hla hi).1 hb
 rw [← h1] at this
 exact this
theorem lasS_rd {K M : Nat} {s : Int} {sl la : List Int} (h : Sl K M s sl) (hla : OkL M K la) : ∀ c, c ≤ M → ∀ x : Nat, x < K → ((∀ p : Nat, p < c → rd sl p ≠ x) → rd (lasS sl la c) x = rd la x) ∧ ∀ p : Nat, p < c → rd sl p = x → rd (lasS sl la c) x = p
 | 0, _, x, _ => ⟨fun _ => rfl, fun p hp => absurd hp (Nat.not_lt_zero _)⟩
 | c + 1, hc, x, hx => by
  obtain ⟨h1, h2⟩ := lasS_rd h hla c (by omega) x hx
  have hl := (lasS_ok (sl := sl) hla c (by omega)).len
  unfold lasS
  by_cases e : rd sl c ≠ -1
  ·rw [if_pos e]
   have hr := h.ok.rd (show c < M by omega)
   obtain ⟨n, hn⟩ := Int.eq_ofNat_of_zero_le (show 0 ≤ rd sl c by omega)
   rw [hn, Int.toNat_natCast, rd_set (by omega)]
   by_cases e2 : x = n
   ·subst e2
    rw [if_pos rfl]
    refine ⟨fun hq => absurd hn (hq c (by omega)), fun p hp hpx => ?_⟩
    have := h.inj p c (by omega) (by omega) (by rw [hpx, hn]) (by omega)
    omega
   ·rw [if_neg e2]
    refine ⟨fun hq => h1 fun p hp => hq p (by omega), fun p hp hpx => h2 p ?_ hpx⟩
    by_cases e3 : p = c
    ·subst e3; omega
    ·omega
  ·rw [if_neg e]
   have e := Decidable.not_not.1 e
   refine ⟨fun hq => h1 fun p hp => hq p (by omega), fun p hp hpx => h2 p ?_ hpx⟩
   by_cases e3 : p = c
   ·subst e3; omega
   ·omega
theorem ext_rd {a b : List Int} (h : a.length = b.length) (hr : ∀ i : Nat, i < a.length → rd a i = rd b i) : a = b := by
 apply List.ext_getElem h
 intro i h1 h2
 have := hr i h1
 rw [rd_lt h1, rd_lt h2] at this
 exact this
theorem turn_eq {K M : Nat} {la : List Int} {s : Int} (hK : K ≤ 8) (hp : popc s.toNat ≤ M) (hla : OkL M K la) : (turnQ K M la s 2).1 = slotF K M la s ∧ (turnQ K M la s 2).2 = lasS (slotF K M la s) la M := by
 obtain ⟨h1, h2⟩ := P1.all hK hp hla K (Nat.le_refl _)
 refine ⟨h1, ?_⟩
 show (pasA1 s (pasA0 la s (List.replicate M (-1)) K, la) K).2 = lasS (pasS false la s (pasS true la s (List.replicate M (-1)) K) K) la M
 have hl1 := h2.hlb.len
 have hl2 := (lasS_ok (sl := pasS false la s (pasS true la s (List.replicate M (-1)) K) K) hla M (Nat.le_refl _)).len
 refine ext_rd (by omega) fun x hx => ?_
 have hxK : x < K := by omega
 obtain ⟨q1, q2⟩ := lasS_rd h2.hsl hla M (Nat.le_refl _) x hxK
 rcases h2.lo x hxK hxK with ⟨p, a1, a2, a3⟩ | ⟨a1, a2⟩
 ·rw [a3, q2 p a1 a2]
 ·rw [a2, q1 fun p hp e => a1 (rd_iff.2 ⟨p, by rw [h2.hsl.ok.len]; exact hp, e⟩)]
def SetsOk (K M : Nat) (l : List Int) : Prop := ∀ n : Nat, n < l.length → 0 ≤ rd l n ∧ rd l n < 2 ^ K ∧ popc (rd l n).toNat ≤ M
theorem lb_eq {K M : Nat} {l : List Int} (hK : K ≤ 8) (hS : SetsOk K M l) : ∀ n, n ≤ l.length → lbA K M l n = laA K M l n
 | 0, _ => rfl
 | n + 1, hn => by
  have ih := lb_eq hK hS n (by omega)
  show (turnQ K M (lbA K M l n) (rd l n) 2).2 = lasS (slotF K M (laA K M l n) (rd l n)) (laA K M l n) M
  rw [ih]
  exact (turn_eq hK (hS n (by omega)).2.2 (laA_ok K M l n)).2
theorem sl_eq {K M : Nat} {l : List Int} (hK : K ≤ 8) (hS : SetsOk K M l) {n : Nat} (hn : n < l.length) : slB K M l n = slA K M l n := by
 unfold slB slA
 rw [lb_eq hK hS n (by omega)]
 exact (turn_eq hK (hS n hn).2.2 (laA_ok K M l n)).1
theorem freeB_ok {K M : Nat} {l : List Int} (hK : K ≤ 8) (hS : SetsOk K M l) : FreeB K M l := by
 intro n hn i hi hb
 rw [lb_eq hK hS n (by omega)]
 exact P1.fr hK (hS n hn).2.2 (laA_ok K M l n) i hi hb
theorem put_eq {K M : Nat} {l : List Int} (hK : K ≤ 8) (hS : SetsOk K M l) : putB K M l = putA K M l := by
 unfold putB putA
 refine List.map_congr_left fun c _ => ?_
 unfold rowB rowA
 exact List.map_congr_left fun j hj => by rw [sl_eq hK hS (List.mem_range.1 hj)]
theorem slA_sl {K M : Nat} {l : List Int} (hK : K ≤ 8) (hS : SetsOk K M l) {n : Nat} (hn : n < l.length) : Sl K M (rd l n) (slA K M l n) ∧ ∀ x : Nat, x < K → bitS (rd l n) x = true → (x : Int) ∈ slA K M l n :=
 slotF_ok hK (hS n hn).2.2 (laA_ok K M l n)
def setB (K M : Nat) (x : Int) : Bool := decide (0 ≤ x ∧ x < 2 ^ K) && decide (popc x.toNat ≤ M)
theorem setB_iff {K M : Nat} {x : Int} : setB K M x = true ↔ (0 ≤ x ∧ x < 2 ^ K) ∧ popc x.toNat ≤ M := by
 unfold setB; rw [Bool.and_eq_true, decide_eq_true_iff, decide_eq_true_iff]
theorem pow8 : ∀ K : Nat, K < 9 → (1 : Int) ≤ 2 ^ K ∧ (2 : Int) ^ K ≤ 256 ∧ ((2 ^ K : Nat) : Int) = (2 : Int) ^ K := by decide +kernel
theorem setsOk_iff {K M : Nat} {l : List Int} : l.all (setB K M) = true ↔ SetsOk K M l := by
 rw [List.all_eq_true]
 constructor
 ·intro h n hn
  have := setB_iff.1 (h _ (List.getElem_mem hn))
  rw [rd_lt hn]
  exact ⟨this.1.1, this.1.2, this.2⟩
 ·intro h x hx
  obtain ⟨p, hp, rfl⟩ := rd_iff.1 hx
  have := h p hp
  exact setB_iff.2 ⟨⟨this.1, this.2.1⟩, this.2.2⟩
def putV (a0 a1 : Int) (l : List Int) : Bool := decide (1 ≤ a0 ∧ a0 ≤ 8) && (decide (1 ≤ a1 ∧ a1 ≤ 4) && (decide (1 ≤ l.length ∧ l.length ≤ 120) && l.all (setB a0.toNat a1.toNat)))
def putR (a0 a1 : Int) (l : List Int) : List (List Int) × Int := if putV a0 a1 l = true then (putA a0.toNat a1.toNat l, 0) else ([], 2)
theorem setOf {K M : Nat} {x : Int} (hK : K < 9) (h : 0 ≤ x ∧ x < 2 ^ K) : ∃ n : Nat, x = n ∧ n < 256 := by
 have := pow8 K hK
 obtain ⟨n, rfl⟩ := Int.eq_ofNat_of_zero_le h.1
 exact ⟨n, rfl, by omega⟩
theorem put1_f {K M : Nat} (hK : K < 9) (x : Int) : impl_PutSets_1.f x K M = some (setB K M x) := by
 have hp := pow8 K hK
 unfold impl_PutSets_1.f
 rw [if_neg (by omega), shlV_nat (by omega), hp.2.2, w64 (by omega) (by omega), within_f, Option.bind_some]
 unfold setB
 by_cases c : 0 ≤ x ∧ x < 2 ^ K
 ·obtain ⟨n, rfl, hn⟩ := setOf (M := M) hK c
  rw [decide_eq_true (show 0 ≤ (n : Int) ∧ (n : Int) ≤ 2 ^ K - 1 by omega), if_pos rfl, members_f hn, Option.bind_some, decide_eq_true c, Bool.true_and, Int.toNat_natCast]
  congr 1
  exact decide_eq_decide.2 (by omega)
 ·rw [decide_eq_false (fun h => c (by omega)), if_neg (by decide), decide_eq_false c, Bool.false_and]
theorem putAll_f {k K M : Nat} {l : List Int} (hk : 2097152 ≤ k) (hl : l.length ≤ 1048576) (hK : K < 9) : impl_areAll_int64_impl_PutSets_1.f k l ((K : Int), (M : Int)) = some (l.all (setB K M)) := by
 obtain ⟨j, h1, h2⟩ := idx_run (L := slices_IndexFunc_int64_int64_impl_areAll_int64_1_impl_PutSets_1.l0 k) (p := fun x => !setB K M x) (l := l) (c := ((K : Int), (M : Int)))
  (fun n i hi => by
   simp only [slices_IndexFunc_int64_int64_impl_areAll_int64_1_impl_PutSets_1.l0, slices_IndexFunc_int64_int64_impl_areAll_int64_1_impl_PutSets_1.s0]
   rw [if_pos (by omega), if_pos (by omega), if_pos (by omega)]
   simp only [impl_areAll_int64_1_impl_PutSets_1.f, put1_f hK, Option.bind_some, w64n (show i ≤ 9223372036854775806 by omega)]
   cases setB K M (rd l i) <;> simp)
  (fun n => by
   simp only [slices_IndexFunc_int64_int64_impl_areAll_int64_1_impl_PutSets_1.l0, slices_IndexFunc_int64_int64_impl_areAll_int64_1_impl_PutSets_1.s0]
   rw [if_neg (by omega)]) l.length 0 k (by omega) (by omega) (by omega)
 unfold impl_areAll_int64_impl_PutSets_1.f slices_ContainsFunc_int64_int64_impl_areAll_int64_1_impl_PutSets_1.f slices_IndexFunc_int64_int64_impl_areAll_int64_1_impl_PutSets_1.f slices_IndexFunc_int64_int64_impl_areAll_int64_1_impl_PutSets_1.g
 rw [show slices_IndexFunc_int64_int64_impl_areAll_int64_1_impl_PutSets_1.l0 k k l ((K : Int), (M : Int)) l.length 0 = some j from h1, Option.bind_some, Option.bind_some]
 rw [List.drop_zero] at h2
 congr 1
 exact all_iff (p := fun x => !setB K M x) (fun _ => rfl) h2
theorem impl_putSets_f {k : Nat} {l : List Int} (hk : 2097152 ≤ k) (hl : l.length ≤ 1048576) (a0 a1 : Int) : impl_PutSets.f k a0 a1 l = some (putR a0 a1 l) := by
 have e1 : impl_isMany.f a0 = some (decide (1 ≤ a0 ∧ a0 ≤ 8)) := by unfold impl_isMany.f; rw [within_f, Option.bind_some]
 have e2 : impl_isChannels.f a1 = some (decide (1 ≤ a1 ∧ a1 ≤ 4)) := by unfold impl_isChannels.f; rw [within_f, Option.bind_some]
 unfold impl_PutSets.f putR putV
 rw [e1, Option.bind_some]
 by_cases c1 : 1 ≤ a0 ∧ a0 ≤ 8
 ·rw [decide_eq_true c1, if_neg (by decide), e2, Option.bind_some]
  by_cases c2 : 1 ≤ a1 ∧ a1 ≤ 4
  ·rw [decide_eq_true c2, if_neg (by decide), length_f, Option.bind_some, within_f, Option.bind_some]
   by_cases c3 : 1 ≤ l.length ∧ l.length ≤ 120
   ·obtain ⟨K, rfl⟩ := Int.eq_ofNat_of_zero_le (show 0 ≤ a0 by omega)
    obtain ⟨M, rfl⟩ := Int.eq_ofNat_of_zero_le (show 0 ≤ a1 by omega)
    rw [decide_eq_true (show 1 ≤ (l.length : Int) ∧ (l.length : Int) ≤ 120 by omega), if_neg (by decide), putAll_f hk hl (by omega), Option.bind_some, decide_eq_true c3, Int.toNat_natCast, Int.toNat_natCast]
    simp only [Bool.true_and]
    by_cases c4 : l.all (setB K M) = true
    ·rw [c4, if_neg (by decide), if_pos rfl, if_pos]
     refine ⟨hk, c1, c2, c3, fun x hx => ?_⟩
     have := (setB_iff.1 (List.all_eq_true.1 c4 x hx)).1
     have := pow8 K (by omega)
     omega
    ·have c4 : l.all (setB K M) = false := by simpa using c4
     rw [c4, if_pos rfl, if_neg (by decide)]
   ·rw [decide_eq_false (show ¬ (1 ≤ (l.length : Int) ∧ (l.length : Int) ≤ 120) by omega), if_pos rfl, decide_eq_false c3]
    simp
  ·rw [decide_eq_false c2, if_pos rfl]; simp
 ·rw [decide_eq_false c1, if_pos rfl]; simp
theorem badO_f {k K M : Nat} (hk : 2097152 ≤ k) (hK : K < 9) (x : Int) : badO k K M x = some (!setB K M x) := by
 have hp := pow8 K hK
 unfold badO setB
 by_cases c : 0 ≤ x ∧ x < 2 ^ K
 ·obtain ⟨n, rfl, hn⟩ := setOf (M := M) hK c
  rw [if_pos (by omega), size8_f hk hn, Option.bind_some, decide_eq_true c, Bool.true_and, Int.toNat_natCast]
  congr 1
  by_cases d : popc n ≤ M
  ·rw [decide_eq_true d, decide_eq_false (by omega)]; rfl
  ·rw [decide_eq_false d, decide_eq_true (by omega)]; rfl
 ·rw [if_neg (fun h => c (by omega)), decide_eq_false c, Bool.false_and]; rfl
theorem chkL_f {k K M : Nat} (hk : 2097152 ≤ k) (hK : K < 9) : ∀ l : List Int, chkL k K M l = some (!l.all (setB K M))
 | [] => rfl
 | x :: l => by
  unfold chkL
  rw [badO_f hk hK, Option.bind_some, List.all_cons]
  cases h : setB K M x with
  | true => rw [Bool.true_and, if_neg (by decide)]; exact chkL_f hk hK l
  | false => rfl
theorem spec_putSets_f {k : Nat} {l : List Int} (hk : 2097152 ≤ k) (a0 a1 : Int) : spec_PutSets.f k a0 a1 l = some (putR a0 a1 l) := by
 unfold spec_PutSets.f putR putV
 rw [l01InP_f, l01InP_f, Option.bind_some, Option.bind_some]
 by_cases c1 : 1 ≤ a0 ∧ a0 ≤ 8
 ·rw [decide_eq_true c1, if_neg (by decide)]
  by_cases c2 : 1 ≤ a1 ∧ a1 ≤ 4
  ·rw [decide_eq_true c2, if_neg (by decide)]
   by_cases c3 : 1 ≤ l.length ∧ l.length ≤ 120
   ·obtain ⟨K, rfl⟩ := Int.eq_ofNat_of_zero_le (show 0 ≤ a0 by omega)
    obtain ⟨M, rfl⟩ := Int.eq_ofNat_of_zero_le (show 0 ≤ a1 by omega)
    rw [if_neg (by omega), if_neg (by omega), if_pos ⟨c1, c2⟩, decide_eq_true c3, Int.toNat_natCast, Int.toNat_natCast, chkL_f hk (by omega), Option.bind_some]
    simp only [Bool.true_and]
    by_cases c4 : l.all (setB K M) = true
    ·have hS := setsOk_iff.1 c4
     rw [c4, if_neg (by decide), if_pos rfl, if_pos (freeB_ok (by omega) hS), put_eq (by omega) hS]
    ·have c4 : l.all (setB K M) = false := by simpa using c4
     rw [c4, if_pos (by decide), if_neg (by decide)]
   ·rw [decide_eq_false c3]
    by_cases c5 : (l.length : Int) < 1
    ·rw [if_pos c5]; simp
    ·rw [if_neg c5, if_pos (by omega)]; simp
  ·rw [decide_eq_false c2, if_pos rfl]; simp
 ·rw [decide_eq_false c1, if_pos rfl]; simp
end Go.Proofs.YtcbhhbkghbnljaaGreatDoor.Vf
