/- Distances and rounds: what program and reference give. -/
import Derived.Test.YtcbhhbkghbnljaaQGrB
import Derived.Test.YtcbhhbkghbnljaaQ09
set_option linter.unusedVariables false
set_option linter.unusedSimpArgs false
namespace Go.Proofs.Ytcbhhbkghbnljaa.Vf
open Go Go.V Go.RowKit

noncomputable def nrV (r : Int) (a b : Nat) : Bool := nearV r a b

theorem nrV_self (r : Int) (a : Nat) : nrV r a a = true := if_pos rfl

theorem roadI_sym {a b : Int} (h0 : 0 ≤ a) (h1 : a < 6) (h2 : 0 ≤ b) (h3 : b < 6) : roadI a b = roadI b a := by
  rcases six h0 h1 with rfl | rfl | rfl | rfl | rfl | rfl <;> rcases six h2 h3 with rfl | rfl | rfl | rfl | rfl | rfl <;> decide +kernel

theorem nrV_sym {n : Nat} (hn : n ≤ 6) (r : Int) (a b : Nat) (ha : a < n) (hb : b < n) (h : nrV r a b = true) : nrV r b a = true := by
  unfold nrV nearV roadV at h ⊢
  rw [roadI_sym (a := (b : Int)) (b := (a : Int)) (by omega) (by omega) (by omega) (by omega)]
  by_cases e : (a : Int) = b
  · rw [if_pos e.symm]
  · rw [if_neg e] at h
    rw [if_neg (fun x => e x.symm)]; exact h

theorem joins_ok {p r : Int} {a b : Nat} (ha : a < 6) (hb : b < 6) (h : a ≠ b) : impl_Ground_joins.f p r a b = some (nrV r a b) := by
  have e : ¬ (a : Int) = b := by omega
  unfold impl_Ground_joins.f nrV nearV
  rw [if_neg e, (road_ok (by omega) (by omega) (by omega) (by omega)).2, if_neg e]; rfl

theorem near_nr {p r : Int} {a b : Nat} (ha : a < 6) (hb : b < 6) : spec_l09Near.f p r a b = some (nrV r a b) ∧ impl_Ground_isNear.f p r a b = some (nrV r a b) := near_ok (by omega) (by omega) (by omega) (by omega)

def qI (q : List Nat) : List Int := List.map (fun x : Nat => (x : Int)) q
theorem qI_len (q : List Nat) : (qI q).length = q.length := by simp [qI]
theorem qI_app (q : List Nat) (j : Nat) : qI (q ++ [j]) = qI q ++ [(j : Int)] := by simp [qI]

theorem Sc.hup {nr : Nat → Nat → Bool} {n i a j : Nat} {out : List Int} {q : List Nat} (S : Sc nr n i a j out q) : out.getD a 0 + 1 ≤ n := by
  have := S.cn a S.ha; omega

theorem implD_l1 {k n i a : Nat} {r : Int} (hn : n ≤ 6) {r0 : Int → Int → (List Int) → (List Int) → Option ((List Int))} : ∀ (d j m : Nat) (out : List Int) (q : List Nat), j + d = n → d < m → Sc (nrV r) n i a j out q → ng out + q.length ≤ n →
    impl_Ground_distances.l1 k r0 m n r out (qI (a :: q)) n j = r0 n r (scanG (nrV r) a j d out q).1 (qI (scanG (nrV r) a j d out q).2) := by
  intro d
  induction d with
  | zero =>
    intro j m out q hd hm S hq
    cases m with
    | zero => omega
    | succ m =>
      simp only [impl_Ground_distances.l1, impl_Ground_distances.s1]
      rw [if_neg (by omega), if_pos (by rw [qI_len]; simp only [List.length_cons]; omega), if_pos (Int.le_refl _)]
      rfl
  | succ d ih =>
    intro j m out q hd hm S hq
    cases m with
    | zero => omega
    | succ m =>
      have hl := S.len
      have ha := S.ha
      have h0 := S.h0
      have hu := S.hup
      have ql : (qI (a :: q)).length = q.length + 1 := by rw [qI_len]; rfl
      have q0 : rd (qI (a :: q)) 0 = a := rfl
      simp only [impl_Ground_distances.l1, impl_Ground_distances.s1]
      rw [if_pos (by omega), if_pos (by omega), if_pos (by omega), w64n (by omega), rd_nat, q0]
      unfold scanG
      by_cases c : out.getD j 0 < 0
      · have hne : a ≠ j := fun e => by rw [← e] at c; omega
        rw [if_pos c, if_pos (by omega), joins_ok (by omega) (by omega) hne, Option.bind_some]
        by_cases c2 : nrV r a j = true
        · rw [if_pos c2, if_pos (show out.getD j 0 < 0 ∧ nrV r a j = true from ⟨c, c2⟩), if_pos (by omega), if_pos (by omega), if_pos (by omega), if_pos (by omega), if_pos (by omega), if_pos (by omega), rd_nat, w64 (by omega) (by omega), Int.toNat_natCast]
          have hng := ng_set (l := out) (j := j) (v := out.getD a 0 + 1) (by omega) c (by omega)
          have := ih (j + 1) m _ (q ++ [j]) (by omega) (by omega) (S.push (by omega) c c2) (by simp only [List.length_append, List.length_singleton]; omega)
          rw [← this]; simp [qI]
        · rw [if_neg c2, if_neg (show ¬ (out.getD j 0 < 0 ∧ nrV r a j = true) from fun x => c2 x.2)]
          exact ih (j + 1) m out q (by omega) (by omega) (S.skip (by omega) fun x => c2 x.2) hq
      · rw [if_neg c, if_neg (show ¬ (out.getD j 0 < 0 ∧ nrV r a j = true) from fun x => c x.1)]
        exact ih (j + 1) m out q (by omega) (by omega) (S.skip (by omega) fun x => c x.1) hq

theorem implD_l0 {k n i : Nat} {r : Int} (hk : 2097152 ≤ k) (hn : n ≤ 6) : ∀ (f m : Nat) (out : List Int) (q : List Nat), ng out + q.length < f → f ≤ m → Bs (nrV r) n i out q → ng out + q.length ≤ n →
    impl_Ground_distances.l0 k m n r out (qI q) = some (bfsG (nrV r) n f out q) := by
  intro f
  induction f with
  | zero => intro m out q h; omega
  | succ f ih =>
    intro m out q h hm B hq
    cases m with
    | zero => omega
    | succ m =>
      simp only [impl_Ground_distances.l0, impl_Ground_distances.s0]
      match q, h, hq, B with
      | [], _, _, _ => rfl
      | a :: q, h, hq, B =>
        simp only [List.length_cons] at h hq
        rw [if_pos (by rw [qI_len]; simp only [List.length_cons]; omega)]
        have e := implD_l1 (k := k) (r0 := impl_Ground_distances.l0 k m) hn n 0 k out q (by omega) (by omega) B.pop (by omega)
        rw [Int.natCast_zero] at e
        rw [e]
        have s := scan_ok n 0 out q (by omega) B.pop
        exact ih m _ _ (by omega) (by omega) s.1.bs (by omega)

theorem replicate_set {n i : Nat} : (List.replicate n (-1 : Int)).set i 0 = (List.replicate n (-1)).set i 0 := rfl

theorem impl_dist_f {k n i : Nat} {r : Int} (hk : 2097152 ≤ k) (hn : n ≤ 6) (hi : i < n) : impl_Ground_distances.f k n r i = some (dst (nrV r) n i) := by
  have hrep : slices_Repeat_int64_int64.f [-1] (n : Int) = some (List.replicate n (-1)) := by
    unfold slices_Repeat_int64_int64.f
    exact if_pos (by omega)
  unfold impl_Ground_distances.f impl_Ground_distances.g
  rw [hrep, Option.bind_some, if_pos (by omega), if_pos (by rw [List.length_replicate]; omega), Int.toNat_natCast]
  have := ng_start hi
  exact implD_l0 hk hn (n + 1) k _ [i] (by simp only [List.length_singleton]; omega) (by omega) (bs_start hi) (by simp only [List.length_singleton]; omega)

theorem specD_l2 {k n i a : Nat} {r : Int} (hn : n ≤ 6) {r1 : Int → Int → (List Int) → (List Int) → Int → Option ((List Int))} {dn : List Int} : ∀ (d j m : Nat) (out : List Int) (q : List Nat), j + d = n → d < m → Sc (nrV r) n i a j out q → dn.length + 1 + q.length + ng out ≤ n →
    spec_l09Distances.l2 k r1 m n r out (dn ++ qI (a :: q)) (dn.length : Int) j = r1 n r (scanG (nrV r) a j d out q).1 (dn ++ qI (a :: (scanG (nrV r) a j d out q).2)) ((dn.length + 1 : Nat) : Int) := by
  intro d
  induction d with
  | zero =>
    intro j m out q hd hm S hq
    cases m with
    | zero => omega
    | succ m =>
      simp only [spec_l09Distances.l2, spec_l09Distances.s2]
      rw [if_neg (by omega), w64n (by omega)]
      rfl
  | succ d ih =>
    intro j m out q hd hm S hq
    cases m with
    | zero => omega
    | succ m =>
      have hl := S.len
      have ha := S.ha
      have h0 := S.h0
      have hu := S.hup
      have ql : (dn ++ qI (a :: q)).length = dn.length + 1 + q.length := by rw [List.length_append, qI_len, List.length_cons]; omega
      have q0 : rd (dn ++ qI (a :: q)) (dn.length : Int) = a := by rw [rd_lt (by omega)]; simp [qI]
      simp only [spec_l09Distances.l2, spec_l09Distances.s2]
      rw [if_pos (by omega), if_pos (by omega), if_pos (by omega), w64n (by omega), rd_nat, q0]
      unfold scanG
      by_cases c : out.getD j 0 < 0
      · rw [if_pos c, if_pos (by omega), if_pos (by omega), (near_nr (by omega) (by omega)).1, Option.bind_some]
        by_cases c2 : nrV r a j = true
        · rw [if_pos c2, if_pos (show out.getD j 0 < 0 ∧ nrV r a j = true from ⟨c, c2⟩), if_pos (by omega), if_pos (by omega), if_pos (by omega), if_pos (by omega), if_pos (by omega), if_pos (by omega), if_pos (by omega), rd_nat, w64 (by omega) (by omega), Int.toNat_natCast]
          have hng := ng_set (l := out) (j := j) (v := out.getD a 0 + 1) (by omega) c (by omega)
          have := ih (j + 1) m _ (q ++ [j]) (by omega) (by omega) (S.push (by omega) c c2) (by simp only [List.length_append, List.length_singleton]; omega)
          rw [← this]; simp [qI]
        · rw [if_neg c2, if_neg (show ¬ (out.getD j 0 < 0 ∧ nrV r a j = true) from fun x => c2 x.2)]
          exact ih (j + 1) m out q (by omega) (by omega) (S.skip (by omega) fun x => c2 x.2) hq
      · rw [if_neg c, if_neg (show ¬ (out.getD j 0 < 0 ∧ nrV r a j = true) from fun x => c x.1)]
        exact ih (j + 1) m out q (by omega) (by omega) (S.skip (by omega) fun x => c x.1) hq

theorem specD_l1 {k n i : Nat} {r : Int} (hk : 2097152 ≤ k) (hn : n ≤ 6) : ∀ (f m : Nat) (out : List Int) (q : List Nat) (dn : List Int), ng out + q.length < f → f ≤ m → Bs (nrV r) n i out q → dn.length + q.length + ng out ≤ n →
    spec_l09Distances.l1 k m n r out (dn ++ qI q) (dn.length : Int) = some (bfsG (nrV r) n f out q) := by
  intro f
  induction f with
  | zero => intro m out q dn h; omega
  | succ f ih =>
    intro m out q dn h hm B hq
    cases m with
    | zero => omega
    | succ m =>
      simp only [spec_l09Distances.l1, spec_l09Distances.s1]
      match q, h, hq, B with
      | [], _, _, _ => rw [if_neg (by simp [qI])]; rfl
      | a :: q, h, hq, B =>
        simp only [List.length_cons] at h hq
        rw [if_pos (by rw [List.length_append, qI_len]; simp only [List.length_cons]; omega)]
        have e := specD_l2 (k := k) (r1 := spec_l09Distances.l1 k m) (dn := dn) hn n 0 k out q (by omega) (by omega) B.pop (by omega)
        rw [Int.natCast_zero] at e
        rw [e]
        have s := scan_ok n 0 out q (by omega) B.pop
        have := ih m _ _ (dn ++ [(a : Int)]) (by omega) (by omega) s.1.bs (by rw [List.length_append, List.length_singleton]; omega)
        rw [List.length_append, List.length_singleton] at this
        rw [show dn ++ qI (a :: (scanG (nrV r) a 0 n out q).2) = dn ++ [(a : Int)] ++ qI (scanG (nrV r) a 0 n out q).2 by simp [qI]]
        exact this

theorem specD_l0 {k n i : Nat} {r : Int} {q : List Int} (hn : n ≤ 6) (hi : i < n) : ∀ (d j m : Nat), j + d = n → d < m →
    spec_l09Distances.l0 k m i n r (List.replicate j (-1) ++ List.replicate d 0) q n j = spec_l09Distances.l1 k k n r ((List.replicate n (-1)).set i 0) q 0 := by
  intro d
  induction d with
  | zero =>
    intro j m hd hm
    cases m with
    | zero => omega
    | succ m =>
      simp only [spec_l09Distances.l0, spec_l09Distances.s0]
      rw [if_neg (by omega), if_pos (by omega), if_pos (by simp; omega)]
      obtain rfl : j = n := hd
      simp
  | succ d ih =>
    intro j m hd hm
    cases m with
    | zero => omega
    | succ m =>
      simp only [spec_l09Distances.l0, spec_l09Distances.s0]
      rw [if_pos (by omega), if_pos (by omega), if_pos (by simp; omega), w64n (by omega), Int.toNat_natCast]
      have e : List.set (List.replicate j (-1 : Int) ++ List.replicate (d + 1) (0 : Int)) j (-1) = List.replicate (j + 1) (-1 : Int) ++ List.replicate d (0 : Int) := by
        rw [List.set_append_right _ _ (by simp), List.length_replicate, Nat.sub_self, List.replicate_succ, List.set_cons_zero, List.replicate_succ', List.append_assoc]; rfl
      rw [e]
      exact ih (j + 1) m (by omega) (by omega)

theorem spec_dist_f {k n i : Nat} {r : Int} (hk : 2097152 ≤ k) (hn : n ≤ 6) (hi : i < n) : spec_l09Distances.f k n r i = some (dst (nrV r) n i) := by
  unfold spec_l09Distances.f spec_l09Distances.g
  rw [if_pos (by omega), if_pos (Int.le_refl _), if_pos (by omega), List.length_replicate, Int.toNat_natCast]
  have e := specD_l0 (k := k) (r := r) (q := [(i : Int)]) hn hi n 0 k (by omega) (by omega)
  rw [List.replicate_zero, List.nil_append, Int.natCast_zero] at e
  rw [e]
  have := ng_start hi
  exact specD_l1 hk hn (n + 1) k _ [i] [] (by simp only [List.length_singleton]; omega) (by omega) (bs_start hi) (by simp only [List.length_singleton, List.length_nil]; omega)

end Go.Proofs.Ytcbhhbkghbnljaa.Vf
