/- Routes: what program and reference give. -/
import Derived.Test.YtcbhhbkghbnljaaQWaits
import Derived.Test.YtcbhhbkghbnljaaQ09r
set_option linter.unusedVariables false
set_option linter.unusedSimpArgs false
namespace Go.Proofs.Ytcbhhbkghbnljaa.Vf
open Go Go.V Go.RowKit

def turnW (p c : Int) : Bool := decide (-1 ≤ c ∧ c ≤ wrap64 (p - 1))
def turnsW (p : Int) (cs : List Int) : Bool := decide (1 ≤ cs.length ∧ cs.length ≤ 120) && cs.all (turnW p)

theorem areTurnsW {k : Nat} {l : List Int} (hk : 2097152 ≤ k) (hl : l.length ≤ 1048576) (m : Int) : impl_areTurns.f k l m = some (turnsW m l) := by
  have key : impl_areAll_int64_impl_areTurns_1.f k l m = some (l.all (turnW m)) := by
    obtain ⟨j, h1, h2⟩ := idx_run (L := slices_IndexFunc_int64_int64_impl_areAll_int64_1_impl_areTurns_1.l0 k) (p := fun x => !turnW m x) (l := l) (c := m)
      (fun n i hi => by
        simp only [slices_IndexFunc_int64_int64_impl_areAll_int64_1_impl_areTurns_1.l0, slices_IndexFunc_int64_int64_impl_areAll_int64_1_impl_areTurns_1.s0]
        rw [if_pos (by omega), if_pos (by omega), if_pos (by omega)]
        simp only [impl_areAll_int64_1_impl_areTurns_1.f, impl_areTurns_1.f, within_f, Option.bind_some, w64n (show i ≤ 9223372036854775806 by omega)]
        unfold turnW
        cases decide (-1 ≤ rd l i ∧ rd l i ≤ wrap64 (m - 1)) <;> simp)
      (fun n => by
        simp only [slices_IndexFunc_int64_int64_impl_areAll_int64_1_impl_areTurns_1.l0, slices_IndexFunc_int64_int64_impl_areAll_int64_1_impl_areTurns_1.s0]
        rw [if_neg (by omega)]) l.length 0 k (by omega) (by omega) (by omega)
    unfold impl_areAll_int64_impl_areTurns_1.f slices_ContainsFunc_int64_int64_impl_areAll_int64_1_impl_areTurns_1.f slices_IndexFunc_int64_int64_impl_areAll_int64_1_impl_areTurns_1.f slices_IndexFunc_int64_int64_impl_areAll_int64_1_impl_areTurns_1.g
    rw [show slices_IndexFunc_int64_int64_impl_areAll_int64_1_impl_areTurns_1.l0 k k l m l.length 0 = some j from h1, Option.bind_some, Option.bind_some]
    rw [List.drop_zero] at h2
    congr 1
    exact all_iff (p := fun x => !turnW m x) (fun _ => rfl) h2
  unfold impl_areTurns.f turnsW
  rw [length_f, Option.bind_some, within_f, Option.bind_some]
  by_cases c : 1 ≤ l.length ∧ l.length ≤ 120
  · rw [if_pos (decide_eq_true (by omega)), key, Option.bind_some, decide_eq_true c, Bool.true_and]
  · rw [if_neg (by simp; omega), decide_eq_false c, Bool.false_and]

theorem l01TurnsW {k : Nat} {l : List Int} (hk : 2097152 ≤ k) (hl : l.length ≤ 1048576) (m : Int) : spec_l01Turns.f k l m = some (turnsW m l) := by
  have key : ∀ (d i n : Nat), l.length - i = d → i ≤ l.length → d < n → spec_l01Turns.l0 k n l m i = some (decide (1 ≤ l.length ∧ l.length ≤ 120) && (l.drop i).all (turnW m)) := by
    intro d
    induction d with
    | zero =>
      intro i n hd hi hn
      cases n with
      | zero => omega
      | succ n =>
        simp only [spec_l01Turns.l0, spec_l01Turns.s0]
        rw [if_neg (by omega), l01In_f, Option.bind_some, List.drop_eq_nil_of_le (by omega), List.all_nil, Bool.and_true]
        congr 1
        rw [decide_eq_decide]; omega
    | succ d ih =>
      intro i n hd hi hn
      cases n with
      | zero => omega
      | succ n =>
        simp only [spec_l01Turns.l0, spec_l01Turns.s0]
        rw [w64n (by omega), if_pos (by omega), if_pos (by omega), if_pos (by omega), l01In_f, Option.bind_some, drop_cons (by omega), List.all_cons, ih (i + 1) n (by omega) (by omega) (by omega)]
        unfold turnW
        by_cases c : -1 ≤ rd l i ∧ rd l i ≤ wrap64 (m - 1)
        · rw [if_pos (decide_eq_true c), decide_eq_true c, Bool.true_and]
        · rw [if_neg (by simpa using c), decide_eq_false c, Bool.false_and, Bool.and_false]
  unfold spec_l01Turns.f spec_l01Turns.g
  exact key l.length 0 k (by omega) (by omega) (by omega)

/-- The slot behind one, round the turns. -/
def sc (n i : Nat) : Nat := (i + 1) % n
theorem sc_lt {n i : Nat} (h : 1 ≤ n) : sc n i < n := Nat.mod_lt _ h
theorem sc_eq {n i : Nat} (h : i < n) : sc n i = if i + 1 < n then i + 1 else 0 := by
  unfold sc
  by_cases c : i + 1 < n
  · rw [if_pos c, Nat.mod_eq_of_lt c]
  · rw [if_neg c, show i + 1 = n by omega, Nat.mod_self]
theorem sc_mod (n i : Nat) : Int.tmod ((i + 1 : Nat) : Int) (n : Int) = ((sc n i : Nat) : Int) := by
  rw [Int.tmod_eq_emod_of_nonneg (by omega)]
  exact (Int.natCast_emod _ _).symm

noncomputable def routeB (r : Int) (cs : List Int) (i : Nat) : Bool := decide (0 ≤ rd cs i) && (decide (0 ≤ rd cs (sc cs.length i : Nat)) && nearV r (rd cs i) (rd cs (sc cs.length i : Nat)))
noncomputable def routeF (r : Int) (cs : List Int) : Nat → Nat → Bool
  | _, 0 => true
  | i, d + 1 => routeB r cs i && routeF r cs (i + 1) d
theorem routeF_iff {r : Int} {cs : List Int} : ∀ {d i : Nat}, routeF r cs i d = true ↔ ∀ t : Nat, i ≤ t → t < i + d → routeB r cs t = true
  | 0, i => by simp only [routeF, true_iff]; intro t h1 h2; omega
  | d + 1, i => by
    simp only [routeF, Bool.and_eq_true]
    rw [routeF_iff (d := d)]
    constructor
    · rintro ⟨h1, h2⟩ t h3 h4
      by_cases e : t = i
      · rw [e]; exact h1
      · exact h2 t (by omega) (by omega)
    · intro h
      exact ⟨h i (by omega) (by omega), fun t h1 h2 => h t (by omega) (by omega)⟩

theorem turnsW_el {p : Int} {cs : List Int} (h1 : 1 ≤ p) (h2 : p ≤ 6) (h : turnsW p cs = true) : (1 ≤ cs.length ∧ cs.length ≤ 120) ∧ ∀ i : Nat, i < cs.length → -1 ≤ rd cs i ∧ rd cs i < p := by
  unfold turnsW at h
  rw [Bool.and_eq_true] at h
  refine ⟨of_decide_eq_true h.1, fun i hi => ?_⟩
  have := of_decide_eq_true (List.all_eq_true.1 h.2 _ (rd_mem hi))
  rw [w64 (x := p - 1) (by omega) (by omega)] at this
  omega

theorem spec_route_f {k : Nat} {p r : Int} {cs : List Int} (hk : 2097152 ≤ k) (h1 : 1 ≤ p) (h2 : p ≤ 6) (h : turnsW p cs = true) : spec_l09Route.f k p r cs = some (routeF r cs 0 cs.length) := by
  obtain ⟨hl, he⟩ := turnsW_el h1 h2 h
  have key : ∀ (d i n : Nat), cs.length - i = d → i ≤ cs.length → d < n → spec_l09Route.l0 k n cs p r cs.length i = some (routeF r cs i d) := by
    intro d
    induction d with
    | zero =>
      intro i n hd hi hn
      cases n with
      | zero => omega
      | succ n =>
        simp only [spec_l09Route.l0, spec_l09Route.s0]
        rw [if_neg (by omega)]; rfl
    | succ d ih =>
      intro i n hd hi hn
      cases n with
      | zero => omega
      | succ n =>
        have hs := sc_lt (n := cs.length) (i := i) hl.1
        have b1 := he i (by omega)
        have b2 := he (sc cs.length i) hs
        simp only [spec_l09Route.l0, spec_l09Route.s0]
        rw [w64n (by omega), sc_mod, if_pos (by omega), if_neg (by omega), if_pos (by omega), if_pos (by omega), if_pos (by omega), if_pos (by omega), ih (i + 1) n (by omega) (by omega) (by omega)]
        simp only [routeF]
        unfold routeB
        by_cases c1 : rd cs i < 0
        · rw [if_pos c1, decide_eq_false (by omega), Bool.false_and, Bool.false_and]
        · rw [if_neg c1, decide_eq_true (show 0 ≤ rd cs i by omega), Bool.true_and]
          by_cases c2 : rd cs (sc cs.length i : Nat) < 0
          · rw [if_pos c2, decide_eq_false (by omega), Bool.false_and, Bool.false_and]
          · rw [if_neg c2, decide_eq_true (show 0 ≤ rd cs (sc cs.length i : Nat) by omega), Bool.true_and, if_pos (by omega), if_pos (by omega), (near_ok (p := p) (r := r) (a := rd cs i) (b := rd cs (sc cs.length i : Nat)) (by omega) (by omega) (by omega) (by omega)).1, Option.bind_some]
            cases nearV r (rd cs i) (rd cs (sc cs.length i : Nat)) <;> simp
  unfold spec_l09Route.f spec_l09Route.g
  exact key cs.length 0 k (by omega) (by omega) (by omega)

theorem contains_f {k : Nat} {l : List Int} (hk : 2097152 ≤ k) (hl : l.length ≤ 1048576) (a : Int) : ∃ b, slices_Contains_int64_int64.f k l a = some b ∧ (b = true ↔ ∃ x ∈ l, x = a) := by
  obtain ⟨j, h1, h2⟩ := idx_run (L := slices_Index_int64_int64.l0 k) (p := fun x => decide (a = x)) (l := l) (c := a)
    (fun n i hi => by
      simp only [slices_Index_int64_int64.l0, slices_Index_int64_int64.s0]
      rw [if_pos (by omega), if_pos (by omega), if_pos (by omega), w64n (by omega)]
      by_cases c : a = rd l i
      · rw [if_pos c, if_pos (decide_eq_true c)]
      · rw [if_neg c, if_neg (by simpa using c)])
    (fun n => by
      simp only [slices_Index_int64_int64.l0, slices_Index_int64_int64.s0]
      rw [if_neg (by omega)]) l.length 0 k (by omega) (by omega) (by omega)
  unfold slices_Contains_int64_int64.f slices_Index_int64_int64.f slices_Index_int64_int64.g
  rw [show slices_Index_int64_int64.l0 k k l a l.length 0 = some j from h1, Option.bind_some]
  refine ⟨_, rfl, ?_⟩
  rw [decide_eq_true_eq, h2, List.drop_zero]
  constructor
  · rintro ⟨x, hx, e⟩; exact ⟨x, hx, (of_decide_eq_true e).symm⟩
  · rintro ⟨x, hx, e⟩; exact ⟨x, hx, decide_eq_true e.symm⟩

theorem impl_isroute_f {k : Nat} {p r : Int} {cs : List Int} (hk : 2097152 ≤ k) (h1 : 1 ≤ p) (h2 : p ≤ 6) (h : turnsW p cs = true) : impl_Ground_isRoute.f k p r cs = some (routeF r cs 0 cs.length) := by
  obtain ⟨hl, he⟩ := turnsW_el h1 h2 h
  obtain ⟨b, e1, e2⟩ := contains_f (k := k) (l := cs) hk (by omega) (-1)
  unfold impl_Ground_isRoute.f impl_Ground_isRoute.g
  rw [e1, Option.bind_some]
  by_cases hb : b = true
  · rw [if_pos hb]
    obtain ⟨x, hx, e⟩ := e2.1 hb
    obtain ⟨i, hi, e3⟩ := List.getElem_of_mem hx
    have hr : rd cs i = -1 := by rw [rd_lt hi, e3, e]
    cases hR : routeF r cs 0 cs.length with
    | false => rfl
    | true =>
      have := routeF_iff.1 hR i (by omega) (by omega)
      unfold routeB at this
      rw [hr, decide_eq_false (by omega), Bool.false_and] at this
      cases this
  · rw [if_neg hb]
    have hpos : ∀ i : Nat, i < cs.length → 0 ≤ rd cs i := by
      intro i hi
      have b1 := he i hi
      have : rd cs i ≠ -1 := fun e => hb (e2.2 ⟨_, rd_mem hi, e⟩)
      omega
    have key : ∀ (d i n : Nat), cs.length - i = d → i ≤ cs.length → d < n → impl_Ground_isRoute.l0 k n cs p r cs cs.length i = some (routeF r cs i d) := by
      intro d
      induction d with
      | zero =>
        intro i n hd hi hn
        cases n with
        | zero => omega
        | succ n =>
          simp only [impl_Ground_isRoute.l0, impl_Ground_isRoute.s0]
          rw [if_neg (by omega)]; rfl
      | succ d ih =>
        intro i n hd hi hn
        cases n with
        | zero => omega
        | succ n =>
          have hs := sc_lt (n := cs.length) (i := i) hl.1
          have b1 := he i (by omega)
          have b2 := he (sc cs.length i) hs
          have c1 := hpos i (by omega)
          have c2 := hpos (sc cs.length i) hs
          simp only [impl_Ground_isRoute.l0, impl_Ground_isRoute.s0]
          rw [w64n (by omega), sc_mod, if_pos (by omega), if_pos (by omega), if_pos (by omega), if_neg (by omega), if_pos (by omega), if_pos (by omega), (near_ok (p := p) (r := r) (a := rd cs i) (b := rd cs (sc cs.length i : Nat)) (by omega) (by omega) (by omega) (by omega)).2, Option.bind_some, ih (i + 1) n (by omega) (by omega) (by omega)]
          simp only [routeF]
          unfold routeB
          rw [decide_eq_true c1, decide_eq_true c2, Bool.true_and, Bool.true_and]
          cases nearV r (rd cs i) (rd cs (sc cs.length i : Nat)) <;> simp
    exact key cs.length 0 k (by omega) (by omega) (by omega)

noncomputable def isRouteR (p r : Int) (cs : List Int) : Bool × Int := if isGr p r = true then (if turnsW p cs = true then (routeF r cs 0 cs.length, 0) else (false, 2)) else (false, 1)

theorem spec_IsRoute_f {k : Nat} {p r : Int} {cs : List Int} (hk : 2097152 ≤ k) (hl : cs.length ≤ 1048576) : spec_IsRoute.f k p r cs = some (isRouteR p r cs) := by
  unfold spec_IsRoute.f isRouteR
  rw [(ground_ok p r).1, Option.bind_some]
  by_cases h : isGr p r = true
  · have hp := (ground_ok p r).2.2 h
    rw [if_neg (by simp [h]), if_pos h, l01TurnsW hk hl, Option.bind_some]
    by_cases h2 : turnsW p cs = true
    · rw [if_neg (by simp [h2]), if_pos h2, spec_route_f hk hp.1 hp.2 h2, Option.bind_some]
    · rw [if_pos (by simpa using h2), if_neg h2]
  · rw [if_pos (by simpa using h), if_neg h]

theorem impl_IsRoute_f {k : Nat} {p r : Int} {cs : List Int} (hk : 2097152 ≤ k) (hl : cs.length ≤ 1048576) : impl_IsRoute.f k p r cs = some (isRouteR p r cs) := by
  unfold impl_IsRoute.f impl_groundCode.f isRouteR
  rw [areTurnsW hk hl, Option.bind_some, (ground_ok p r).2.1, Option.bind_some]
  by_cases h : isGr p r = true
  · have hp := (ground_ok p r).2.2 h
    rw [if_neg (by simp [h]), if_pos h]
    by_cases h2 : turnsW p cs = true
    · rw [if_neg (by simp [h2]), if_pos h2, Option.bind_some, if_pos rfl, impl_isroute_f hk hp.1 hp.2 h2, Option.bind_some]
    · rw [if_pos (by simpa using h2), if_neg h2]; rfl
  · rw [if_pos (by simpa using h), if_neg h]; rfl

noncomputable def routeServesR (p r : Int) (G cs : List Int) : Bool × Int := if isGr p r = true then (if isT G = true then (if (G.length : Int) = p then (if turnsW p cs = true then (routeF r cs 0 cs.length && servB G cs 0 G.length, 0) else (false, 2)) else (false, 2)) else (false, 1)) else (false, 1)

theorem spec_RouteServes_f {k : Nat} {p r : Int} {G cs : List Int} (hk : 2097152 ≤ k) (hG : G.length ≤ 1048576) (hl : cs.length ≤ 1048576) : spec_RouteServes.f k p r G cs = some (routeServesR p r G cs) := by
  unfold spec_RouteServes.f routeServesR
  rw [(ground_ok p r).1, Option.bind_some]
  by_cases h : isGr p r = true
  · have hp := (ground_ok p r).2.2 h
    rw [if_pos h, if_pos h, l01Is_f hk hG, Option.bind_some]
    by_cases ht : isT G = true
    · rw [if_neg (by simp [ht]), if_pos ht, l01K_f, Option.bind_some]
      by_cases hlen : (G.length : Int) = p
      · rw [if_pos hlen, if_pos hlen, l01TurnsW hk hl, Option.bind_some]
        by_cases h2 : turnsW p cs = true
        · rw [if_neg (by simp [h2]), if_pos h2, spec_route_f hk hp.1 hp.2 h2, Option.bind_some, spec_serves_f hk hG hl, Option.bind_some]
          cases routeF r cs 0 cs.length <;> simp
        · rw [if_pos (by simpa using h2), if_neg h2]
      · rw [if_neg hlen, if_neg hlen]
    · rw [if_pos (by simpa using ht), if_neg ht]
  · rw [if_neg h, if_neg h]

theorem impl_RouteServes_f {k : Nat} {p r : Int} {G cs : List Int} (hk : 2097152 ≤ k) (hG : G.length ≤ 1048576) (hl : cs.length ≤ 1048576) : impl_RouteServes.f k p r G cs = some (routeServesR p r G cs) := by
  unfold impl_RouteServes.f impl_bothCode.f routeServesR
  rw [areTurnsW hk hl, Option.bind_some, (ground_ok p r).2.1, Option.bind_some]
  by_cases h : isGr p r = true
  · have hp := (ground_ok p r).2.2 h
    rw [if_pos h, if_pos h, isTasks_f hk hG, Option.bind_some]
    by_cases ht : isT G = true
    · rw [if_neg (by simp [ht]), if_pos ht]
      by_cases h2 : turnsW p cs = true
      · rw [if_pos h2, if_pos h2, many_f, Option.bind_some]
        by_cases hlen : (G.length : Int) = p
        · rw [if_neg (by simp [hlen]), if_pos hlen, Option.bind_some, if_pos rfl, impl_isroute_f hk hp.1 hp.2 h2, Option.bind_some, impl_serves_f hk hG hl, Option.bind_some]
          cases routeF r cs 0 cs.length <;> simp
        · rw [if_pos (by simpa using hlen), if_neg hlen]; rfl
      · rw [if_neg h2, if_neg h2]
        by_cases hlen : (G.length : Int) = p
        · rw [if_pos hlen]; rfl
        · rw [if_neg hlen]; rfl
    · rw [if_pos (by simpa using ht), if_neg ht]; rfl
  · rw [if_neg h, if_neg h]; rfl

end Go.Proofs.Ytcbhhbkghbnljaa.Vf
