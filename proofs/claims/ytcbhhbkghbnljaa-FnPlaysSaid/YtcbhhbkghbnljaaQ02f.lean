/- The fewest slots. -/
import Derived.Test.YtcbhhbkghbnljaaQ02w
set_option linter.unusedVariables false
set_option linter.unusedSimpArgs false
namespace Go.Proofs.Ytcbhhbkghbnljaa.Vf
open Go Go.V Go.RowKit

theorem spec_bfs {k : Nat} {G : List Int} (hk : 2097152 ≤ k) (h : isT G = true) (hc : cnt G ≤ 4000) {fr : Int} (hf : Las G fr) : ∀ (m n0 n : Nat) (front : List Int) (i : Nat) (nxt : List Int) (seen : List Bool) (rn : Nat) (r : Int), m ≤ n0 → m ≤ n → i ≤ front.length → front.length ≤ 100000 →
    (∀ x ∈ front, Las G x) → (∀ x ∈ nxt, Las G x) → (seen.length : Int) = cnt G → nxt.length + falses seen ≤ 100000 → rn + m ≤ 1000000 → bfs G fr m (front.drop i) nxt seen (rn : Int) = some r →
      spec_l02Back.l1 k (spec_l02Back.l0 k n0) n (lasting G) fr G seen front rn nxt i = some r
  | 0, n0, n, front, i, nxt, seen, rn, r, _, _, _, _, _, _, _, _, _, e => by simp [bfs] at e
  | m + 1, n0, n, front, i, nxt, seen, rn, r, h0, hn, hi, hfl, hfr, hnx, hs, hq, hr, e => by
    cases n with
    | zero => omega
    | succ n =>
      have hlen := isT_len h
      simp only [spec_l02Back.l1, spec_l02Back.s1]
      by_cases hif : i < front.length
      · have hv := hfr _ (rd_mem hif)
        have hv0 := hv.v0; have hv1 := hv.v1
        rw [drop_cons hif] at e
        simp only [bfs] at e
        rw [if_pos (by omega), if_pos (by omega), if_pos (by omega), l02Of_f hk h hv0 (by omega), Option.bind_some]
        have hin := spec_inn (front := front) (round := (rn : Int)) (i := i) (r0 := spec_l02Back.l0 k n0) (r1 := spec_l02Back.l1 k (spec_l02Back.l0 k n0) n) hk h hc hv hf (by omega) (G.length + 1) 0 k seen nxt (by omega) (by omega) (by omega) hs hq
        refine Eq.trans hin ?_
        have hkeep : (chsF 0 (G.length + 1)).filter (goodC G (lasting G) (rd front i)) = keep G (lasting G) (rd front i) := by rw [keep, chs_eq]
        rw [hkeep]
        cases hp : inn G fr (rd front i) (keep G (lasting G) (rd front i)) seen nxt with
        | none => rw [hp] at e; exact e
        | some p =>
          rw [hp] at e
          obtain ⟨q1, q2, q3, q4, q5, q6, q7⟩ := inn_ok h hv _ _ _ _ (fun c hc => hc) hs hp
          exact spec_bfs hk h hc hf m n0 n front (i + 1) p.2 p.1 rn r (by omega) (by omega) (by omega) hfl hfr (fun x hx => by
            rcases q5 x hx with hx | ⟨c, hc1, rfl⟩
            · exact hnx x hx
            · exact (keep_las h hv hc1).1) (by rw [q1]; exact hs) (by omega) (by omega) e
      · rw [List.drop_eq_nil_of_le (by omega)] at e
        simp only [bfs] at e
        rw [if_neg (by omega), w64 (by omega) (by omega)]
        cases n0 with
        | zero => omega
        | succ n0 =>
          simp only [spec_l02Back.l0, spec_l02Back.s0]
          by_cases hnil : nxt = []
          · rw [if_pos hnil] at e
            rw [hnil, if_neg (by simp)]
            exact e
          · rw [if_neg hnil] at e
            have hpos : 0 < nxt.length := List.length_pos_iff.2 hnil
            rw [if_pos (by omega)]
            have := spec_bfs hk h hc hf m n0 k nxt 0 [] seen (rn + 1) r (by omega) (by omega) (by omega) (by omega) hnx (fun x hx => by simp at hx) hs (by simp; omega) (by omega) (by rw [List.drop_zero, show ((rn + 1 : Nat) : Int) = (rn : Int) + 1 by omega]; exact e)
            rw [show ((rn + 1 : Nat) : Int) = (rn : Int) + 1 by omega] at this
            exact this

theorem l02Back_f {k : Nat} {G : List Int} (hk : 2097152 ≤ k) (h : isT G = true) (hc : cnt G ≤ 4000) {fr : Int} (hf : Las G fr) : ∃ r, spec_l02Back.f k G (lasting G) fr = some r ∧ Found G fr r := by
  obtain ⟨r, e, hr⟩ := bfs_start h hc hf
  refine ⟨r, ?_, hr⟩
  have hp := cnt_pos (isT_gp h)
  have hL := lasting_len h hc
  have hfl := falses_rep (cnt G).toNat
  unfold spec_l02Back.f spec_l02Back.g
  rw [if_pos (by omega), if_pos (by omega), if_pos (by omega), show ((lasting G).length : Int).toNat = (cnt G).toNat by omega]
  cases k with
  | zero => omega
  | succ k =>
    show spec_l02Back.l0 (k + 1) (k + 1) _ _ _ _ _ _ = _
    conv => lhs; unfold spec_l02Back.l0
    unfold spec_l02Back.s0
    rw [if_pos (by simp)]
    exact spec_bfs (k := k + 1) hk h hc hf 8005 k (k + 1) [fr] 0 [] _ 1 r (by omega) (by omega) (by omega) (by simp) (fun x hx => by rw [List.mem_singleton] at hx; rw [hx]; exact hf) (fun x hx => by simp at hx) (by simp; omega) (by simp; omega) (by omega) e

/-! ### The program's -/

structure FarI (G : List Int) (fr : Int) (far : List (Int × Int)) (seen : List Bool) : Prop where
  kn : ∀ x : Int, 0 ≤ x → x < cnt G → ((mgI far x).isSome = true ↔ (x = fr ∨ seen.getD x.toNat false = true))

theorem impl_inn {k : Nat} {G : List Int} {fr v : Int} {cur : List Int} {rn : Nat} (hk : 2097152 ≤ k) (h : isT G = true) (hc : cnt G ≤ 4000) (hv : Las G v) (hrn : 1 ≤ rn) (hrn2 : rn ≤ 1000000) {kp : List Int} (hkp : ∀ c ∈ kp, c ∈ keep G (lasting G) v) (hkl : kp.length ≤ 100)
    {r0 : ((List Int) × (List (List (Int × Int))) × (List Bool)) → Int → (List (Int × Int)) → (List Int) → Option (Int)} :
    ∀ (d i n : Nat) (far : List (Int × Int)) (seen : List Bool) (nxt : List Int), kp.length - i = d → i ≤ kp.length → d < n → (seen.length : Int) = cnt G → cur.length + nxt.length + falses seen ≤ 100000 → FarI G fr far seen → mgI far v = some ((rn : Int) - 1) →
      (inn G fr v (kp.drop i) seen nxt = none → impl_graph_back.l1 k r0 n (G, nxs G (lasting G).length, lasting G) fr far (v :: (cur ++ nxt)) v kp kp.length i = some (rn : Int)) ∧
      (∀ p, inn G fr v (kp.drop i) seen nxt = some p → ∃ far', FarI G fr far' p.1 ∧ (∀ x y, mgI far x = some y → mgI far' x = some y) ∧ (∀ x ∈ p.2, x ∈ nxt ∨ mgI far' x = some (rn : Int)) ∧
        impl_graph_back.l1 k r0 n (G, nxs G (lasting G).length, lasting G) fr far (v :: (cur ++ nxt)) v kp kp.length i = r0 (G, nxs G (lasting G).length, lasting G) fr far' (cur ++ p.2)) := by
  have hL := lasting_len h hc
  have hv0 := hv.v0; have hv1 := hv.v1
  have hnl : (nxs G (lasting G).length).length = (lasting G).length := by simp [nxs]
  have hnx : rdOf ([] : List (Int × Int)) (nxs G (lasting G).length) v = nx G v := by
    have := rdOf_nxs (G := G) (m := (lasting G).length) (i := v.toNat) (by omega)
    rwa [show ((v.toNat : Nat) : Int) = v by omega] at this
  intro d
  induction d with
  | zero =>
    intro i n far seen nxt hd hi hn hs hq F hfv
    cases n with
    | zero => omega
    | succ n =>
      rw [List.drop_eq_nil_of_le (by omega)]
      simp only [inn, impl_graph_back.l1, impl_graph_back.s1]
      refine ⟨fun e => (by cases e), fun p e => ?_⟩
      cases e
      refine ⟨far, F, fun x y hx => hx, fun x hx => .inl hx, ?_⟩
      rw [if_neg (by omega), if_pos (by simp; omega), if_pos (by omega)]
      rfl
  | succ d ih =>
    intro i n far seen nxt hd hi hn hs hq F hfv
    cases n with
    | zero => omega
    | succ n =>
      have hi' : i < kp.length := by omega
      obtain ⟨hlt, T, hT, hTs, et, hm⟩ := keep_las h hv (hkp _ (rd_mem hi'))
      have t0 := hlt.v0; have t1 := hlt.v1
      have hm' : mgI (nx G v) (rd kp i) = some (tgt G v (rd kp i)) := by rw [et]; exact hm
      have el : ∀ Q : List Int, impl_graph_back.l1 k r0 (n + 1) (G, nxs G (lasting G).length, lasting G) fr far Q v kp kp.length i = if tgt G v (rd kp i) = fr then some ((rn : Int) - 1 + 1) else if (mgI far (tgt G v (rd kp i))).isSome = true then impl_graph_back.l1 k r0 n (G, nxs G (lasting G).length, lasting G) fr far Q v kp kp.length ((i + 1 : Nat) : Int) else if Q.length + 1 ≤ 1099511627776 then impl_graph_back.l1 k r0 n (G, nxs G (lasting G).length, lasting G) fr (mpI far (tgt G v (rd kp i)) ((rn : Int) - 1 + 1)) (Q ++ [tgt G v (rd kp i)]) v kp kp.length ((i + 1 : Nat) : Int) else none := by
        intro Q
        simp only [impl_graph_back.l1, impl_graph_back.s1]
        rw [if_pos (by omega), if_pos (by omega), if_pos (by omega), if_pos hv0, if_pos (by omega), hnx, hm', Option.getD_some, hfv, Option.getD_some, w64 (x := (rn : Int) - 1 + 1) (by omega) (by omega), w64n (by omega)]
      rw [drop_cons hi', el]
      simp only [inn]
      by_cases hfr : tgt G v (rd kp i) = fr
      · rw [if_pos hfr, if_pos hfr]
        exact ⟨fun _ => (by congr 1; omega), fun p e => (by cases e)⟩
      · rw [if_neg hfr, if_neg hfr]
        by_cases hse : seen.getD (tgt G v (rd kp i)).toNat false = true
        · rw [if_pos hse, if_pos ((F.kn _ t0 t1).2 (.inr hse))]
          exact ih (i + 1) n far seen nxt (by omega) (by omega) (by omega) hs hq F hfv
        · have hno : ¬ (mgI far (tgt G v (rd kp i))).isSome = true := fun q => by
            rcases (F.kn _ t0 t1).1 q with q | q
            · exact hfr q
            · exact hse q
          have hnone : mgI far (tgt G v (rd kp i)) = none := by
            cases hmm : mgI far (tgt G v (rd kp i)) with
            | none => rfl
            | some y => rw [hmm] at hno; exact absurd rfl hno
          have hfs := falses_set (l := seen) (i := (tgt G v (rd kp i)).toNat) (by omega) (by simpa using hse)
          rw [if_neg hse, if_neg hno, if_pos (by simp; omega)]
          have hset : ∀ x : Int, 0 ≤ x → ((seen.set (tgt G v (rd kp i)).toNat true).getD x.toNat false = true ↔ (x = tgt G v (rd kp i) ∨ seen.getD x.toNat false = true)) := by
            intro x hx
            rw [List.getD_eq_getElem?_getD, List.getElem?_set]
            by_cases ei : (tgt G v (rd kp i)).toNat = x.toNat
            · rw [if_pos ei, if_pos (by omega)]
              have : x = tgt G v (rd kp i) := by omega
              simp [this]
            · rw [if_neg ei, ← List.getD_eq_getElem?_getD]
              constructor
              · exact fun q => .inr q
              · rintro (q | q)
                · exact absurd (by rw [q]) ei
                · exact q
          have keepF : ∀ x y, mgI far x = some y → mgI (mpI far (tgt G v (rd kp i)) ((rn : Int) - 1 + 1)) x = some y := fun x y hx => by
            rw [mgI_mpI, if_neg (fun e => by rw [e, hnone] at hx; cases hx)]; exact hx
          obtain ⟨a1, a2⟩ := ih (i + 1) n (mpI far (tgt G v (rd kp i)) ((rn : Int) - 1 + 1)) (seen.set (tgt G v (rd kp i)).toNat true) (nxt ++ [tgt G v (rd kp i)]) (by omega) (by omega) (by omega) (by simpa using hs) (by simp; omega) ⟨fun x hx0 hx1 => by
            rw [mgI_mpI, hset x hx0]
            by_cases ex : x = tgt G v (rd kp i)
            · rw [if_pos ex]; simp [ex]
            · rw [if_neg ex, F.kn x hx0 hx1]; simp [ex]⟩ (keepF _ _ hfv)
          have eq : v :: (cur ++ (nxt ++ [tgt G v (rd kp i)])) = (v :: (cur ++ nxt)) ++ [tgt G v (rd kp i)] := by simp
          rw [eq] at a1 a2
          refine ⟨a1, fun p e => ?_⟩
          obtain ⟨far', b1, b2, b3, b4⟩ := a2 p e
          refine ⟨far', b1, fun x y hx => b2 x y (keepF x y hx), fun x hx => ?_, b4⟩
          rcases b3 x hx with hx | hx
          · rcases List.mem_append.1 hx with hx | hx
            · exact .inl hx
            · right
              rw [List.mem_singleton] at hx
              rw [hx]
              refine b2 _ _ ?_
              rw [mgI_mpI, if_pos rfl]
              congr 1; omega
          · exact .inr hx

theorem impl_bfs {k : Nat} {G : List Int} (hk : 2097152 ≤ k) (h : isT G = true) (hc : cnt G ≤ 4000) {fr : Int} (hf : Las G fr) : ∀ (m n : Nat) (cur nxt : List Int) (seen : List Bool) (rn : Nat) (r : Int) (far : List (Int × Int)), m ≤ n → 1 ≤ rn →
    (∀ x ∈ cur, Las G x ∧ mgI far x = some ((rn : Int) - 1)) → (∀ x ∈ nxt, Las G x ∧ mgI far x = some (rn : Int)) → (seen.length : Int) = cnt G → cur.length + nxt.length + falses seen ≤ 100000 → rn + m ≤ 1000000 → FarI G fr far seen → bfs G fr m cur nxt seen (rn : Int) = some r →
      impl_graph_back.l0 k n (G, nxs G (lasting G).length, lasting G) fr far (cur ++ nxt) = some r
  | 0, n, cur, nxt, seen, rn, r, far, _, _, _, _, _, _, _, _, e => by simp [bfs] at e
  | m + 1, n, v :: cur, nxt, seen, rn, r, far, hn, hr1, hcu, hnx, hs, hq, hr, F, e => by
    cases n with
    | zero => omega
    | succ n =>
      obtain ⟨hv, hfv⟩ := hcu v (by simp)
      have hv0 := hv.v0; have hv1 := hv.v1
      have hlen := isT_len h
      have hL := lasting_len h hc
      have hkp := keeping_f (k := k) (G := G) (L := lasting G) (v := v.toNat) hk h hL (by omega)
      rw [show ((v.toNat : Nat) : Int) = v by omega] at hkp
      have hkl := keep_len G (lasting G) v
      have h0 : rd ((v :: cur) ++ nxt) 0 = v := rfl
      simp only [List.length_cons] at hq
      simp only [bfs] at e
      simp only [impl_graph_back.l0, impl_graph_back.s0]
      rw [h0, if_pos (by simp; omega), if_pos (by simp; omega), hkp, Option.bind_some]
      obtain ⟨a1, a2⟩ := impl_inn (cur := cur) (rn := rn) (kp := keep G (lasting G) v) (r0 := impl_graph_back.l0 k n) (fr := fr) hk h hc hv hr1 (by omega) (fun c hc => hc) (by omega) (keep G (lasting G) v).length 0 k far seen nxt (by omega) (by omega) (by omega) hs (by omega) F hfv
      rw [List.drop_zero] at a1 a2
      cases hp : inn G fr v (keep G (lasting G) v) seen nxt with
      | none => rw [hp] at e; exact (a1 hp).trans e
      | some p =>
        rw [hp] at e
        obtain ⟨far', b1, b2, b3, b4⟩ := a2 p hp
        obtain ⟨q1, q2, q3, q4, q5, q6, q7⟩ := inn_ok h hv _ _ _ _ (fun c hc => hc) hs hp
        refine b4.trans ?_
        exact impl_bfs hk h hc hf m n cur p.2 p.1 rn r far' (by omega) hr1 (fun x hx => by
          obtain ⟨c1, c2⟩ := hcu x (by simp [hx])
          exact ⟨c1, b2 _ _ c2⟩) (fun x hx => by
          refine ⟨?_, ?_⟩
          · rcases q5 x hx with hx | ⟨c, hc1, rfl⟩
            · exact (hnx x hx).1
            · exact (keep_las h hv hc1).1
          · rcases b3 x hx with hx | hx
            · exact b2 _ _ (hnx x hx).2
            · exact hx) (by rw [q1]; exact hs) (by omega) (by omega) b1 e
  | m + 1, n, [], nxt, seen, rn, r, far, hn, hr1, hcu, hnx, hs, hq, hr, F, e => by
    simp only [bfs] at e
    by_cases hnil : nxt = []
    · rw [if_pos hnil] at e
      cases n with
      | zero => omega
      | succ n =>
        simp only [impl_graph_back.l0, impl_graph_back.s0]
        rw [hnil, if_neg (by simp)]; exact e
    · rw [if_neg hnil] at e
      have := impl_bfs hk h hc hf m n nxt [] seen (rn + 1) r far (by omega) (by omega) (fun x hx => ⟨(hnx x hx).1, by rw [(hnx x hx).2]; congr 1; omega⟩) (fun x hx => by simp at hx) hs (by simp at hq ⊢; omega) (by omega) F (by rw [show ((rn + 1 : Nat) : Int) = (rn : Int) + 1 by omega]; exact e)
      simpa using this

theorem back_f {k : Nat} {G : List Int} (hk : 2097152 ≤ k) (h : isT G = true) (hc : cnt G ≤ 4000) {fr : Int} (hf : Las G fr) : ∃ r, impl_graph_back.f k (G, nxs G (lasting G).length, lasting G) fr = some r ∧ Found G fr r := by
  obtain ⟨r, e, hr⟩ := bfs_start h hc hf
  refine ⟨r, ?_, hr⟩
  have hp := cnt_pos (isT_gp h)
  have hfl := falses_rep (cnt G).toNat
  unfold impl_graph_back.f impl_graph_back.g
  have := impl_bfs hk h hc hf 8005 k [fr] [] (List.replicate (cnt G).toNat false) 1 r (mpI [] fr 0) (by omega) (by omega) (fun x hx => by
    rw [List.mem_singleton] at hx
    rw [hx]
    exact ⟨hf, by rw [mpI_nil, mgI_cons, if_pos rfl]; rfl⟩) (fun x hx => by simp at hx) (by simp; omega) (by simp; omega) (by omega) ⟨fun x hx0 hx1 => by
    rw [mpI_nil, mgI_cons, mgI_nil]
    have hff : ¬ (List.replicate (cnt G).toNat false).getD x.toNat false = true := by
      rw [List.getD_eq_getElem?_getD, List.getElem?_replicate]
      split <;> simp
    by_cases ex : x = fr
    · rw [if_pos ex]; simp [ex]
    · rw [if_neg ex]
      constructor
      · intro q; cases q
      · rintro (q | q)
        · exact absurd q ex
        · exact absurd q hff⟩ e
  simpa using this

/-! ### The fewest -/

/-- The least way back among the states right behind a task's turn, up to a number. -/
def LeastAt (G : List Int) (t : Nat) (hi : Nat) (r : Int) : Prop :=
  (r = 0 ∧ ∀ n : Nat, n < hi → Las G n → Full G t n → ∀ s, 1 ≤ s → ¬ Walk G n s n) ∨
  (∃ rn : Nat, r = (rn : Int) ∧ 1 ≤ rn ∧ (∃ n, Las G n ∧ Full G t n ∧ Walk G n rn n) ∧ ∀ n : Nat, n < hi → Las G n → Full G t n → ∀ s, 1 ≤ s → s < rn → ¬ Walk G n s n)

theorem LeastAt.skip {G : List Int} {t j : Nat} {r : Int} (h : LeastAt G t j r) (hn : ¬ (Las G j ∧ Full G t j)) : LeastAt G t (j + 1) r := by
  rcases h with ⟨h1, h2⟩ | ⟨rn, h1, h2, h3, h4⟩
  · refine .inl ⟨h1, fun n hlt hl hf => ?_⟩
    by_cases e : n = j
    · subst e; exact absurd ⟨hl, hf⟩ hn
    · exact h2 n (by omega) hl hf
  · refine .inr ⟨rn, h1, h2, h3, fun n hlt hl hf => ?_⟩
    by_cases e : n = j
    · subst e; exact absurd ⟨hl, hf⟩ hn
    · exact h4 n (by omega) hl hf

theorem LeastAt.take {G : List Int} {t j : Nat} {r b : Int} (h : LeastAt G t j r) (hl : Las G j) (hf : Full G t j) (hb : Found G j b) : LeastAt G t (j + 1) (if 0 < b then (if r = 0 then b else if b < r then b else r) else r) := by
  rcases hb with ⟨b1, b2⟩ | ⟨bn, b1, b2, b3, b4⟩
  · rw [if_neg (by omega)]
    rcases h with ⟨h1, h2⟩ | ⟨rn, h1, h2, h3, h4⟩
    · refine .inl ⟨h1, fun n hlt hl hf => ?_⟩
      by_cases e : n = j
      · subst e; exact b2
      · exact h2 n (by omega) hl hf
    · refine .inr ⟨rn, h1, h2, h3, fun n hlt hl hf s hs _ => ?_⟩
      by_cases e : n = j
      · subst e; exact b2 s hs
      · exact h4 n (by omega) hl hf s hs (by omega)
  · rw [if_pos (by omega)]
    rcases h with ⟨h1, h2⟩ | ⟨rn, h1, h2, h3, h4⟩
    · rw [if_pos h1]
      refine .inr ⟨bn, b1, b2, ⟨j, hl, hf, b3⟩, fun n hlt hl hf s hs hlt2 => ?_⟩
      by_cases e : n = j
      · subst e; exact b4 s hs hlt2
      · exact h2 n (by omega) hl hf s hs
    · rw [if_neg (by omega)]
      by_cases hlt : b < r
      · rw [if_pos hlt]
        refine .inr ⟨bn, b1, b2, ⟨j, hl, hf, b3⟩, fun n hlt' hl hf s hs hlt2 => ?_⟩
        by_cases e : n = j
        · subst e; exact b4 s hs hlt2
        · exact h4 n (by omega) hl hf s hs (by omega)
      · rw [if_neg hlt]
        refine .inr ⟨rn, h1, h2, h3, fun n hlt' hl hf s hs hlt2 => ?_⟩
        by_cases e : n = j
        · subst e; exact b4 s hs (by omega)
        · exact h4 n (by omega) hl hf s hs hlt2

theorem least_same {G : List Int} (h : isT G = true) {t u M : Nat} (hM : (M : Int) = cnt G) (ht : t < G.length) (hu : u < G.length) {r q : Int} (hr : LeastAt G t M r) (hq : LeastAt G u M q) : r = q := by
  have key : ∀ {t u : Nat} {r q : Int}, t < G.length → u < G.length → LeastAt G t M r → LeastAt G u M q → r ≠ 0 → q ≠ 0 ∧ q ≤ r := by
    intro t u r q ht hu hr hq h0
    rcases hr with ⟨h1, _⟩ | ⟨rn, h1, h2, ⟨n, hl, hf, hw⟩, _⟩
    · exact absurd h1 h0
    · obtain ⟨b, hbl, hbf, hbw⟩ := Walk.turn h hl hu h2 hw
      have b0 := hbl.v0; have b1 := hbl.v1
      have eb : ((b.toNat : Nat) : Int) = b := by omega
      rcases hq with ⟨q1, q2⟩ | ⟨qn, q1, q2, _, q4⟩
      · exact absurd (by rw [eb]; exact hbw) (q2 b.toNat (by omega) (by rw [eb]; exact hbl) (by rw [eb]; exact hbf) rn h2)
      · refine ⟨by omega, ?_⟩
        by_cases hlt : rn < qn
        · exact absurd (by rw [eb]; exact hbw) (q4 b.toNat (by omega) (by rw [eb]; exact hbl) (by rw [eb]; exact hbf) rn h2 hlt)
        · omega
  by_cases h0 : r = 0
  · by_cases h1 : q = 0
    · omega
    · exact absurd h0 (key hu ht hq hr h1).1
  · obtain ⟨h1, h2⟩ := key ht hu hr hq h0
    obtain ⟨_, h3⟩ := key hu ht hq hr h1
    omega

theorem spec_few {k : Nat} {G : List Int} (hk : 2097152 ≤ k) (h : isT G = true) (hc : cnt G ≤ 4000) : ∀ (d j n : Nat) (r : Int), (lasting G).length - j = d → j ≤ (lasting G).length → d < n → LeastAt G 0 j r →
    ∃ q, spec_FewestSlots.l0 k n G (lasting G) r j = some (q, 0) ∧ LeastAt G 0 (lasting G).length q := by
  have hL := lasting_len h hc
  have hlen := isT_len h
  intro d
  induction d with
  | zero =>
    intro j n r hd hj hn hr
    cases n with
    | zero => omega
    | succ n =>
      obtain rfl : j = (lasting G).length := by omega
      refine ⟨r, ?_, hr⟩
      simp only [spec_FewestSlots.l0, spec_FewestSlots.s0]
      rw [if_neg (by omega)]
  | succ d ih =>
    intro j n r hd hj hn hr
    cases n with
    | zero => omega
    | succ n =>
      have hol := ofN_len G (j : Int)
      simp only [spec_FewestSlots.l0, spec_FewestSlots.s0]
      rw [if_pos (by omega), if_pos (by omega), if_pos (by omega), rdOf_nat, w64n (by omega)]
      by_cases hb : (lasting G).getD j false = true
      · have hl : Las G (j : Int) := ⟨by omega, by omega, by rw [Int.toNat_natCast]; exact hb⟩
        rw [if_pos hb, l02Of_f hk h (by omega) (by omega), Option.bind_some, if_pos (by omega), if_pos (by omega)]
        by_cases hf : rd (ofN G (j : Int)) 0 = rd G 0
        · obtain ⟨b, hb1, hb2⟩ := l02Back_f hk h hc hl
          have ht := hr.take hl (show Full G 0 j from hf) hb2
          rw [if_pos hf, hb1, Option.bind_some]
          by_cases c1 : 0 < b
          · rw [if_pos c1] at ht ⊢
            by_cases c2 : r = 0
            · rw [if_pos c2] at ht ⊢; exact ih (j + 1) n b (by omega) (by omega) (by omega) ht
            · rw [if_neg c2] at ht ⊢
              by_cases c3 : b < r
              · rw [if_pos c3] at ht ⊢; exact ih (j + 1) n b (by omega) (by omega) (by omega) ht
              · rw [if_neg c3] at ht ⊢; exact ih (j + 1) n r (by omega) (by omega) (by omega) ht
          · rw [if_neg c1] at ht ⊢; exact ih (j + 1) n r (by omega) (by omega) (by omega) ht
        · rw [if_neg hf]
          exact ih (j + 1) n r (by omega) (by omega) (by omega) (hr.skip fun q => hf q.2)
      · rw [if_neg hb]
        exact ih (j + 1) n r (by omega) (by omega) (by omega) (hr.skip fun q => hb (by have := q.1.lv; rwa [Int.toNat_natCast] at this))

theorem impl_few {k : Nat} {G : List Int} {t : Nat} (hk : 2097152 ≤ k) (h : isT G = true) (hc : cnt G ≤ 4000) (htl : t < G.length) : ∀ (d j n : Nat) (r : Int), (lasting G).length - j = d → j ≤ (lasting G).length → d < n → LeastAt G t j r →
    ∃ q, impl_FewestSlots.l0 k n G (some (G, nxs G (lasting G).length, lasting G)) t r (lasting G) (lasting G).length j = some (q, 0) ∧ LeastAt G t (lasting G).length q := by
  have hL := lasting_len h hc
  have hlen := isT_len h
  intro d
  induction d with
  | zero =>
    intro j n r hd hj hn hr
    cases n with
    | zero => omega
    | succ n =>
      obtain rfl : j = (lasting G).length := by omega
      refine ⟨r, ?_, hr⟩
      simp only [impl_FewestSlots.l0, impl_FewestSlots.s0]
      rw [if_neg (by omega)]
  | succ d ih =>
    intro j n r hd hj hn hr
    cases n with
    | zero => omega
    | succ n =>
      have hol := ofN_len G (j : Int)
      simp only [impl_FewestSlots.l0, impl_FewestSlots.s0]
      rw [if_pos (by omega), if_pos (by omega), if_pos (by omega), rdOf_nat, w64n (by omega)]
      by_cases hb : (lasting G).getD j false = true
      · have hl : Las G (j : Int) := ⟨by omega, by omega, by rw [Int.toNat_natCast]; exact hb⟩
        rw [if_pos hb, numbered_f hk h (by omega) (by omega), Option.bind_some, if_pos (by omega), if_pos (by omega), if_pos (by omega), if_pos (by omega)]
        by_cases hf : rd (ofN G (j : Int)) t = rd G t
        · obtain ⟨b, hb1, hb2⟩ := back_f hk h hc hl
          have ht := hr.take hl (show Full G t j from hf) hb2
          rw [if_pos hf, Option.bind_some, hb1, Option.bind_some]
          by_cases c1 : 0 < b
          · rw [if_pos c1] at ht ⊢
            by_cases c2 : r = 0
            · rw [if_pos c2] at ht ⊢; exact ih (j + 1) n b (by omega) (by omega) (by omega) ht
            · rw [if_neg c2] at ht ⊢
              by_cases c3 : b < r
              · rw [if_pos c3] at ht ⊢; exact ih (j + 1) n b (by omega) (by omega) (by omega) ht
              · rw [if_neg c3] at ht ⊢; exact ih (j + 1) n r (by omega) (by omega) (by omega) ht
          · rw [if_neg c1] at ht ⊢; exact ih (j + 1) n r (by omega) (by omega) (by omega) ht
        · rw [if_neg hf]
          exact ih (j + 1) n r (by omega) (by omega) (by omega) (hr.skip fun q => hf q.2)
      · rw [if_neg hb]
        exact ih (j + 1) n r (by omega) (by omega) (by omega) (hr.skip fun q => hb (by have := q.1.lv; rwa [Int.toNat_natCast] at this))

theorem max_loop {k : Nat} {l : List Int} (hl : l.length ≤ 1000) : ∀ (d i n : Nat) (x : Int), l.length - i = d → i ≤ l.length → d < n → x ∈ l → ∃ y ∈ l, slices_Max_int64_int64.l0 k n l x i = some y := by
  intro d
  induction d with
  | zero =>
    intro i n x hd hi hn hx
    cases n with
    | zero => omega
    | succ n =>
      simp only [slices_Max_int64_int64.l0, slices_Max_int64_int64.s0]
      rw [if_neg (by omega)]
      exact ⟨x, hx, rfl⟩
  | succ d ih =>
    intro i n x hd hi hn hx
    cases n with
    | zero => omega
    | succ n =>
      simp only [slices_Max_int64_int64.l0, slices_Max_int64_int64.s0]
      rw [if_pos (by omega), if_pos (by omega), if_pos (by omega), w64n (by omega)]
      refine ih (i + 1) n _ (by omega) (by omega) (by omega) ?_
      unfold maxV
      have hm := rd_mem (l := l) (i := i) (by omega)
      split <;> assumption

theorem max_f {k : Nat} {l : List Int} (hk : 2097152 ≤ k) (hl : 1 ≤ l.length ∧ l.length ≤ 1000) : ∃ y ∈ l, slices_Max_int64_int64.f k l = some y := by
  unfold slices_Max_int64_int64.f slices_Max_int64_int64.g
  rw [if_neg (by omega), if_pos (by omega)]
  exact max_loop hl.2 (l.length - 1) 1 k _ (by omega) (by omega) (by omega) (rd_mem (l := l) (i := 0) (by omega))

theorem index_loop {k : Nat} {l : List Int} {y : Int} (hl : l.length ≤ 1000) : ∀ (d i n : Nat), l.length - i = d → i ≤ l.length → d < n → y ∈ l.drop i → ∃ t : Nat, t < l.length ∧ slices_Index_int64_int64.l0 k n l y l.length i = some (t : Int) := by
  intro d
  induction d with
  | zero =>
    intro i n hd hi hn hy
    rw [List.drop_eq_nil_of_le (by omega)] at hy
    simp at hy
  | succ d ih =>
    intro i n hd hi hn hy
    cases n with
    | zero => omega
    | succ n =>
      simp only [slices_Index_int64_int64.l0, slices_Index_int64_int64.s0]
      rw [if_pos (by omega), if_pos (by omega), if_pos (by omega), w64n (by omega)]
      by_cases e : y = rd l i
      · rw [if_pos e]; exact ⟨i, by omega, rfl⟩
      · rw [if_neg e]
        rw [drop_cons (by omega)] at hy
        exact ih (i + 1) n (by omega) (by omega) (by omega) ((List.mem_cons.1 hy).resolve_left e)

theorem index_f {k : Nat} {l : List Int} {y : Int} (hk : 2097152 ≤ k) (hl : l.length ≤ 1000) (hy : y ∈ l) : ∃ t : Nat, t < l.length ∧ slices_Index_int64_int64.f k l y = some (t : Int) := by
  unfold slices_Index_int64_int64.f slices_Index_int64_int64.g
  exact index_loop hl l.length 0 k (by omega) (by omega) (by omega) (by simpa using hy)

theorem least_begin (G : List Int) (t : Nat) : LeastAt G t 0 0 := .inl ⟨rfl, fun n hn => by omega⟩

theorem few_same {k : Nat} {G : List Int} (hk : 2097152 ≤ k) (hl : G.length ≤ 1048576) : ∃ r, spec_FewestSlots.f k G = some r ∧ impl_FewestSlots.f k G = some r := by
  unfold spec_FewestSlots.f spec_FewestSlots.g impl_FewestSlots.f impl_FewestSlots.g
  rw [l02Few_f hk hl, Option.bind_some, servable_f hk hl, Option.bind_some]
  by_cases hf : few G = 0
  · obtain ⟨h, hc⟩ := few_zero hf
    have hL := lasting_len h hc
    have hp := cnt_pos (isT_gp h)
    have hlen := isT_len h
    have hcan := can_few h hc
    rw [show (if isT G = true then (if 4000 < cnt G then 3 else 0) else 1 : Int) = few G from rfl, if_pos hf, l02Lasting_f hk h hc, Option.bind_some, hL, w64 (by omega) (by omega), if_pos (by omega), if_pos (by omega)]
    by_cases hs : (canR G).1 = true
    · have e : servR G = (some (G, nxs G (lasting G).length, lasting G), 0) := by unfold servR; rw [if_pos hf, if_pos hs]
      rw [if_pos (show rdOf false (lasting G) (cnt G - 1) = true from by rw [← hs, hcan]; rfl), e, if_pos rfl]
      obtain ⟨y, hy1, hy2⟩ := max_f (k := k) (l := G) hk (by omega)
      obtain ⟨t, ht1, ht2⟩ := index_f (k := k) (l := G) hk (by omega) hy1
      rw [hy2, Option.bind_some, ht2, Option.bind_some, Option.bind_some]
      obtain ⟨q1, a1, a2⟩ := spec_few hk h hc (lasting G).length 0 k 0 (by omega) (by omega) (by omega) (least_begin G 0)
      obtain ⟨q2, b1, b2⟩ := impl_few (t := t) hk h hc ht1 (lasting G).length 0 k 0 (by omega) (by omega) (by omega) (least_begin G t)
      obtain rfl := least_same h hL (by omega) ht1 a2 b2
      exact ⟨_, a1, b1⟩
    · have e : servR G = (none, 4) := by unfold servR; rw [if_pos hf, if_neg hs]
      rw [if_neg (show ¬ rdOf false (lasting G) (cnt G - 1) = true from by rw [hcan] at hs; exact hs), e]
      exact ⟨_, rfl, rfl⟩
  · have e : servR G = (none, few G) := by unfold servR; rw [if_neg hf]
    rw [show (if isT G = true then (if 4000 < cnt G then 3 else 0) else 1 : Int) = few G from rfl, if_neg hf, e]
    exact ⟨_, rfl, if_neg hf⟩

end Go.Proofs.Ytcbhhbkghbnljaa.Vf
