/- Ways back to a state: what program and reference do, breadth first. -/
import Derived.Test.YtcbhhbkghbnljaaQ02p
set_option linter.unusedVariables false
set_option linter.unusedSimpArgs false
namespace Go.Proofs.Ytcbhhbkghbnljaa.Vf
open Go Go.V Go.RowKit

/-- Where a choice leads. -/
def tgt (G : List Int) (v c : Int) : Int := num G ((step G (ofN G v) c).getD [])

/-- The states behind one state are looked at; none: the way is closed. -/
def inn (G : List Int) (fr v : Int) : List Int → List Bool → List Int → Option (List Bool × List Int)
  | [], s, q => some (s, q)
  | c :: cs, s, q => if tgt G v c = fr then none else if s.getD (tgt G v c).toNat false = true then inn G fr v cs s q else inn G fr v cs (s.set (tgt G v c).toNat true) (q ++ [tgt G v c])

def bfs (G : List Int) (fr : Int) : Nat → List Int → List Int → List Bool → Int → Option Int
  | 0, _, _, _, _ => none
  | n + 1, v :: cur, nxt, seen, r => match inn G fr v (keep G (lasting G) v) seen nxt with
    | none => some r
    | some p => bfs G fr n cur p.2 p.1 r
  | n + 1, [], nxt, seen, r => if nxt = [] then some 0 else bfs G fr n nxt [] seen (r + 1)

def falses (l : List Bool) : Nat := (l.filter fun b => !b).length

theorem falses_set : ∀ {l : List Bool} {i : Nat}, i < l.length → l.getD i false = false → falses (l.set i true) + 1 = falses l
  | [], i, h, _ => by simp at h
  | a :: l, 0, _, h => by
    have h2 : a = false := by simpa using h
    subst h2
    simp [falses]
  | a :: l, i + 1, hi, h => by
    have := falses_set (l := l) (i := i) (by simpa using hi) (by simpa using h)
    unfold falses at this ⊢
    rw [List.set_cons_succ, List.filter_cons, List.filter_cons]
    cases a <;> simp <;> omega

theorem falses_rep : ∀ m : Nat, falses (List.replicate m false) = m := by
  intro m
  induction m with
  | zero => rfl
  | succ m ih =>
    unfold falses at ih ⊢
    rw [List.replicate_succ, List.filter_cons, if_pos (by simp), List.length_cons, ih]

/-- What is known of a state that is reached. -/
structure Las (G : List Int) (v : Int) : Prop where
  v0 : 0 ≤ v
  v1 : v < cnt G
  lv : (lasting G).getD v.toNat false = true

theorem keep_las {G : List Int} (h : isT G = true) {v c : Int} (hv : Las G v) (hc : c ∈ keep G (lasting G) v) : Las G (tgt G v c) ∧ ∃ T, step G (ofN G v) c = some T ∧ Stt G T ∧ tgt G v c = num G T ∧ mgI (nx G v) c = some (num G T) := by
  obtain ⟨hm1, hm2⟩ := List.mem_filter.1 hc
  obtain ⟨i, hi, rfl⟩ := List.mem_map.1 hm1
  have hi := List.mem_range.1 hi
  cases hs : step G (ofN G v) ((i : Int) - 1) with
  | none => simp [goodC, hs] at hm2
  | some T =>
    obtain ⟨b0, b1, b2⟩ := ofN_num_bnd h hs
    have e : tgt G v ((i : Int) - 1) = num G T := by unfold tgt; rw [hs]; rfl
    refine ⟨⟨by rw [e]; exact b1, by rw [e]; exact b2, by rw [e]; simpa [goodC, hs] using hm2⟩, T, rfl, b0, e, ?_⟩
    rw [mgI_nx (by omega), hs]; rfl

/-! ### The reference's -/

/-- What is known when states are looked at. -/
theorem inn_ok {G : List Int} (h : isT G = true) {fr v : Int} (hv : Las G v) : ∀ (cs : List Int) (seen : List Bool) (nxt : List Int) (p : List Bool × List Int), (∀ c ∈ cs, c ∈ keep G (lasting G) v) → (seen.length : Int) = cnt G → inn G fr v cs seen nxt = some p →
    p.1.length = seen.length ∧ p.2.length + falses p.1 = nxt.length + falses seen ∧ (∀ c ∈ cs, tgt G v c ≠ fr ∧ p.1.getD (tgt G v c).toNat false = true) ∧ (∀ i : Nat, seen.getD i false = true → p.1.getD i false = true) ∧
      (∀ x ∈ p.2, x ∈ nxt ∨ ∃ c ∈ cs, x = tgt G v c) ∧ (∀ x ∈ nxt, x ∈ p.2) ∧ (∀ i : Nat, p.1.getD i false = true → seen.getD i false = true ∨ (i : Int) ∈ p.2)
  | [], seen, nxt, p, _, _, e => by
    simp only [inn, Option.some.injEq] at e
    subst e
    exact ⟨rfl, rfl, fun c hc => by simp at hc, fun i hi => hi, fun x hx => .inl hx, fun x hx => hx, fun i hi => .inl hi⟩
  | c :: cs, seen, nxt, p, hcs, hs, e => by
    obtain ⟨hl, _⟩ := keep_las h hv (hcs c (by simp))
    have h0 := hl.v0; have h1 := hl.v1
    simp only [inn] at e
    split at e
    · cases e
    · rename_i hfr
      split at e
      · rename_i hse
        obtain ⟨q1, q2, q3, q4, q5, q6, q7⟩ := inn_ok h hv cs seen nxt p (fun c hc => hcs c (by simp [hc])) hs e
        refine ⟨q1, q2, fun c' hc' => ?_, q4, fun x hx => ?_, q6, q7⟩
        · rcases List.mem_cons.1 hc' with rfl | hc'
          · exact ⟨hfr, q4 _ hse⟩
          · exact q3 c' hc'
        · rcases q5 x hx with hx | ⟨c', hc', rfl⟩
          · exact .inl hx
          · exact .inr ⟨c', by simp [hc'], rfl⟩
      · rename_i hse
        have hfs := falses_set (l := seen) (i := (tgt G v c).toNat) (by omega) (by simpa using hse)
        obtain ⟨q1, q2, q3, q4, q5, q6, q7⟩ := inn_ok h hv cs _ _ p (fun c hc => hcs c (by simp [hc])) (by simpa using hs) e
        have hset : ∀ i : Nat, (seen.set (tgt G v c).toNat true).getD i false = true ↔ (i = (tgt G v c).toNat ∨ seen.getD i false = true) := by
          intro i
          rw [List.getD_eq_getElem?_getD, List.getElem?_set]
          by_cases ei : (tgt G v c).toNat = i
          · rw [if_pos ei, if_pos (by omega)]; simp [ei]
          · rw [if_neg ei, ← List.getD_eq_getElem?_getD]
            constructor
            · exact fun q => .inr q
            · rintro (q | q)
              · exact absurd q.symm ei
              · exact q
        refine ⟨by rw [q1]; simp, by rw [q2]; simp; omega, fun c' hc' => ?_, fun i hi => q4 i ((hset i).2 (.inr hi)), fun x hx => ?_, fun x hx => q6 x (by simp [hx]), fun i hi => ?_⟩
        · rcases List.mem_cons.1 hc' with rfl | hc'
          · exact ⟨hfr, q4 _ ((hset _).2 (.inl rfl))⟩
          · exact q3 c' hc'
        · rcases q5 x hx with hx | ⟨c', hc', rfl⟩
          · rcases List.mem_append.1 hx with hx | hx
            · exact .inl hx
            · exact .inr ⟨c, by simp, by simpa using hx⟩
          · exact .inr ⟨c', by simp [hc'], rfl⟩
        · rcases q7 i hi with hi | hi
          · rcases (hset i).1 hi with rfl | hi
            · exact .inr (q6 _ (by simp; omega))
            · exact .inl hi
          · exact .inr hi

end Go.Proofs.Ytcbhhbkghbnljaa.Vf
