/- An evaluator of Go code over typed data, and that the model runs as it says (part 3). Conditions: as each theorem states. My own. -/
import Derived.Test.YtjkeadiepbldhaaVb
import Derived.ChangeArms
import Derived.ChangeShapes
import Derived.Carry
section
namespace Go.V
open Go Go.RowKit
set_option linter.unusedVariables false
set_option linter.unusedSimpArgs false

def exOf : Ex → Exit
  | .normal => .normal
  | .exit id => .exit id
  | .ret => .ret

section
variable {P : Program} {E : En} {R : Type} {w0 : World} {M : Mo} {X : Nat → Prop} {hd : Nat → Value} {st s : St} {a : Act} {w w' : World} {r : R}

/-- What follows, whatever way out. -/
def NextE (w0 : World) (M : Mo) (X : Nat → Prop) (k : Ex → St → Option R) (r : R) (Q : Exit → Act → World → Prop) : Prop :=
  ∀ e st hd a w, Rel w0 M X hd st a w → k e st = some r → Q (exOf e) a w

theorem code_ok (hnp : M.np ≤ E.pin) (ht : TbOK P E.tb) (hoc : OrcOK P E.orc) (hmix : P.follows .mixedOrders = true) : ∀ (c : Code) (cur : Nat) {hd : Nat → Value} {st : St} {a : Act} {w : World} {k : Ex → St → Option R} {Q : Exit → Act → World → Prop},
    Rel w0 M X hd st a w → NextE w0 M X k r Q → codeK E c cur st k = some r → c.wp P Q a w := by
  intro c
  induction c with
  | skip => intro cur hd st a w k Q h hk hr; exact wp_skip (hk .normal _ _ _ _ h hr)
  | region id ops draw =>
    intro cur hd st a w k Q h hk hr
    have hk' : Next w0 M X (fun st => k .normal st) r fun a w => Q .normal a w := fun st hd a w h e => hk .normal _ _ _ _ h e
    cases draw with
    | false => exact region_ok hnp ht hoc h hk' hr
    | true =>
      have hr : (match drawOK ops.toList, prepS (E.dr id) st with
        | true, some st => opsD E (isFree ops.toList) (besidePure ops.toList) (besideMove ops.toList) ops.toList ops.toList 0 [] st fun st => k .normal st
        | _, _ => none) = some r := hr
      split at hr
      · rename_i st1 hok hp
        obtain ⟨hd1, h1⟩ := prepS_ok h hp
        exact draw_ok hnp ht hoc hmix h1 hk' hok hr
      · cases hr
  | seq x y ihx ihy =>
    intro cur hd st a w k Q h hk hr
    refine wp_seq (ihx cur h ?_ hr)
    intro e st hd a w h hr
    cases e with
    | normal => exact ihy cur h hk hr
    | exit id => exact hk (.exit id) _ _ _ _ h hr
    | ret => exact hk .ret _ _ _ _ h hr
  | cond c x y ihx ihy =>
    intro cur hd st a w k Q h hk hr
    obtain ⟨t, hc, hr⟩ := fork_ok (ev_ok h c) hr
    refine wp_cond hc ?_
    cases t with
    | true => exact ihx cur h hk hr
    | false => exact ihy cur h hk hr
  | block id c ih =>
    intro cur hd st a w k Q h hk hr
    refine wp_block (ih id h ?_ hr)
    intro e st hd a w h hr
    cases e with
    | normal => exact hk .normal _ _ _ _ h hr
    | exit id' =>
      have hr : (match Nat.beq id' id with | true => k .normal st | false => k (.exit id') st) = some r := hr
      show (if id' = id then Q .normal a w else Q (.exit id') a w)
      split at hr
      · rename_i he
        rw [if_pos (Nat.eq_of_beq_eq_true he)]
        exact hk .normal _ _ _ _ h hr
      · rename_i he
        rw [if_neg (fun e => by rw [e, Nat.beq_refl] at he; cases he)]
        exact hk (.exit id') _ _ _ _ h hr
    | ret => exact hk .ret _ _ _ _ h hr
  | loop c ih =>
    intro cur hd st a w k Q h hk hr
    have hr : (match norm E.pin (E.lv cur) st with
      | none => none
      | some st => iterN (norm E.pin (E.lv cur)) (codeK E c cur) k E.K st) = some r := hr
    split at hr
    · cases hr
    · rename_i st1 hn
      obtain ⟨hd1, h1⟩ := norm_ok hnp h hn
      refine wp_loop_rounds E.K ?_
      have key : ∀ (n : Nat) (hd : Nat → Value) (st : St) (a : Act) (w : World), Rel w0 M X hd st a w → iterN (norm E.pin (E.lv cur)) (codeK E c cur) k n st = some r → Code.rounds P c Q n a w := by
        intro n
        induction n with
        | zero => intro hd st a w _ hr; cases hr
        | succ n ihn =>
          intro hd st a w h hr
          rw [rounds_succ]
          refine ih cur h ?_ (show codeK E c cur st (roundK (norm E.pin (E.lv cur)) k (iterN (norm E.pin (E.lv cur)) (codeK E c cur) k n)) = some r from hr)
          intro e st hd a w h hr
          cases e with
          | normal =>
            have hr : (match norm E.pin (E.lv cur) st with | none => none | some st => iterN (norm E.pin (E.lv cur)) (codeK E c cur) k n st) = some r := hr
            split at hr
            · cases hr
            · rename_i st2 hn2
              obtain ⟨hd2, h2⟩ := norm_ok hnp h hn2
              exact ihn hd2 st2 a w h2 hr
          | exit id => exact hk (.exit id) _ _ _ _ h hr
          | ret => exact hk .ret _ _ _ _ h hr
      exact key E.K hd1 st1 a w h1 hr
  | exit id => intro cur hd st a w k Q h hk hr; exact wp_exit (hk (.exit id) _ _ _ _ h hr)
  | ret => intro cur hd st a w k Q h hk hr; exact wp_ret (hk .ret _ _ _ _ h hr)
  | _ => intro cur hd st a w k Q h hk hr; cases hr

/-! ### The parameters -/

def hdOf (us : List Value) (b : Nat) (j : Nat) : Value := if b ≤ j then us.getD (j - b) (.slice none 0 0) else .slice none 0 0

def ownCount : List D1 → Nat
  | [] => 0
  | .own .. :: ds => ownCount ds + 1
  | .cel _ :: ds => ownCount ds + 1
  | .dat _ :: ds => ownCount ds

theorem outs_count : ∀ ds : List D1, (ds.filter (·.isOwn)).length = ownCount ds
  | [] => rfl
  | .own e t :: ds => by rw [List.filter_cons_of_pos (by rfl), List.length_cons, outs_count ds]; rfl
  | .cel t :: ds => by rw [List.filter_cons_of_pos (by rfl), List.length_cons, outs_count ds]; rfl
  | .dat t :: ds => by rw [List.filter_cons_of_neg (by simp [D1.isOwn]), outs_count ds]; rfl

theorem parL_ge : ∀ {ds : List D1} {x : dens ds} {b : Nat} {cells : List AV} {heap : List (Nat × Blk)}, parL b ds x = some (cells, heap) → ∀ j blk, look heap j = some blk → b ≤ j := by
  have one : ∀ {d : D1} {x : d.den} {b : Nat} {c : AV} {heap : List (Nat × Blk)}, par1 b d x = some (c, heap) → ∀ j blk, look heap j = some blk → b ≤ j := by
    intro d x b c heap h j blk hl
    cases d with
    | dat t =>
      have h : (match cellsAV t x with | [v] => some (v, []) | _ => none) = some (c, heap) := h
      split at h
      · cases h; cases hl
      · cases h
    | own e t =>
      have h : some (AV.own b, [(b, Blk.flat e t x)]) = some (c, heap) := h
      cases h
      rw [look_cons] at hl
      split at hl
      · rename_i e'; omega
      · cases hl
    | cel t =>
      have h : some (AV.box b 0, [(b, Blk.cells (cellsAV t x))]) = some (c, heap) := h
      cases h
      rw [look_cons] at hl
      split at hl
      · rename_i e'; omega
      · cases hl
  intro ds
  induction ds with
  | nil => intro x b cells heap h j blk hl; cases (show some ([], []) = some (cells, heap) from h); cases hl
  | cons d ds ih =>
    intro x b cells heap h j blk hl
    cases ds with
    | nil =>
      have h : (match par1 b d x with | some (v, h) => some ([v], h) | none => none) = some (cells, heap) := h
      split at h
      · rename_i c h1 h2
        cases h
        exact one h2 j blk hl
      · cases h
    | cons d' ds =>
      have h : (match par1 b d x.1 with
        | some (v, h) => match parL (match d.isOwn with | true => b + 1 | false => b) (d' :: ds) x.2 with
          | some (vs, h') => some (v :: vs, h ++ h')
          | none => none
        | none => none) = some (cells, heap) := h
      split at h
      · rename_i c h1 hp1
        split at h
        · rename_i cs h2 hp2
          cases h
          rw [look_append] at hl
          split at hl
          · rename_i v hv; exact one hp1 j v hv
          · have := ih hp2 j blk hl
            split at this <;> omega
        · cases h
      · cases h


/-- The parameters' cells and their rows. -/
theorem parL_ok {N : Nat → Prop} {f : Nat → Option Blk} {hd : Nat → Value} : ∀ {ds : List D1} {x : dens ds} {vs : List Value} {b : Nat} {cells : List AV} {heap : List (Nat × Blk)}, PL w N ds x vs → parL b ds x = some (cells, heap) →
    (∀ i u, (ownV ds vs)[i]? = some u → hd (b + i) = u) → (∀ j blk, look heap j = some blk → f j = some blk) →
    All2 (R1 ⟨w, N, hd, f⟩) cells vs ∧ (∀ j blk, look heap j = some blk → b ≤ j ∧ j < b + ownCount ds ∧ RB ⟨w, N, hd, f⟩ j blk) ∧ (∀ i, i < ownCount ds → ∃ blk, look heap (b + i) = some blk) ∧ (ownV ds vs).length = ownCount ds := by
  have one : ∀ {d : D1} {x : d.den} {v : Value} {b : Nat} {c : AV} {heap : List (Nat × Blk)}, P1 w N d x v → par1 b d x = some (c, heap) → (∀ i u, (ownV [d] [v])[i]? = some u → hd (b + i) = u) → (∀ j blk, look heap j = some blk → f j = some blk) →
      R1 ⟨w, N, hd, f⟩ c v ∧ (∀ j blk, look heap j = some blk → b ≤ j ∧ j < b + ownCount [d] ∧ RB ⟨w, N, hd, f⟩ j blk) ∧ (∀ i, i < ownCount [d] → ∃ blk, look heap (b + i) = some blk) := by
    intro d x v b c heap hp hpar hhd hf
    cases d with
    | dat t =>
      have hpar : (match cellsAV t x with | [v] => some (v, []) | _ => none) = some (c, heap) := hpar
      split at hpar
      · rename_i u hu
        cases hpar
        have hc := cellsAV_ok (c := ⟨w, N, hd, f⟩) (show Rc w N t x [v] from hp)
        rw [hu] at hc
        exact ⟨R1.of0 hc.1, (fun j blk h => by cases h), fun i hi => absurd hi (Nat.not_lt_zero _)⟩
      · cases hpar
    | own e t =>
      have hpar : some (AV.own b, [(b, Blk.flat e t x)]) = some (c, heap) := hpar
      cases hpar
      obtain ⟨xs, ho, hE⟩ := hp
      have h0 : hd b = v := by simpa using hhd 0 v rfl
      have hlook : look [(b, Blk.flat e t x)] b = some (.flat e t x) := by rw [look_cons, if_pos rfl]
      refine ⟨⟨h0.symm, owns_one ho, .flat e t x, e, t, _, hf b _ hlook, rfl⟩, ?_, ?_⟩
      · intro j blk hl
        rw [look_cons] at hl
        split at hl
        · rename_i e'
          cases hl
          subst e'
          exact ⟨Nat.le_refl _, by simp [ownCount], xs, by show w.ownsRow 0 e t.size (hd j) _ _; rw [h0]; exact ho, hE⟩
        · cases hl
      · intro i hi
        simp [ownCount] at hi
        subst hi
        exact ⟨_, hlook⟩
    | cel t =>
      have hpar : some (AV.box b 0, [(b, Blk.cells (cellsAV t x))]) = some (c, heap) := hpar
      cases hpar
      obtain ⟨r, vs, e, hv, hheap, hpos, hrc⟩ := hp
      have h0 : hd b = v := by simpa using hhd 0 v rfl
      have hlook : look [(b, Blk.cells (cellsAV t x))] b = some (.cells (cellsAV t x)) := by rw [look_cons, if_pos rfl]
      have hc := cellsAV_ok (c := ⟨w, N, hd, f⟩) hrc
      have hlen := hc.length
      refine ⟨⟨.cells (cellsAV t x), _, r, hf b _ hlook, rfl, by rw [hlen, hrc.length]; exact hpos, h0.trans hv, hv⟩, ?_, ?_⟩
      · intro j blk hl
        rw [look_cons] at hl
        split at hl
        · rename_i e'
          cases hl
          subst e'
          exact ⟨Nat.le_refl _, by simp [ownCount], r, vs, e, h0.trans hv, hheap, hc.mono fun _ _ => R1.of0⟩
        · cases hl
      · intro i hi
        simp [ownCount] at hi
        subst hi
        exact ⟨_, hlook⟩
  intro ds
  induction ds with
  | nil =>
    intro x vs b cells heap hp hpar hhd hf
    have hp : vs = [] := hp
    subst hp
    have hpar : some ([], []) = some (cells, heap) := hpar
    cases hpar
    exact ⟨trivial, (fun j blk h => by cases h), (fun i hi => absurd hi (Nat.not_lt_zero _)), rfl⟩
  | cons d ds ih =>
    intro x vs b cells heap hp hpar hhd hf
    cases ds with
    | nil =>
      obtain ⟨v, rfl, hp⟩ := hp
      have hpar : (match par1 b d x with | some (v, h) => some ([v], h) | none => none) = some (cells, heap) := hpar
      split at hpar
      · rename_i c h hpar1
        cases hpar
        obtain ⟨q1, q2, q3⟩ := one hp hpar1 hhd hf
        exact ⟨⟨q1, trivial⟩, q2, q3, by cases d <;> rfl⟩
      · cases hpar
    | cons d' ds =>
      obtain ⟨v, us, rfl, hp1, hp2⟩ := hp
      have hpar : (match par1 b d x.1 with
        | some (v, h) => match parL (match d.isOwn with | true => b + 1 | false => b) (d' :: ds) x.2 with
          | some (vs, h') => some (v :: vs, h ++ h')
          | none => none
        | none => none) = some (cells, heap) := hpar
      split at hpar
      · rename_i c h1 hpar1
        split at hpar
        · rename_i cs h2 hpar2
          cases hpar
          have e1 : ownV (d :: d' :: ds) (v :: us) = ownV [d] [v] ++ ownV (d' :: ds) us := by cases d <;> rfl
          have e2 : (match d.isOwn with | true => b + 1 | false => b) = b + ownCount [d] := by cases d <;> rfl
          have e3 : ownCount (d :: d' :: ds) = ownCount [d] + ownCount (d' :: ds) := by cases d <;> simp [ownCount] <;> omega
          have e4 : (ownV [d] [v]).length = ownCount [d] := by cases d <;> rfl
          rw [e2] at hpar2
          obtain ⟨q1, q2, q3⟩ := one hp1 hpar1 (fun i u hu => hhd i u (by rw [e1, List.getElem?_append_left (by obtain ⟨h, _⟩ := List.getElem?_eq_some_iff.1 hu; exact h)]; exact hu))
            (fun j blk hl => hf j blk (by rw [look_append, hl]))
          have hlk : ∀ j blk, look h2 j = some blk → b + ownCount [d] ≤ j → look (h1 ++ h2) j = some blk := by
            intro j blk hl hj
            rw [look_append]
            split
            · rename_i v hv
              have := (q2 j v hv).2.1
              omega
            · exact hl
          -- rows of the rest lie behind
          have hge : ∀ j blk, look h2 j = some blk → b + ownCount [d] ≤ j := parL_ge hpar2
          obtain ⟨p1, p2, p3, p4⟩ := ih (b := b + ownCount [d]) hp2 hpar2 (fun i u hu => by
              have := hhd (ownCount [d] + i) u (by rw [e1, List.getElem?_append_right (by omega), e4, Nat.add_sub_cancel_left]; exact hu)
              rw [Nat.add_assoc]; exact this) (fun j blk hl => hf j blk (hlk j blk hl (hge j blk hl)))
          refine ⟨⟨q1, p1⟩, ?_, ?_, by rw [e1, List.length_append, e4, p4, e3]⟩
          · intro j blk hl
            rw [look_append] at hl
            split at hl
            · rename_i v hv
              cases hl
              obtain ⟨r1, r2, r3⟩ := q2 j _ hv
              exact ⟨r1, by rw [e3]; omega, r3⟩
            · obtain ⟨r1, r2, r3⟩ := p2 j blk hl
              exact ⟨by omega, by rw [e3]; omega, r3⟩
          · intro i hi
            rw [e3] at hi
            by_cases hlt : i < ownCount [d]
            · obtain ⟨blk, hb⟩ := q3 i hlt
              exact ⟨blk, by rw [look_append, hb]⟩
            · obtain ⟨blk, hb⟩ := p3 (i - ownCount [d]) (by omega)
              rw [show b + ownCount [d] + (i - ownCount [d]) = b + i by omega] at hb
              exact ⟨blk, hlk _ _ hb (by omega)⟩
        · cases hpar
      · cases hpar

end
end Go.V
end

section
namespace Go.V
open Go Go.RowKit
set_option linter.unusedVariables false
set_option linter.unusedSimpArgs false

section
variable {P : Program} {E : En} {w0 : World} {M : Mo} {X : Nat → Prop} {hd : Nat → Value} {st s : St} {a : Act} {w w' : World}

def resSem (tmps : Array Value) : ResultVar → Sem Value
  | .tmp t => pure (tmps.getD t undef)
  | .cell a t => do loadVar t (← asAddr (tmps.getD a undef))

theorem resultA_ok (ht : TbOK P E.tb) (h : Rel w0 M X hd st a w) {rv : ResultVar} {v : AV} (hr : resultA E st rv = some v) : ∃ u, (resSem a.tmps rv).run P w = .ok u w ∧ Rt (st.cx X hd w) v u := by
  cases rv with
  | tmp t =>
    cases (show some (st.get t).settle = some v from hr)
    exact ⟨_, rfl, (h.tmps t).settle⟩
  | cell b t =>
    have hr : (match E.tb t with
      | some i => match loadC st i.size (st.get b) with
        | some cs => valOf i cs
        | none => none
      | none => none) = some v := hr
    split at hr
    · rename_i i hi
      obtain ⟨en⟩ := ht.entry hi
      split at hr
      · rename_i cs hcs
        obtain ⟨ad, vs, hp, hlen, hc, ha⟩ := loadC_ok h (h.tmps b) hcs
        obtain ⟨x, hx, hxr⟩ := run_loadVar' (P := P) en hlen hc ha hr
        refine ⟨x, ?_, hxr⟩
        unfold resSem
        simp [hp, asAddr, hx]
      · cases hr
    · cases hr

theorem resultsA_ok (ht : TbOK P E.tb) (h : Rel w0 M X hd st a w) : ∀ {rs : List ResultVar} {vs : List AV}, resultsA E st rs = some vs → ∃ us, (rs.mapM (resSem a.tmps)).run P w = .ok us w ∧ All2 (Rt (st.cx X hd w)) vs us
  | [], vs, hr => by cases (show some [] = some vs from hr); exact ⟨[], rfl, trivial⟩
  | rv :: rs, vs, hr => by
    have hr : (match resultA E st rv with
      | some v => match resultsA E st rs with
        | some vs => some (v :: vs)
        | none => none
      | none => none) = some vs := hr
    split at hr
    · rename_i v hv
      split at hr
      · rename_i vs' hvs
        cases hr
        obtain ⟨u, h1, h2⟩ := resultA_ok ht h hv
        obtain ⟨us, h3, h4⟩ := resultsA_ok ht h hvs
        exact ⟨u :: us, by simp [List.mapM_cons, h1, h3], h2, h4⟩
      · cases hr
    · cases hr

theorem results_eq (fn : Func) (tmps : Array Value) : results fn tmps = (do let vs ← fn.results.mapM (resSem tmps); pure (if h : vs.size = 1 then vs[0] else .tuple vs)) := by
  unfold results
  congr 1

theorem results_run {fn : Func} {us : List Value} (h : (fn.results.toList.mapM (resSem a.tmps)).run P w = .ok us w) : ∃ v, (results fn a.tmps).run P w = .ok v w ∧ Gives v us := by
  rw [results_eq, Array.mapM_eq_mapM_toList]
  simp only [Sem.run_bind, Sem.run_map, h, Result.andThen_ok, Sem.run_pure]
  match us with
  | [] => exact ⟨_, rfl, rfl⟩
  | [u] => exact ⟨_, rfl, rfl⟩
  | u :: u' :: us => exact ⟨_, by simp, rfl⟩

theorem slots_look : ∀ (vs : List AV) (i t : Nat), lookA (slots i vs) t = if i ≤ t then vs.getD (t - i) .undef else .undef
  | [], i, t => by simp [slots, lookA, look]
  | v :: vs, i, t => by
    have := slots_look vs (i + 1) t
    unfold lookA at this ⊢
    rw [slots, look_cons]
    by_cases e : t = i
    · subst e; simp
    · rw [if_neg e, this]
      by_cases h1 : i ≤ t
      · rw [if_pos (by omega), if_pos h1, show t - i = (t - (i + 1)) + 1 by omega]
        simp
      · rw [if_neg (by omega), if_neg h1]

theorem ownB_ownV : ∀ {ds : List D1} {vs : List Value} {r : Nat}, r ∈ ownB ds vs ↔ ∃ v ∈ ownV ds vs, blockOf v = some r
  | [], vs, r => by simp [ownB, ownV]
  | .own e t :: ds, [], r => by simp [ownB, ownV]
  | .dat t :: ds, [], r => by simp [ownB, ownV]
  | .dat t :: ds, v :: vs, r => by
    show r ∈ ownB ds vs ↔ ∃ u ∈ ownV ds vs, blockOf u = some r
    exact ownB_ownV
  | .own e t :: ds, v :: vs, r => by
    have ih := ownB_ownV (ds := ds) (vs := vs) (r := r)
    cases hb : blockOf v with
    | none =>
      simp only [ownB, hb, ownV, List.mem_cons]
      rw [ih]
      constructor
      · rintro ⟨u, hu, h⟩; exact ⟨u, .inr hu, h⟩
      · rintro ⟨u, rfl | hu, h⟩
        · rw [hb] at h; cases h
        · exact ⟨u, hu, h⟩
    | some q =>
      simp only [ownB, hb, ownV, List.mem_cons]
      rw [ih]
      constructor
      · rintro (rfl | ⟨u, hu, h⟩)
        · exact ⟨v, .inl rfl, hb⟩
        · exact ⟨u, .inr hu, h⟩
      · rintro ⟨u, rfl | hu, h⟩
        · rw [hb] at h; cases h; exact .inl rfl
        · exact .inr ⟨u, hu, h⟩
  | .cel t :: ds, [], r => by simp [ownB, ownV]
  | .cel t :: ds, v :: vs, r => by
    have ih := ownB_ownV (ds := ds) (vs := vs) (r := r)
    cases hb : blockOf v with
    | none =>
      simp only [ownB, hb, ownV, List.mem_cons]
      rw [ih]
      constructor
      · rintro ⟨u, hu, h⟩; exact ⟨u, .inr hu, h⟩
      · rintro ⟨u, rfl | hu, h⟩
        · rw [hb] at h; cases h
        · exact ⟨u, hu, h⟩
    | some q =>
      simp only [ownB, hb, ownV, List.mem_cons]
      rw [ih]
      constructor
      · rintro (rfl | ⟨u, hu, h⟩)
        · exact ⟨v, .inl rfl, hb⟩
        · exact ⟨u, .inr hu, h⟩
      · rintro ⟨u, rfl | hu, h⟩
        · rw [hb] at h; cases h; exact .inl rfl
        · exact .inr ⟨u, hu, h⟩

/-- Two places of one row are one place. -/
theorem ownV_inj : ∀ {ds : List D1} {vs : List Value} {i j : Nat} {u v : Value} {r : Nat}, (ownB ds vs).Nodup → (ownV ds vs)[i]? = some u → (ownV ds vs)[j]? = some v → blockOf u = some r → blockOf v = some r → i = j
  | [], vs, i, j, u, v, r, _, h, _, _, _ => by simp [ownV] at h
  | .own e t :: ds, [], i, j, u, v, r, _, h, _, _, _ => by simp [ownV] at h
  | .dat t :: ds, [], i, j, u, v, r, _, h, _, _, _ => by simp [ownV] at h
  | .dat t :: ds, x :: vs, i, j, u, v, r, hn, h1, h2, h3, h4 => ownV_inj (ds := ds) hn h1 h2 h3 h4
  | .own e t :: ds, x :: vs, i, j, u, v, r, hn, h1, h2, h3, h4 => by
    have hn' : (ownB ds vs).Nodup := by
      cases hb : blockOf x with
      | none => simpa only [ownB, hb] using hn
      | some q => simp only [ownB, hb] at hn; exact (List.nodup_cons.1 hn).2
    have far : ∀ {k : Nat} {y : Value}, (ownV ds vs)[k]? = some y → blockOf y = some r → blockOf x = some r → False := by
      intro k y hk hy hx
      simp only [ownB, hx] at hn
      exact (List.nodup_cons.1 hn).1 (ownB_ownV.2 ⟨y, List.mem_of_getElem? hk, hy⟩)
    simp only [ownV] at h1 h2
    cases i with
    | zero => cases j with
      | zero => rfl
      | succ j =>
        simp at h1 h2
        subst h1
        exact (far h2 h4 h3).elim
    | succ i => cases j with
      | zero =>
        simp at h1 h2
        subst h2
        exact (far h1 h3 h4).elim
      | succ j =>
        simp at h1 h2
        rw [ownV_inj hn' h1 h2 h3 h4]
  | .cel t :: ds, [], i, j, u, v, r, _, h, _, _, _ => by simp [ownV] at h
  | .cel t :: ds, x :: vs, i, j, u, v, r, hn, h1, h2, h3, h4 => by
    have hn' : (ownB ds vs).Nodup := by
      cases hb : blockOf x with
      | none => simpa only [ownB, hb] using hn
      | some q => simp only [ownB, hb] at hn; exact (List.nodup_cons.1 hn).2
    have far : ∀ {k : Nat} {y : Value}, (ownV ds vs)[k]? = some y → blockOf y = some r → blockOf x = some r → False := by
      intro k y hk hy hx
      simp only [ownB, hx] at hn
      exact (List.nodup_cons.1 hn).1 (ownB_ownV.2 ⟨y, List.mem_of_getElem? hk, hy⟩)
    simp only [ownV] at h1 h2
    cases i with
    | zero => cases j with
      | zero => rfl
      | succ j =>
        simp at h1 h2
        subst h1
        exact (far h2 h4 h3).elim
    | succ i => cases j with
      | zero =>
        simp at h1 h2
        subst h2
        exact (far h1 h3 h4).elim
      | succ j =>
        simp at h1 h2
        rw [ownV_inj hn' h1 h2 h3 h4]

def nameAV : D1 → Nat → AV
  | .own .., i => .own i
  | .cel _, i => .box i 0
  | .dat _, _ => .undef

theorem ownAV_vals {c : Cx} : ∀ {ds : List D1} {i : Nat} {vs : List Value}, (∀ j d u, (ds.filter (·.isOwn))[j]? = some d → (ownV ds vs)[j]? = some u → R1 c (nameAV d (i + j)) u) → vs.length = ds.length → All2 (R1 c) (ownCells ds (ownAV i ds)) (ownV ds vs)
  | [], _, _, _, _ => trivial
  | .own e t :: ds, i, [], _, hl => by simp at hl
  | .cel t :: ds, i, [], _, hl => by simp at hl
  | .dat t :: ds, i, [], _, hl => by simp at hl
  | .own e t :: ds, i, v :: vs, h, hl => ⟨h 0 (.own e t) v (by simp [D1.isOwn]) rfl, ownAV_vals (i := i + 1) (fun j d u hd hu => by have := h (j + 1) d u (by simpa [D1.isOwn] using hd) hu; rw [show i + 1 + j = i + (j + 1) by omega]; exact this) (by simpa using hl)⟩
  | .cel t :: ds, i, v :: vs, h, hl => ⟨h 0 (.cel t) v (by simp [D1.isOwn]) rfl, ownAV_vals (i := i + 1) (fun j d u hd hu => by have := h (j + 1) d u (by simpa [D1.isOwn] using hd) hu; rw [show i + 1 + j = i + (j + 1) by omega]; exact this) (by simpa using hl)⟩
  | .dat t :: ds, i, v :: vs, h, hl => ownAV_vals (ds := ds) (i := i) (fun j d u hd hu => h j d u (by simpa [D1.isOwn] using hd) hu) (by simpa using hl)

theorem ownAV_get : ∀ {ds : List D1} {i j : Nat} {d : D1}, (ds.filter (·.isOwn))[j]? = some d → (ownCells ds (ownAV i ds))[j]? = some (nameAV d (i + j))
  | [], _, _, _, h => by simp at h
  | .own e t :: ds, i, 0, d, h => by simp [D1.isOwn] at h; subst h; rfl
  | .cel t :: ds, i, 0, d, h => by simp [D1.isOwn] at h; subst h; rfl
  | .own e t :: ds, i, j + 1, d, h => by
    have := ownAV_get (ds := ds) (i := i + 1) (j := j) (d := d) (by simpa [D1.isOwn] using h)
    rw [show i + (j + 1) = i + 1 + j by omega]
    exact this
  | .cel t :: ds, i, j + 1, d, h => by
    have := ownAV_get (ds := ds) (i := i + 1) (j := j) (d := d) (by simpa [D1.isOwn] using h)
    rw [show i + (j + 1) = i + 1 + j by omega]
    exact this
  | .dat t :: ds, i, j, d, h => ownAV_get (ds := ds) (i := i) (by simpa [D1.isOwn] using h)

theorem ownB_append : ∀ {ds es : List D1} {vs us : List Value}, vs.length = ds.length → ownB (ds ++ es) (vs ++ us) = ownB ds vs ++ ownB es us
  | [], es, [], us, _ => by simp [ownB]
  | [], _, _ :: _, _, h => by simp at h
  | _ :: _, _, [], _, h => by simp at h
  | d :: ds, es, v :: vs, us, h => by
    rw [List.cons_append, List.cons_append, ownB_cons, ownB_append (by simpa using h), ownB_cons d ds, List.append_assoc]

theorem ownB_outs : ∀ {ds : List D1} {vs : List Value}, ownB (ds.filter (·.isOwn)) (ownV ds vs) = ownB ds vs
  | [], _ => by simp [ownB]
  | .own e t :: ds, [] => by simp [ownB, ownV, List.filter_cons_of_pos, D1.isOwn]
  | .cel t :: ds, [] => by simp [ownB, ownV, List.filter_cons_of_pos, D1.isOwn]
  | .cel t :: ds, v :: vs => by
    rw [List.filter_cons_of_pos (by simp [D1.isOwn])]
    show ownB (.cel t :: ds.filter (·.isOwn)) (v :: ownV ds vs) = _
    rw [ownB_cons, ownB_outs, ownB_cons _ ds]
  | .dat t :: ds, [] => by
    rw [List.filter_cons_of_neg (by simp [D1.isOwn])]
    show ownB _ [] = _
    simp only [ownB]
    cases (ds.filter (·.isOwn)) with
    | nil => simp [ownB]
    | cons d _ => cases d <;> simp [ownB]
  | .dat t :: ds, v :: vs => by
    rw [List.filter_cons_of_neg (by simp [D1.isOwn])]
    exact ownB_outs (ds := ds)
  | .own e t :: ds, v :: vs => by
    rw [List.filter_cons_of_pos (by simp [D1.isOwn])]
    show ownB (.own e t :: ds.filter (·.isOwn)) (v :: ownV ds vs) = _
    rw [ownB_cons, ownB_outs, ownB_cons _ ds]

/-- What a function gives, from any of the values that its arguments may have. -/
def FunR (E : En) (S : Does) (fn : Func) (Rf : List AV → List AV → Prop) (x : dens (flatC S.ps)) (y : dens (flatC S.rs ++ outsC S.ps)) : Prop :=
  ∃ c cells heap vs, fn.body = some c ∧ parL 0 (flatC S.ps) x = some (cells, heap) ∧ compsA S.ps cells = some vs ∧ vs.length ≤ fn.ntmps ∧ E.pin = (outsC S.ps).length ∧
    ∀ vs', Rf vs vs' → codeK E c 0 ⟨fn.ntmps, lookA (slots 0 vs'), look heap⟩ (finalK E S fn (ownAV 0 (flatC S.ps))) = some y

theorem meets_ofR {Rf : List AV → List AV → Prop} (hRf : ∀ {cx : Cx} {vs : List AV} {us : List Value}, All2 (Ra cx) vs us → ∃ vs', Rf vs vs' ∧ All2 (Ra cx) vs' us) {f : FuncId} {fn : Func} {S : Does} (hf : P.funcs[f]? = some fn) (hname : (fn.name == "runtime.NumGoroutine") = false) (ht : TbOK P E.tb) (hoc : OrcOK P E.orc) (hmix : P.follows .mixedOrders = true)
    (hS : ∀ x y, S.fn x = some y → FunR E S fn Rf x y) (hb : fn.body.isSome = true) : Meets P f S := by
  refine ⟨?_, ?_⟩
  · intro args w
    have h1 : fn.name ≠ "runtime.NumGoroutine" := by simpa using hname
    obtain ⟨c, hc⟩ := Option.isSome_iff_exists.1 hb
    simp [callFunc, hf, h1, hc, mark]
  · intro w X args cells x y hcomps hX hp hn hy
    obtain ⟨c, cellsa, heap, vs0, hc, hpar, hvs, hle1, hle2, hy⟩ := hS x y hy
    have hcl := hcomps.length
    obtain ⟨hd, hhd⟩ : ∃ hd, hd = hdOf (ownV (flatC S.ps) cells) 0 := ⟨_, rfl⟩
    have hdi : ∀ i u, (ownV (flatC S.ps) cells)[i]? = some u → hd i = u := by
      intro i u hu
      rw [hhd]
      simp [hdOf, List.getD_eq_getElem?_getD, hu]
    have held : ∀ b blk, look heap b = some blk → b < ownCount (flatC S.ps) := by
      intro b blk hl
      exact (Nat.zero_add (ownCount (flatC S.ps))) ▸ ((parL_ok (N := fun _ => False) (f := look heap) (hd := hd) (w := w) (hp.weaken fun _ h => h.elim) hpar (fun i u hu => by rw [Nat.zero_add]; exact hdi i u hu) (fun _ _ h => h)).2.1 b blk hl).2.1
    have hlen : (ownV (flatC S.ps) cells).length = ownCount (flatC S.ps) := (parL_ok (N := fun _ => False) (f := look heap) (hd := hd) (w := w) (hp.weaken fun _ h => h.elim) hpar (fun i u hu => by rw [Nat.zero_add]; exact hdi i u hu) (fun _ _ h => h)).2.2.2
    have hheldB : ∀ r, Held (look heap) hd r → r ∈ ownB (flatC S.ps) cells := by
      rintro r ⟨b, blk, hl, hr⟩
      have hlt : b < (ownV (flatC S.ps) cells).length := by rw [hlen]; exact held b blk hl
      have hbv := hdi b _ (List.getElem?_eq_getElem hlt)
      exact ownB_ownV.2 ⟨_, List.getElem_mem hlt, by rw [← hbv]; exact hr⟩
    obtain ⟨q1, q2, q3, _⟩ := parL_ok (N := fun r => X r ∨ Mine (look heap) hd r) (f := look heap) (hd := hd) (w := w) (hp.weaken fun r hr => hr.imp id fun hm => hheldB r hm.held) hpar (fun i u hu => by rw [Nat.zero_add]; exact hdi i u hu) (fun _ _ h => h)
    obtain ⟨vs, hRf, q1'⟩ := hRf (compsA_ok q1 hcomps hvs)
    have hle1 : vs.length ≤ fn.ntmps := by have := q1'.length; have := (compsA_ok q1 hcomps hvs).length; omega
    have hy := hy vs hRf
    have h0 : Rel w ⟨(· ∈ ownB (flatC S.ps) cells), (outsC S.ps).length, hd⟩ X hd ⟨fn.ntmps, lookA (slots 0 vs), look heap⟩ { tmps := args.toArray ++ Array.replicate (fn.ntmps - args.toArray.size) undef, defers := [] } w := by
      have hal := q1'.length
      refine ⟨?_, rfl, ?_, fun b blk hb => (q2 b blk hb).2.2, ?_, Frame0.refl _ _, fun r hr => .inl (hheldB r hr), ?_, ?_⟩
      · simp; omega
      · intro t
        show Rt _ (lookA (slots 0 vs) t) _
        rw [slots_look, if_pos (Nat.zero_le t), Nat.sub_zero]
        by_cases hlt : t < vs.length
        · obtain ⟨u, hu, hr⟩ := q1'.get (i := t) (List.getElem?_eq_getElem hlt)
          have e1 : vs.getD t .undef = vs[t] := by simp [List.getD_eq_getElem?_getD, hlt]
          have e2 : (args.toArray ++ Array.replicate (fn.ntmps - args.toArray.size) undef).getD t undef = u := by
            have hlt' : t < args.length := by omega
            rw [Array.getD_eq_getD_getElem?, Array.getElem?_append_left (by simpa using hlt')]
            simp [hu]
          show Rt _ _ ((args.toArray ++ Array.replicate (fn.ntmps - args.toArray.size) undef).getD t undef)
          rw [e1, e2]
          exact Rt.ofa hr
        · have e1 : vs.getD t .undef = .undef := by rw [List.getD_eq_getElem?_getD, List.getElem?_eq_none (by omega)]; rfl
          rw [e1]; trivial
      · intro b b' blk blk' r hb1 hb2 hr1 hr2
        have hlt1 : b < (ownV (flatC S.ps) cells).length := by rw [hlen]; exact held b blk hb1
        have hlt2 : b' < (ownV (flatC S.ps) cells).length := by rw [hlen]; exact held b' blk' hb2
        have e1 := hdi b _ (List.getElem?_eq_getElem hlt1)
        have e2 := hdi b' _ (List.getElem?_eq_getElem hlt2)
        exact ownV_inj hn (List.getElem?_eq_getElem hlt1) (List.getElem?_eq_getElem hlt2) (by rw [← e1]; exact hr1) (by rw [← e2]; exact hr2)
      · intro i hi
        refine ⟨rfl, ?_⟩
        have := q3 i (by rw [← outs_count]; exact hi)
        rwa [Nat.zero_add] at this
      · intro r hr
        exact ⟨(hX r hr).1, fun hh => (hX r hr).2 (hheldB r hh)⟩
    refine calls_of_wp hf hc ?_
    refine code_ok (by show (outsC S.ps).length ≤ _; omega) ht hoc hmix c 0 h0 ?_ hy
    intro e st hd' a w' h hr
    have key : ∀ fnl, (match resultsA E st fn.results.toList with
        | none => none
        | some vs => match flatA S.rs vs with
          | none => none
          | some cs => match sepK st (flatC S.rs ++ outsC S.ps) (cs ++ ownCells (flatC S.ps) (ownAV 0 (flatC S.ps))) with
            | some _ => readL st (flatC S.rs ++ outsC S.ps) (cs ++ ownCells (flatC S.ps) (ownAV 0 (flatC S.ps)))
            | none => none) = some y → (fnl = Exit.normal ∨ fnl = Exit.ret) → bodyPost P fn (fun e w' => ∃ v vs rcells, e = .returned v ∧ Gives v vs ∧ CompsV S.rs vs rcells ∧ Frame0 w w' (· ∈ ownB (flatC S.ps) cells) ∧
      PL w' (fun r => X r ∨ r ∈ ownB (flatC S.ps) cells ∨ r ∈ ownB (flatC S.rs) rcells) (flatC S.rs ++ outsC S.ps) y (rcells ++ ownV (flatC S.ps) cells) ∧
      (ownB (flatC S.rs) rcells).Nodup ∧ ∀ r ∈ ownB (flatC S.rs) rcells, w.heap.size ≤ r) fnl a w' := by
      intro fnl hr hfnl
      split at hr
      · cases hr
      · rename_i vs1 hvs1
        split at hr
        · cases hr
        · rename_i cs hcs
          split at hr
          · rename_i rch hsep
            obtain ⟨us, hus, hra⟩ := resultsA_ok ht h hvs1
            obtain ⟨v, hv, hg⟩ := results_run hus
            obtain ⟨vcells, hcv, hcr⟩ := flatA_ok hra hcs
            have hown : All2 (R1 (st.cx X hd' w')) (ownCells (flatC S.ps) (ownAV 0 (flatC S.ps))) (ownV (flatC S.ps) cells) := by
              refine ownAV_vals ?_ hcl
              intro j d u hdj hu
              rw [Nat.zero_add]
              have hj : j < (outsC S.ps).length := (List.getElem?_eq_some_iff.1 hdj).1
              obtain ⟨p1, blk, p2⟩ := h.pins j hj
              have p1 : hd' j = u := p1.trans (hdi j u hu)
              have hn0 : (ownCells (flatC S.ps) (ownAV 0 (flatC S.ps)))[j]? = some (nameAV d j) := by have := ownAV_get (i := 0) hdj; rwa [Nat.zero_add] at this
              have hisown : d.isOwn = true := (List.mem_filter.1 (List.mem_of_getElem? hdj)).2
              have hlen2 : cs.length = (flatC S.rs).length := (hcr.length).trans hcv.length
              have hz : (d, nameAV d j) ∈ (flatC S.rs ++ outsC S.ps).zip (cs ++ ownCells (flatC S.ps) (ownAV 0 (flatC S.ps))) := by
                rw [List.zip_append hlen2.symm]
                refine List.mem_append_right _ ?_
                exact List.mem_of_getElem? (i := j) (by rw [List.getElem?_zip_eq_some]; exact ⟨hdj, hn0⟩)
              obtain ⟨_, blk', q1, q2⟩ := own_at (d := d) hr hz hisown (c := j) (by cases d <;> first | rfl | cases hisown)
              rw [p2] at q1
              cases q1
              have hrb := h.blocks j blk p2
              cases d with
              | dat t => cases hisown
              | own e t =>
                obtain ⟨l, rfl⟩ := q2
                obtain ⟨xs, ho, _⟩ := hrb
                exact ⟨p1.symm, by rw [← p1]; exact owns_one ho, _, e, t, _, p2, rfl⟩
              | cel t =>
                obtain ⟨cs', rfl, hl', hpos⟩ := q2
                obtain ⟨r, vs', e, hh, _, _⟩ := hrb
                exact ⟨_, _, r, p2, rfl, by rw [hl']; exact hpos, hh, p1.symm.trans hh⟩
            have ha := hcr.append hown
            obtain ⟨s1, s2, s3, s4⟩ := sepK_ok hsep
            have hin := ownB_in h ha hr
            have hnd := ownB_nodup h ha hr s3
            have eB : ownB (flatC S.rs ++ outsC S.ps) (vcells ++ ownV (flatC S.ps) cells) = ownB (flatC S.rs) vcells ++ ownB (flatC S.ps) cells := by
              rw [ownB_append hcv.length]
              congr 1
              exact ownB_outs
            rw [eB] at hin hnd
            have hclear : Clear st X hd' w' (fun r => X r ∨ r ∈ ownB (flatC S.ps) cells ∨ r ∈ ownB (flatC S.rs) vcells) (fun b => b ∈ rch ∧ ∃ blk, st.find b = some blk) := by
              have hmem : ∀ q, (q ∈ ownB (flatC S.ps) cells ∨ q ∈ ownB (flatC S.rs) vcells) → q ∈ ownB (flatC S.rs) vcells ++ ownB (flatC S.ps) cells := fun q hq => List.mem_append.2 hq.symm
              refine ⟨?_, ?_, ?_⟩
              · rintro q (hq | hq)
                · exact .inl hq
                · obtain ⟨b, _, ⟨blk, hf, hlv⟩, hb⟩ := hin q (hmem q hq)
                  exact .inr ⟨b, _, hf, hlv, hb⟩
              · rintro b q ⟨hb, blk, hf⟩ hq (hx' | hx')
                · exact (h.xfar q hx').2 ⟨b, blk, hf, hq⟩
                · obtain ⟨b', hb', ⟨blk', hf', _⟩, hq'⟩ := hin q (hmem q hx')
                  have := h.inj b b' _ _ q hf hf' hq hq'
                  subst this
                  exact s4 b hb hb'
              · rintro b cs ⟨hb, _⟩ hf c hc
                refine ⟨s2 b hb c (by rw [hf]; exact hc), ?_⟩
                obtain ⟨r', vs', e', _, _, hcs⟩ := h.blocks b _ hf
                exact namesL1 hcs c hc
            have hpl := readL_ok h hclear ha (fun b hb => ⟨s1 b hb, datNames_found ha b hb⟩) hr
            rw [List.nodup_append] at hnd
            have hR : ∃ v' vs rcells, Ending.returned v = .returned v' ∧ Gives v' vs ∧ CompsV S.rs vs rcells ∧ Frame0 w w' (· ∈ ownB (flatC S.ps) cells) ∧
                PL w' (fun r => X r ∨ r ∈ ownB (flatC S.ps) cells ∨ r ∈ ownB (flatC S.rs) rcells) (flatC S.rs ++ outsC S.ps) y (rcells ++ ownV (flatC S.ps) cells) ∧
                (ownB (flatC S.rs) rcells).Nodup ∧ ∀ r ∈ ownB (flatC S.rs) rcells, w.heap.size ≤ r := by
              refine ⟨v, us, vcells, rfl, hg, hcv, h.frame, hpl, hnd.1, ?_⟩
              intro r hr'
              obtain ⟨b, _, ⟨blk, hf, hlv⟩, hb⟩ := hin r (List.mem_append_left _ hr')
              rcases h.mine r ⟨b, _, hf, hb⟩ with hm | hm
              · exact absurd rfl (hnd.2.2 r hr' r hm)
              · exact hm
            rcases hfnl with rfl | rfl <;> exact ⟨h.defers, v, hv, hR⟩
          · cases hr
    cases e with
    | exit id => cases hr
    | normal => exact key .normal hr (.inl rfl)
    | ret => exact key .ret hr (.inr rfl)

theorem meets_of {f : FuncId} {fn : Func} {S : Does} (hf : P.funcs[f]? = some fn) (hname : (fn.name == "runtime.NumGoroutine") = false) (ht : TbOK P E.tb) (hoc : OrcOK P E.orc) (hmix : P.follows .mixedOrders = true)
    (hS : ∀ x y, S.fn x = some y → funK E S fn x = some y) (hb : fn.body.isSome = true) : Meets P f S := by
  refine meets_ofR (Rf := Eq) (fun h => ⟨_, rfl, h⟩) hf hname ht hoc hmix ?_ hb
  intro x y hy
  have hy := hS x y hy
  unfold funK at hy
  split at hy
  · cases hy
  · rename_i c hc
    split at hy
    · cases hy
    · rename_i cellsa heap hpar
      split at hy
      · cases hy
      · rename_i vs hvs
        split at hy
        · rename_i hle
          rw [Bool.and_eq_true] at hle
          refine ⟨c, cellsa, heap, vs, hc, hpar, hvs, Nat.le_of_ble_eq_true hle.1, Nat.eq_of_beq_eq_true hle.2, ?_⟩
          rintro vs' rfl
          exact hy
        · cases hy

/-- Lists that are empty: nil, or not. -/
def Nils1 (v v' : AV) : Prop := (v' = v ∧ ∀ t, v ≠ .dat (.list t) []) ∨ ∃ t, v = .dat (.list t) [] ∧ (v' = .nil ∨ v' = .dne t)

def Nils (vs vs' : List AV) : Prop := All2 Nils1 vs vs'

theorem nils1_ok {cx : Cx} {v : AV} {u : Value} (h : Ra cx v u) : ∃ v', Nils1 v v' ∧ Ra cx v' u := by
  by_cases hv : ∃ t, v = .dat (.list t) []
  · obtain ⟨t, rfl⟩ := hv
    obtain ⟨A, cap, e, hc, hn, _⟩ := (show Rc cx.w cx.N (.list t) [] [u] from h)
    have e : u = .slice A 0 cap := by simpa using e
    cases A with
    | none =>
      have := hn rfl
      subst this
      exact ⟨.nil, .inr ⟨t, rfl, .inl rfl⟩, e⟩
    | some ad => exact ⟨.dne t, .inr ⟨t, rfl, .inr rfl⟩, ⟨ad, cap, e⟩⟩
  · exact ⟨v, .inl ⟨rfl, fun t e => hv ⟨t, e⟩⟩, h⟩

theorem nilsR_ok {cx : Cx} : ∀ {vs : List AV} {us : List Value}, All2 (Ra cx) vs us → ∃ vs', Nils vs vs' ∧ All2 (Ra cx) vs' us
  | [], [], _ => ⟨[], trivial, trivial⟩
  | [], _ :: _, h => h.elim
  | _ :: _, [], h => h.elim
  | v :: vs, u :: us, h => by
    obtain ⟨v', h1, h2⟩ := nils1_ok h.1
    obtain ⟨vs', h3, h4⟩ := nilsR_ok h.2
    exact ⟨v' :: vs', ⟨h1, h3⟩, ⟨h2, h4⟩⟩

theorem dat_nil {t t' : Ty} {l : List t.den} (e : AV.dat (.list t) l = AV.dat (.list t') []) : t' = t ∧ l = [] := by
  injection e with e1 e2
  injection e1 with e1
  subst e1
  exact ⟨rfl, eq_of_heq e2⟩

/-- As 'meets_of', for a function that asks whether its one argument, a list, is nil. -/
theorem meets_nil {f : FuncId} {fn : Func} {t : Ty} {rs : List (Bool × List D1)} {F : List t.den → Option (dens (flatC rs ++ []))} {c : Code} (hf : P.funcs[f]? = some fn) (hname : (fn.name == "runtime.NumGoroutine") = false) (ht : TbOK P E.tb) (hoc : OrcOK P E.orc) (hmix : P.follows .mixedOrders = true)
    (hc : fn.body = some c) (hnt : Nat.ble 1 fn.ntmps = true) (hpin : E.pin = 0)
    (h1 : ∀ l : List t.den, List.length l ≠ 0 → codeK E c 0 ⟨fn.ntmps, lookA [(0, .dat (.list t) l)], look []⟩ (finalK E ⟨[(false, [.dat (.list t)])], rs, F⟩ fn [.undef]) = F l)
    (h2 : codeK E c 0 ⟨fn.ntmps, lookA [(0, .nil)], look []⟩ (finalK E ⟨[(false, [.dat (.list t)])], rs, F⟩ fn [.undef]) = F [])
    (h3 : codeK E c 0 ⟨fn.ntmps, lookA [(0, .dne t)], look []⟩ (finalK E ⟨[(false, [.dat (.list t)])], rs, F⟩ fn [.undef]) = F []) :
    Meets P f ⟨[(false, [.dat (.list t)])], rs, F⟩ := by
  refine meets_ofR (Rf := Nils) nilsR_ok hf hname ht hoc hmix ?_ (by rw [hc]; rfl)
  intro l y hy
  have hy : F l = some y := hy
  refine ⟨c, [.dat (.list t) l], [], [.dat (.list t) l], hc, rfl, rfl, Nat.le_of_ble_eq_true hnt, hpin, ?_⟩
  intro vs' hv
  match vs', hv with
  | [v'], hv =>
    rcases hv.1 with ⟨rfl, hne⟩ | ⟨t', e, hv'⟩
    · have hl : List.length l ≠ 0 := by
        intro h0
        have : l = [] := List.eq_nil_of_length_eq_zero h0
        subst this
        exact hne t rfl
      exact (h1 l hl).trans hy
    · have hh : t' = t ∧ l = [] := dat_nil e
      obtain ⟨rfl, e⟩ := hh
      subst e
      rcases hv' with rfl | rfl
      · exact h2.trans hy
      · exact h3.trans hy

end
end Go.V
end

section
namespace Go.V
open Go Go.RowKit

def rd (l : List Int) (i : Int) : Int := l.getD i.toNat 0
def rdOf {α : Type} (d : α) (l : List α) (i : Int) : α := l.getD i.toNat d

def mgI {α : Type} (l : List (Int × α)) (i : Int) : Option α := mget (.int .i64) l i
def mgS {α : Type} (l : List (ByteArray × α)) (i : ByteArray) : Option α := mget .str l i
def mpI {α : Type} (l : List (Int × α)) (i : Int) (x : α) : List (Int × α) := mput (.int .i64) l i x
def mpS {α : Type} (l : List (ByteArray × α)) (i : ByteArray) (x : α) : List (ByteArray × α) := mput .str l i x

def orcOf : List (Nat × Does) → FuncId → List Does
  | [], _ => []
  | (f, S) :: l, g => match Nat.beq g f with
    | true => S :: orcOf l g
    | false => orcOf l g

def lvOf : List (Nat × List (Nat × List LvK)) → Nat → List (Nat × List LvK)
  | [], _ => []
  | (c, l) :: m, d => match Nat.beq d c with
    | true => l
    | false => lvOf m d

theorem orc_nil {P : Program} : OrcOK P (orcOf []) := fun _ _ h => by cases h

theorem orc_cons {P : Program} {f : FuncId} {S : Does} {l : List (Nat × Does)} (h : Meets P f S) (hl : OrcOK P (orcOf l)) : OrcOK P (orcOf ((f, S) :: l)) := by
  intro g S' hm
  unfold orcOf at hm
  split at hm
  · rename_i e
    have e := Nat.eq_of_beq_eq_true e
    subst e
    rcases List.mem_cons.1 hm with rfl | hm
    · exact h
    · exact hl _ _ hm
  · exact hl _ _ hm

theorem tb_of {P : Program} : ∀ {l : List (Nat × TI)}, l.map (fun p => entryOf P p.1) = l.map (fun p => some p.2) → TbOK P (look l)
  | [], _, t, i, h => by cases h
  | (k, v) :: l, h, t, i, hi => by
    simp only [List.map_cons, List.cons.injEq] at h
    rw [look_cons] at hi
    split at hi
    · rename_i e
      cases hi
      rw [e]
      exact h.1
    · exact tb_of h.2 t i hi

/-! ### A first result that is a new row, taken as data -/

def convH (e : TypeId) (t : Ty) : (es : List D1) → dens (.own e t :: es) → dens (.dat (.list t) :: es)
  | [], x => x
  | _ :: _, x => x

theorem PL.head {w : World} {N N' : Nat → Prop} (hn : ∀ r, N' r → N r) {e : TypeId} {t : Ty} : ∀ {es : List D1} {x : dens (.own e t :: es)} {v : Value} {vs : List Value}, PL w N (.own e t :: es) x (v :: vs) → (∀ r, blockOf v = some r → ¬ N' r) → PL w N' (.dat (.list t) :: es) (convH e t es x) (v :: vs)
  | [], x, v, vs, h, hv => by
    obtain ⟨v', e', xs, ho, hE⟩ := h
    cases e'
    exact ⟨v, rfl, row_Rc ho hE hn hv⟩
  | d :: es, x, v, vs, h, hv => by
    obtain ⟨v', us, e', ⟨xs, ho, hE⟩, h2⟩ := h
    cases e'
    exact ⟨v, vs, rfl, row_Rc ho hE hn hv, h2.weaken hn⟩

theorem meets_dat {P : Program} {f : FuncId} {ps rs : List (Bool × List D1)} {e : TypeId} {t : Ty} {F : dens (flatC ps) → Option (dens (flatC ((false, [.own e t]) :: rs) ++ outsC ps))} {F' : dens (flatC ps) → Option (dens (flatC ((false, [.dat (.list t)]) :: rs) ++ outsC ps))}
    (h : Meets P f ⟨ps, (false, [.own e t]) :: rs, F⟩) (hF : ∀ x y, F' x = some y → ∃ z : dens (.own e t :: (flatC rs ++ outsC ps)), F x = some z ∧ y = convH e t _ z) : Meets P f ⟨ps, (false, [.dat (.list t)]) :: rs, F'⟩ := by
  refine ⟨h.enters, ?_⟩
  intro w X args cells x y hc hX hp hn hy
  obtain ⟨z, hz, rfl⟩ := hF x y hy
  refine (h.calls w X args cells x z hc hX hp hn hz).mono ?_
  rintro e' w' ⟨v, vs, rcells, he, hg, hcv, hfr, hpl, hnd, hnew⟩
  obtain ⟨u, vs', cs', h1, rfl, h2, rfl, h3⟩ := hcv
  have hlt := callK_ok.ownB_lt hp
  refine ⟨v, u :: vs', u :: cs', he, hg, ⟨u, vs', cs', h1, rfl, h2, rfl, h3⟩, hfr, ?_, ?_, ?_⟩
  · have hsub : ∀ r, r ∈ ownB (flatC rs) cs' → r ∈ ownB (.own e t :: flatC rs) (u :: cs') := by
      intro r hr
      unfold ownB
      split
      · exact List.mem_cons_of_mem _ hr
      · exact hr
    refine PL.head (N := fun r => X r ∨ r ∈ ownB (flatC ps) cells ∨ r ∈ ownB (.own e t :: flatC rs) (u :: cs')) ?_ hpl ?_
    · rintro r (hr | hr | hr)
      · exact .inl hr
      · exact .inr (.inl hr)
      · exact .inr (.inr (hsub r hr))
    · intro r hr hN
      have hmem : r ∈ ownB (.own e t :: flatC rs) (u :: cs') := by unfold ownB; rw [hr]; simp
      have hge := hnew r hmem
      rcases hN with hq | hq | hq
      · have := (hX r hq).1; omega
      · have := hlt r hq; omega
      · have hnd' : (ownB (.own e t :: flatC rs) (u :: cs')).Nodup := hnd
        unfold ownB at hnd'
        rw [hr] at hnd'
        exact (List.nodup_cons.1 hnd').1 hq
  · have hnd' : (ownB (.own e t :: flatC rs) (u :: cs')).Nodup := hnd
    unfold ownB at hnd'
    split at hnd'
    · exact (List.nodup_cons.1 hnd').2
    · exact hnd'
  · intro r hr
    refine hnew r ?_
    show r ∈ ownB (.own e t :: flatC rs) (u :: cs')
    unfold ownB
    split
    · exact List.mem_cons_of_mem _ hr
    · exact hr

end Go.V
end

section
namespace Go.V
open Go Go.RowKit Go.ChangeShapes Go.WideShapes
set_option linter.unusedVariables false
set_option linter.unusedSimpArgs false

/-! ### Data in cells -/

def flatD : Ty → List D1
  | .unit => []
  | .pair a b => flatD a ++ flatD b
  | .struct t => flatD t
  | t => [.dat t]

def joinD : (ds es : List D1) → dens ds → dens es → dens (ds ++ es)
  | [], _, _, y => y
  | [_], [], x, _ => x
  | [_], _ :: _, x, y => (x, y)
  | _ :: d' :: ds, es, x, y => (x.1, joinD (d' :: ds) es x.2 y)

def flatX : (t : Ty) → t.den → dens (flatD t)
  | .unit, _ => ()
  | .pair a b, x => joinD (flatD a) (flatD b) (flatX a x.1) (flatX b x.2)
  | .struct t, x => flatX t x
  | .int _, x => x
  | .bool, x => x
  | .str, x => x
  | .list _, x => x
  | .ptr _, x => x
  | .clo _ _, x => x
  | .map _ _, x => x
  | .optr _, x => x

/-- What is known of data that comes in. -/
def Bnd : (t : Ty) → t.den → Prop
  | .int k, n => (Lit.int k n).wf = true
  | .str, s => ByteArray.size s ≤ maxLen
  | .list t, l => List.length l ≤ maxLen ∧ ∀ a : t.den, List.Mem a l → Bnd t a
  | .pair a b, x => Bnd a x.1 ∧ Bnd b x.2
  | .struct t, x => Bnd t x
  | _, _ => True

def Bnd1 : (d : D1) → d.den → Prop
  | .dat t, x => Bnd t x
  | _, _ => True

def BL : (ds : List D1) → dens ds → Prop
  | [], _ => True
  | [d], x => Bnd1 d x
  | d :: d' :: ds, x => Bnd1 d x.1 ∧ BL (d' :: ds) x.2

section
variable {w : World} {N : Nat → Prop}

theorem PL.join : ∀ {ds es : List D1} {x : dens ds} {y : dens es} {vs us : List Value}, PL w N ds x vs → PL w N es y us → PL w N (ds ++ es) (joinD ds es x y) (vs ++ us)
  | [], es, x, y, vs, us, h, k => by
    have : vs = [] := h
    subst this
    exact k
  | [d], [], x, y, vs, us, h, k => by
    have : us = [] := k
    subst this
    obtain ⟨v, rfl, h⟩ := h
    exact ⟨v, rfl, h⟩
  | [d], e :: es, x, y, vs, us, h, k => by
    obtain ⟨v, rfl, h⟩ := h
    exact ⟨v, us, rfl, h, k⟩
  | d :: d' :: ds, es, x, y, vs, us, h, k => by
    obtain ⟨v, vs', rfl, h, h'⟩ := h
    exact ⟨v, vs' ++ us, rfl, h, PL.join (ds := d' :: ds) h' k⟩

theorem BL.join : ∀ {ds es : List D1} {x : dens ds} {y : dens es}, BL ds x → BL es y → BL (ds ++ es) (joinD ds es x y)
  | [], es, x, y, h, k => k
  | [d], [], x, y, h, k => h
  | [d], e :: es, x, y, h, k => ⟨h, k⟩
  | d :: d' :: ds, es, x, y, h, k => ⟨h.1, BL.join (ds := d' :: ds) h.2 k⟩

theorem flat_PL : ∀ {t : Ty} {x : t.den} {cs : List Value}, Rc w N t x cs → PL w N (flatD t) (flatX t x) cs
  | .unit, _, _, h => h
  | .pair a b, x, _, ⟨c, d, e, h, k⟩ => by rw [e]; exact (flat_PL h).join (flat_PL k)
  | .struct t, x, _, h => flat_PL (t := t) h
  | .int k, x, cs, h => by cases h; exact ⟨_, rfl, (rfl : [_] = [_])⟩
  | .bool, x, cs, h => by cases h; exact ⟨_, rfl, (rfl : [_] = [_])⟩
  | .str, x, cs, h => by cases h; exact ⟨_, rfl, (rfl : [_] = [_])⟩
  | .list t, x, cs, h => by
    have h' := h
    obtain ⟨A, cap, e, _⟩ := h'
    subst e
    exact ⟨_, rfl, h⟩
  | .ptr t, x, cs, h => by
    have h' := h
    obtain ⟨A, e, _⟩ := h'
    subst e
    exact ⟨_, rfl, h⟩
  | .clo f t, x, cs, h => by
    have h' := h
    obtain ⟨v, e, _⟩ := h'
    subst e
    exact ⟨_, rfl, h⟩
  | .map a b, x, cs, h => by
    have h' := h
    obtain ⟨r, es, c, e, _⟩ := h'
    subst e
    exact ⟨_, rfl, h⟩
  | .optr t, none, cs, h => by
    have h' : cs = [.pointer none] := h
    subst h'
    exact ⟨_, rfl, h⟩
  | .optr t, some y, cs, h => by
    have h' := h
    obtain ⟨a, e, _⟩ := h'
    subst e
    exact ⟨_, rfl, h⟩

theorem flat_BL : ∀ {t : Ty} {x : t.den}, Bnd t x → BL (flatD t) (flatX t x)
  | .unit, _, h => trivial
  | .pair a b, x, h => (flat_BL h.1).join (flat_BL h.2)
  | .struct t, x, h => flat_BL (t := t) h
  | .int k, x, h => h
  | .bool, x, h => h
  | .str, x, h => h
  | .list t, x, h => h
  | .ptr t, x, h => h
  | .clo f t, x, h => h
  | .map a b, x, h => h
  | .optr t, x, h => h
end

/-! ### Types that are read -/

def rdParts (tb : TypeId → Option TI) (rec : TypeId → Option Ty) : List (Nat × TypeId) → Nat → Option Ty
  | [], _ => some .unit
  | (o, t) :: l, off => match rec t, tb t with
    | some s, some j => match Nat.beq o off, Nat.beq j.size s.size with
      | true, true => match rdParts tb rec l (off + s.size) with
        | some r => some (.pair s r)
        | none => none
      | _, _ => none
    | _, _ => none

def rdTy (tb : TypeId → Option TI) : Nat → TypeId → Option Ty
  | 0, _ => none
  | n + 1, t => match tb t with
    | some i => match i.tk with
      | .int k => some (.int k)
      | .bool => some .bool
      | .str => some .str
      | .slice e => match rdTy tb n e, tb e with
        | some s, some j => match Nat.beq j.size s.size with
          | true => some (.list s)
          | false => none
        | _, _ => none
      | .struct fs => match rdParts tb (rdTy tb n) fs 0 with
        | some s => match Nat.beq i.size s.size with
          | true => some (.struct s)
          | false => none
        | none => none
      | _ => none
    | none => none

section
variable {H : Type} {enc : TypeId × Value → H} {P : Program} {tb : TypeId → Option TI} {w : World} {base : Nat} {spare : Nat → Bool} {held : Bool}

theorem cellsOf_entry {t : TypeId} {i : TI} (en : Entry P t i) : P.cellsOf t = i.size := by
  simp [Program.cellsOf, en.hi, en.hsize]

theorem parts_Rc {rec : TypeId → Option Ty} {tbok : TbOK P tb} {fuel : Nat} (ih : ∀ {t : TypeId} {ty : Ty} {cs : List Value} {y : DataW H × List MemPlace}, rec t = some ty → DataW.trod enc P w base spare held fuel t cs = some y → ∃ x : ty.den, Rc w (fun _ => False) ty x cs ∧ Bnd ty x) :
    ∀ {fs : List (Nat × TypeId)} {off : Nat} {ty : Ty} {cs : List Value}, rdParts tb rec fs off = some ty → (∀ p ∈ fs, ∃ y, DataW.trod enc P w base spare held fuel p.2 ((cs.drop p.1).take (P.cellsOf p.2)) = some y) → cs.length = off + ty.size →
      ∃ x : ty.den, Rc w (fun _ => False) ty x (cs.drop off) ∧ Bnd ty x
  | [], off, ty, cs, h, _, hl => by
    cases h
    refine ⟨(), ?_, trivial⟩
    show cs.drop off = []
    exact List.drop_eq_nil_of_le (by simp only [Ty.size] at hl; omega)
  | (o, t) :: l, off, ty, cs, h, hr, hl => by
    unfold rdParts at h
    split at h
    · rename_i s j hs hj
      split at h
      · rename_i e1 e2
        have e1 := Nat.eq_of_beq_eq_true e1
        have e2 := Nat.eq_of_beq_eq_true e2
        subst e1
        obtain ⟨en⟩ := tbok.entry hj
        split at h
        · rename_i r hr'
          cases h
          simp only [Ty.size] at hl
          obtain ⟨y, hy⟩ := hr (o, t) (by simp)
          simp only [cellsOf_entry en, e2] at hy
          obtain ⟨x1, h1, b1⟩ := ih hs hy
          obtain ⟨x2, h2, b2⟩ := parts_Rc (tbok := tbok) ih hr' (fun p hp => hr p (by simp [hp])) (by omega)
          refine ⟨(x1, x2), ⟨_, _, ?_, h1, h2⟩, b1, b2⟩
          rw [← List.drop_drop]
          exact (List.take_append_drop _ _).symm
        · cases h
      · cases h
    · cases h

theorem trod_Rc (tbok : TbOK P tb) : ∀ (n : Nat) {t : TypeId} {ty : Ty} {fuel : Nat} {cs : List Value} {y : DataW H × List MemPlace}, rdTy tb n t = some ty → DataW.trod enc P w base spare held fuel t cs = some y → ∃ x : ty.den, Rc w (fun _ => False) ty x cs ∧ Bnd ty x
  | 0, t, ty, fuel, cs, y, h, _ => by cases h
  | n + 1, t, ty, fuel, cs, y, h, hd => by
    unfold rdTy at h
    split at h
    · rename_i i hi
      obtain ⟨en⟩ := tbok.entry hi
      split at h
      · rename_i k hk
        cases h
        obtain ⟨m, rfl, _, hw⟩ := DataW.trod_int (int_of en hk) hd
        exact ⟨m, (rfl : [_] = [_]), hw⟩
      · rename_i hk
        cases h
        have hu : P.underlying t = some .bool := by
          have hu := en.hu
          have ht := en.htk
          generalize en.d = d at hu ht
          rw [hk] at ht
          cases d <;> simp [tkOf] at ht
          rw [hu]
        obtain ⟨b, rfl, _⟩ := DataW.trod_bool hu hd
        exact ⟨b, (rfl : [_] = [_]), trivial⟩
      · rename_i hk
        cases h
        obtain ⟨s, rfl, _, hs⟩ := DataW.trod_string (str_of en hk) hd
        exact ⟨s, (rfl : [_] = [_]), hs⟩
      · rename_i e hk
        split at h
        · rename_i s j hs hj
          split at h
          · rename_i hsz
            have hsz := Nat.eq_of_beq_eq_true hsz
            cases h
            obtain ⟨en'⟩ := tbok.entry hj
            rcases DataW.trod_slice (slice_of en hk) hd with ⟨rfl, _⟩ | ⟨a, len, cap, elems, rest, m, _, rfl, _, _, hlc, hcm, hlen, hel, _, _⟩
            · exact ⟨[], ⟨none, 0, rfl, Nat.le_refl _, fun _ => rfl, fun i hi => absurd hi (Nat.not_lt_zero _)⟩, Nat.zero_le _, fun a ha => by cases ha⟩
            · have key : ∀ i : Fin len, ∃ x : s.den, (∃ c, c.length = s.size ∧ At w (fun _ => False) (a.add (i.1 * s.size)) c ∧ Rc w (fun _ => False) s x c) ∧ Bnd s x := by
                intro ⟨i, hi⟩
                have h1 := hel i hi
                have h2 : elems[i]? = some elems[i] := List.getElem?_eq_getElem (by omega)
                rw [h2] at h1
                obtain ⟨c, hc, h3⟩ := Option.bind_eq_some_iff.1 h1
                obtain ⟨_, hcl, hcc⟩ := World.cells?_some hc
                obtain ⟨x, hx, hb⟩ := trod_Rc tbok n hs h3
                rw [cellsOf_entry en', hsz] at hcl hcc
                rw [cellsOf_entry en', hsz] at hc
                refine ⟨x, ⟨c, hcl, ?_, hx⟩, hb⟩
                intro q hq
                refine ⟨fun h => h, ?_⟩
                rw [hcc q (by omega), List.getElem?_eq_getElem hq]
              refine ⟨List.ofFn fun i => Classical.choose (key i), ?_, ?_, ?_⟩
              · refine ⟨some a, cap, by simp, by simpa using hlc, fun h => (Option.some_ne_none _ h).elim, fun i hi => ?_⟩
                have hi' : i < len := by simpa using hi
                obtain ⟨⟨c, h1, h2, h3⟩, _⟩ := Classical.choose_spec (key ⟨i, hi'⟩)
                refine ⟨a, rfl, c, h1, h2, ?_⟩
                simpa using h3
              · show (List.ofFn _).length ≤ _
                simp; omega
              · intro z hz
                obtain ⟨i, rfl⟩ := List.mem_ofFn.1 hz
                exact (Classical.choose_spec (key i)).2
          · cases h
        · cases h
      · rename_i fs hk
        split at h
        · rename_i s hs
          split at h
          · rename_i hsz
            have hsz := Nat.eq_of_beq_eq_true hsz
            cases h
            obtain ⟨F, hu, rfl⟩ := struct_of en hk
            obtain ⟨xs, m, rfl, _, hl, hlen, hf⟩ := DataW.trod_struct hu hd
            rw [cellsOf_entry en, hsz] at hl
            have := parts_Rc (enc := enc) (w := w) (base := base) (spare := spare) (held := held) (tbok := tbok) (fuel := m) (fun h1 h2 => trod_Rc tbok n h1 h2) hs (cs := cs) (fun p hp => by
              obtain ⟨f, hfm, rfl⟩ := List.mem_map.1 hp
              obtain ⟨i, hi, rfl⟩ := List.mem_iff_getElem.1 hfm
              have hi' : i < F.size := by simpa using hi
              refine ⟨xs[i]'(by omega), ?_⟩
              have := hf i F.toList[i] (by simp [hi'])
              rw [this, List.getElem?_eq_getElem (by omega)]) (by omega)
            rw [List.drop_zero] at this
            exact this
          · cases h
        · cases h
      · cases h
    · cases h

/-! ### Arguments -/

def isStructTK : TK → Bool
  | .struct _ => true
  | _ => false

def psOf (tb : TypeId → Option TI) : List TypeId → Option (List (Bool × List D1))
  | [] => some []
  | t :: ts => match rdTy tb 8 t, tb t with
    | some ty, some i => match psOf tb ts with
      | some l => some ((isStructTK i.tk, flatD ty) :: l)
      | none => none
    | _, _ => none

theorem arg_one {r : Reach} {b0 : Nat} {t : TypeId} {i : TI} {ty : Ty} {v : Value} (en : Entry P t i) (hi : tb t = some i) (h : rdTy tb 8 t = some ty) (hs : isStructTK i.tk = false) (hv : Value.okWide P w r b0 t v) : v.oneCell' = true ∧ (flatD ty).length = 1 := by
  unfold rdTy at h
  rw [hi] at h
  simp only at h
  cases hk : i.tk with
  | int k =>
    rw [hk] at h; cases h
    obtain ⟨n, rfl⟩ := okWide_int (int_of en hk) hv
    exact ⟨rfl, rfl⟩
  | bool =>
    rw [hk] at h; cases h
    have hu : P.underlying t = some .bool := by
      have hu := en.hu
      have ht := en.htk
      generalize en.d = d at hu ht
      rw [hk] at ht
      cases d <;> simp [tkOf] at ht
      rw [hu]
    obtain ⟨n, rfl⟩ := okWide_bool hu hv
    exact ⟨rfl, rfl⟩
  | str =>
    rw [hk] at h; cases h
    obtain ⟨n, rfl⟩ := okWide_string (str_of en hk) hv
    exact ⟨rfl, rfl⟩
  | slice e =>
    rw [hk] at h
    simp only at h
    split at h
    · split at h
      · cases h
        obtain ⟨a, l, c, rfl⟩ := okWide_slice (slice_of en hk) hv
        exact ⟨rfl, rfl⟩
      · cases h
    · cases h
  | struct fs => rw [hk] at hs; cases hs
  | _ => rw [hk] at h; cases h

theorem args_PL (tbok : TbOK P tb) : ∀ {ts : List TypeId} {ps : List (Bool × List D1)} {vs : List Value} {ds : List (DataW H)} {p : List MemPlace} {r : Reach} {b0 : Nat}, psOf tb ts = some ps → DataW.TrodAll enc P w base spare held ts vs ds p →
    (∀ (j : Nat) t v, ts[j]? = some t → vs[j]? = some v → Value.okWide P w r b0 t v) → ∃ (cells : List Value) (x : dens (flatC ps)), CompsV ps vs cells ∧ PL w (fun _ => False) (flatC ps) x cells ∧ BL (flatC ps) x
  | [], ps, vs, ds, p, r, b0, h, ha, _ => by
    cases h
    obtain ⟨rfl, _, _⟩ := trodAll_nil ha
    exact ⟨[], (), ⟨rfl, rfl⟩, rfl, trivial⟩
  | t :: ts, ps, vs, ds, p, r, b0, h, ha, hv => by
    unfold psOf at h
    split at h
    · rename_i ty i hty hi
      split at h
      · rename_i l hl
        cases h
        obtain ⟨en⟩ := tbok.entry hi
        obtain ⟨v, vs', d, ds', p', q, rfl, rfl, rfl, h1, h2⟩ := trodAll_cons ha
        obtain ⟨cells, x, c1, c2, c3⟩ := args_PL tbok hl h2 (fun j t' v' h1 h2 => hv (j + 1) t' v' (by simpa using h1) (by simpa using h2))
        obtain ⟨fuel, hd⟩ := h1
        obtain ⟨y, hy, hb⟩ := trod_Rc tbok 8 hty hd
        have hval := hv 0 t v rfl rfl
        refine ⟨v.cells.toList ++ cells, joinD (flatD ty) (flatC l) (flatX ty y) x, ?_, (flat_PL hy).join c2, (flat_BL hb).join c3⟩
        cases hs : isStructTK i.tk with
        | true =>
          have : ∃ fs, i.tk = .struct fs := by
            cases hk : i.tk <;> rw [hk] at hs <;> first | exact ⟨_, rfl⟩ | cases hs
          obtain ⟨fs, hk⟩ := this
          obtain ⟨F, hu, _⟩ := struct_of en hk
          obtain ⟨cs, rfl, _⟩ := okWide_struct hu hval
          exact ⟨cs.toList, vs', cells, by simp, by rw [← (flat_PL hy).length]; rfl, rfl, c1⟩
        | false =>
          obtain ⟨o1, o2⟩ := arg_one en hi hty hs hval
          have e : v.cells.toList = [v] := by rw [cells_one o1]
          rw [e]
          exact ⟨v, vs', cells, o2, rfl, o1, rfl, c1⟩
      · cases h
    · cases h

theorem ownB_none : ∀ {ds : List D1} {vs : List Value}, ds.filter (·.isOwn) = [] → ownB ds vs = []
  | [], vs, _ => by simp [ownB]
  | .dat t :: ds, [], _ => by simp [ownB]
  | .dat t :: ds, v :: vs, h => by
    rw [List.filter_cons_of_neg (by simp [D1.isOwn])] at h
    exact ownB_none (ds := ds) h
  | .own e t :: ds, _, h => by rw [List.filter_cons_of_pos (by simp [D1.isOwn])] at h; cases h
  | .cel t :: ds, _, h => by rw [List.filter_cons_of_pos (by simp [D1.isOwn])] at h; cases h

/-- A law's function gives true: the law's call gives true, and what was there stays. -/
theorem law_calls (tbok : TbOK P tb) {f : FuncId} {ts : List TypeId} {ps : List (Bool × List D1)} {F : Nat → dens (flatC ps) → Option (dens (flatC [(false, [D1.dat .bool])] ++ outsC ps))} (hps : psOf tb ts = some ps) (hout : outsC ps = [])
    (hm : ∀ k, Meets P f ⟨ps, [(false, [.dat .bool])], F k⟩) (hpure : ∀ x, BL (flatC ps) x → ∃ k y, F k x = some y ∧ (splitD [D1.dat .bool] (outsC ps) y).1 = true)
    {args : Array Value} {ds : List (DataW H)} {p : List MemPlace} {r : Reach} {b0 : Nat} (ha : DataW.TrodAll enc P w base spare held ts args.toList ds p) (hv : ∀ (j : Nat) t v, ts[j]? = some t → args[j]? = some v → Value.okWide P w r b0 t v) :
    Calls P f args w fun e w' => e = .returned (.bool true) ∧ Below w.heap.size w w' := by
  obtain ⟨cells, x, c1, c2, c3⟩ := args_PL tbok hps ha (fun j t v h1 h2 => hv j t v h1 (by simpa using h2))
  obtain ⟨k, y, hy, hb⟩ := hpure x c3
  have hown : ownB (flatC ps) cells = [] := ownB_none hout
  have := (hm k).calls w (fun _ => False) args.toList cells x y c1 (fun r h => h.elim) (c2.weaken fun r h => by
    rcases h with h | h
    · exact h
    · simp only [hown] at h; cases h) (by show (ownB (flatC ps) cells).Nodup; rw [hown]; exact List.nodup_nil) hy
  rw [Array.toArray_toList] at this
  refine this.mono ?_
  rintro e w' ⟨v, vs, rcells, rfl, hg, hcv, hfr, hpl, _, _⟩
  obtain ⟨u, vs', cs', _, rfl, _, rfl, e1, e2⟩ := hcv
  subst e1; subst e2
  have hg : v = u := hg
  subst hg
  obtain ⟨h1, _⟩ := PL.split (ds := [D1.dat .bool]) (es := outsC ps) (vs := [v]) rfl hpl
  obtain ⟨v', e, h2⟩ := h1
  have h3 : [v'] = [Value.bool (splitD [D1.dat .bool] (outsC ps) y).1] := h2
  rw [hb] at h3
  refine ⟨?_, hfr.os, hfr.tape, hfr.output, hfr.size, fun k hk => hfr.block k hk (by show k ∉ ownB (flatC ps) cells; rw [hown]; simp)⟩
  have : v = v' := by simpa using e
  rw [this]
  congr 1
  simpa using h3

/-- The arguments read behind the call as before. -/
theorem args_stay (hl : laidOutB P = true) {w' : World} (hb : Below w.heap.size w w') : ∀ {ts : List TypeId} {vs : List Value} {ds : List (DataW H)} {p : List MemPlace}, ts.all (fun t => P.readableRec t && decide (t < P.types.size)) = true → DataW.TrodAll enc P w 0 (fun _ => true) true ts vs ds p →
    DataW.TrodAll enc P w' 0 (fun b => decide (b < w.heap.size)) true ts vs ds p
  | [], vs, ds, p, _, h => by
    obtain ⟨rfl, rfl, rfl⟩ := trodAll_nil h
    exact rfl
  | t :: ts, vs, ds, p, ht, h => by
    rw [List.all_cons, Bool.and_eq_true, Bool.and_eq_true] at ht
    obtain ⟨v, vs', d, ds', p', q, rfl, rfl, rfl, h1, h2⟩ := trodAll_cons h
    have lt : ∀ x ∈ p', x.block < w.heap.size := by obtain ⟨m, hm⟩ := h1; exact DataW.trod_lt m _ _ _ hm
    exact ⟨p', q, hb.trod hl ht.1.1 (of_decide_eq_true ht.1.2) h1 lt, args_stay hl hb ht.2 h2, rfl⟩

end
end Go.V
end
