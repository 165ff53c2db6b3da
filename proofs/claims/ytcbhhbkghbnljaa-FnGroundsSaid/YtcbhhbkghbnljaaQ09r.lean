/- The first route. -/
import Derived.Test.YtcbhhbkghbnljaaQ09a
import Derived.Test.YtcbhhbkghbnljaaQ02p
set_option linter.unusedVariables false
set_option linter.unusedSimpArgs false
namespace Go.Proofs.Ytcbhhbkghbnljaa.Vf
open Go Go.V Go.RowKit

theorem safe_good {p r : Int} {G : List Int} (W : Wt p r G) {x : Int} (h0 : 0 ≤ x) (h1 : x < cnt G * (G.length : Int)) (hx : (safe r G).getD x.toNat false = true) : ∃ y, firstM r G (safe r G) x = some y := by
  obtain ⟨h2, h3⟩ := safe_fix W (k := 20003) (Nat.le_refl _)
  have hw := W.all
  have := fix_good (goodW r G) _ _ _ _ h2 (fun e => by cases e) x.toNat (by omega) hx
  unfold goodW at this
  rw [show ((x.toNat : Nat) : Int) = x by omega] at this
  exact Option.isSome_iff_exists.1 this

noncomputable def nextW (r : Int) (G : List Int) (x : Int) : Int := (firstM r G (safe r G) x).getD (-1)

noncomputable def route (r : Int) (G : List Int) : Nat → Int → List Int → List Int → Option (List Int × Int)
  | 0, _, _, _ => none
  | n + 1, x, came, out => if rd came x = 0 then route r G n (nextW r G x) (came.set x.toNat (out.length + 1)) (out ++ [x % (G.length : Int)])
    else if 120 < ((out.drop (rd came x - 1).toNat).length : Int) then some ([], 3) else some (out.drop (rd came x - 1).toNat, 0)

def zers (l : List Int) : Nat := (l.filter fun x => decide (x = 0)).length

theorem zers_set : ∀ {l : List Int} {i : Nat} {x : Int}, i < l.length → l.getD i 0 = 0 → x ≠ 0 → zers (l.set i x) + 1 = zers l
  | [], i, x, h, _, _ => by simp at h
  | a :: l, 0, x, _, h, h0 => by
    have h2 : a = 0 := by simpa using h
    simp [zers, h0, h2]
  | a :: l, i + 1, x, hi, h, h0 => by
    have := zers_set (l := l) (i := i) (x := x) (by simpa using hi) (by simpa using h) h0
    unfold zers at this ⊢
    rw [List.set_cons_succ, List.filter_cons, List.filter_cons]
    by_cases e : a = 0
    · rw [if_pos (by simpa using e), if_pos (by simpa using e), List.length_cons, List.length_cons]; omega
    · rw [if_neg (by simpa using e), if_neg (by simpa using e)]; exact this

theorem zers_rep : ∀ (m : Nat), zers (List.replicate m (0 : Int)) = m := by
  intro m
  induction m with
  | zero => rfl
  | succ m ih =>
    unfold zers at ih ⊢
    rw [List.replicate_succ, List.filter_cons, if_pos (by simp), List.length_cons, ih]

structure RouteI (r : Int) (G : List Int) (x : Int) (came out : List Int) : Prop where
  x0 : 0 ≤ x
  x1 : x < cnt G * (G.length : Int)
  sx : (safe r G).getD x.toNat false = true
  cl : (came.length : Int) = cnt G * (G.length : Int)
  ol : (out.length : Int) + zers came = cnt G * (G.length : Int)
  cb : ∀ i : Nat, i < came.length → 0 ≤ rd came i ∧ rd came i ≤ out.length

theorem RouteI.next {p r : Int} {G came out : List Int} {x : Int} (W : Wt p r G) (I : RouteI r G x came out) (hn : rd came x = 0) :
    RouteI r G (nextW r G x) (came.set x.toNat (out.length + 1)) (out ++ [x % (G.length : Int)]) := by
  obtain ⟨y, hy⟩ := safe_good W I.x0 I.x1 I.sx
  obtain ⟨h3, h4, h5⟩ := find_nonneg W.t hy
  have e : nextW r G x = y := by unfold nextW; rw [hy]; rfl
  have hv0 := I.x0; have hv1 := I.x1; have hcl := I.cl; have hol := I.ol
  have hlen : x.toNat < came.length := by omega
  have hz := zers_set (l := came) (i := x.toNat) (x := (out.length : Int) + 1) hlen hn (by omega)
  rw [e]
  refine ⟨h3, h4, h5, by simpa using hcl, by simp; omega, fun i hi => ?_⟩
  have hi' : i < came.length := by simpa using hi
  rw [rd_set hlen]
  split
  · simp; omega
  · have := I.cb i hi'
    simp; omega

theorem route_some {p r : Int} {G : List Int} (W : Wt p r G) : ∀ (n : Nat) (x : Int) (came out : List Int), RouteI r G x came out → zers came < n → ∃ y, route r G n x came out = some y ∧ y.1.length ≤ 120
  | 0, x, came, out, I, hn => by omega
  | n + 1, x, came, out, I, hn => by
    unfold route
    by_cases hb : rd came x = 0
    · rw [if_pos hb]
      have hv0 := I.x0; have hv1 := I.x1; have hcl := I.cl
      have hz := zers_set (l := came) (i := x.toNat) (x := (out.length : Int) + 1) (by omega) hb (by omega)
      exact route_some W n _ _ _ (I.next W hb) (by omega)
    · rw [if_neg hb]
      by_cases h : (120 : Int) < ((out.drop (rd came x - 1).toNat).length : Int)
      · rw [if_pos h]; exact ⟨_, rfl, by simp⟩
      · rw [if_neg h]; exact ⟨_, rfl, by show (out.drop _).length ≤ _; omega⟩

theorem route_mono (r : Int) (G : List Int) : ∀ (n n' : Nat) (x : Int) (came out : List Int) (y : List Int × Int), n ≤ n' → route r G n x came out = some y → route r G n' x came out = some y
  | 0, _, _, _, _, _, _, h => by cases h
  | n + 1, 0, _, _, _, _, h, _ => by omega
  | n + 1, n' + 1, x, came, out, y, h, e => by
    unfold route at e ⊢
    by_cases hb : rd came x = 0
    · rw [if_pos hb] at e ⊢
      exact route_mono r G n n' _ _ _ y (by omega) e
    · rw [if_neg hb] at e ⊢; exact e

/-! ### The reference's -/

/-! ### The program's -/

noncomputable def routeR (p r : Int) (G : List Int) : List Int × Int := if codeW p r G = 0 then (match beginF r G 0 G.length with | some x => (route r G 20001 x (List.replicate (allW G) 0) []).getD ([], 0) | none => ([], 4)) else ([], codeW p r G)

theorem begin_ok {p r : Int} {G : List Int} (W : Wt p r G) {x : Int} (h : beginF r G 0 G.length = some x) : 0 ≤ x ∧ x < cnt G * (G.length : Int) ∧ (safe r G).getD x.toNat false = true := by
  unfold beginF at h
  obtain ⟨t, ht, rfl⟩ := Option.map_eq_some_iff.1 h
  have h1 := List.find?_some (p := fun t : Nat => (safe r G).getD (wholeN G t).toNat false) ht
  have h2 := List.mem_range'_1.1 (List.mem_of_find?_eq_some ht)
  obtain ⟨b1, b2⟩ := whole_bnd W (t := t) (by omega)
  exact ⟨b1, b2, h1⟩

theorem route_start {p r : Int} {G : List Int} (W : Wt p r G) {x : Int} (h : beginF r G 0 G.length = some x) : RouteI r G x (List.replicate (allW G) 0) [] := by
  obtain ⟨b1, b2, b3⟩ := begin_ok W h
  have hw := W.all
  refine ⟨b1, b2, b3, by simp; omega, by rw [zers_rep]; simp; omega, fun i hi => ?_⟩
  have hi' : i < allW G := by simpa using hi
  rw [rd_lt hi]
  simp

theorem routeR_eq {p r : Int} {G : List Int} (hf : codeW p r G = 0) {x : Int} (h : beginF r G 0 G.length = some x) : ∃ y, route r G 20001 x (List.replicate (allW G) 0) [] = some y ∧ routeR p r G = y ∧ y.1.length ≤ 120 := by
  have W := codeW_zero hf
  have hw := W.all
  obtain ⟨y, h1, h2⟩ := route_some W 20001 _ _ _ (route_start W h) (by rw [zers_rep]; omega)
  refine ⟨y, h1, ?_, h2⟩
  unfold routeR
  rw [if_pos hf, h]
  simp only [h1, Option.getD_some]

theorem routeR_len (p r : Int) (G : List Int) : (routeR p r G).1.length ≤ 120 := by
  by_cases hf : codeW p r G = 0
  · cases hb : beginF r G 0 G.length with
    | none => unfold routeR; rw [if_pos hf, hb]; simp
    | some x =>
      obtain ⟨y, _, h1, h2⟩ := routeR_eq hf hb
      rw [h1]; exact h2
  · unfold routeR; rw [if_neg hf]; simp

end Go.Proofs.Ytcbhhbkghbnljaa.Vf
