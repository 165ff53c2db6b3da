/- An evaluator of Go code over typed data, and that the model runs as it says (part 3). Conditions: as each theorem states. My own. -/
import Derived.Test.YtjkeadiepbldhaaVb
import Derived.ChangeArms
import Derived.ChangeShapes
import Derived.Carry
section
namespace Go.V
open Go Go.RowKit

def rd (l : List Int) (i : Int) : Int := l.getD i.toNat 0
def rdOf {α : Type} (d : α) (l : List α) (i : Int) : α := l.getD i.toNat d

def mgI {α : Type} (l : List (Int × α)) (i : Int) : Option α := mget (.int .i64) l i
def mgS {α : Type} (l : List (ByteArray × α)) (i : ByteArray) : Option α := mget .str l i
def mpI {α : Type} (l : List (Int × α)) (i : Int) (x : α) : List (Int × α) := mput (.int .i64) l i x
def mpS {α : Type} (l : List (ByteArray × α)) (i : ByteArray) (x : α) : List (ByteArray × α) := mput .str l i x

def orcOf : List (Nat × Does) → FuncId → List Does
  | [], _ => []
  | (f, S) :: l, g => match Nat.beq g f with
    | true => S :: orcOf l g
    | false => orcOf l g

def lvOf : List (Nat × List (Nat × List LvK)) → Nat → List (Nat × List LvK)
  | [], _ => []
  | (c, l) :: m, d => match Nat.beq d c with
    | true => l
    | false => lvOf m d

theorem orc_nil {P : Program} : OrcOK P (orcOf []) := fun _ _ h => by cases h

theorem orc_cons {P : Program} {f : FuncId} {S : Does} {l : List (Nat × Does)} (h : Meets P f S) (hl : OrcOK P (orcOf l)) : OrcOK P (orcOf ((f, S) :: l)) := by
  intro g S' hm
  unfold orcOf at hm
  split at hm
  · rename_i e
    have e := Nat.eq_of_beq_eq_true e
    subst e
    rcases List.mem_cons.1 hm with rfl | hm
    · exact h
    · exact hl _ _ hm
  · exact hl _ _ hm

theorem tb_of {P : Program} : ∀ {l : List (Nat × TI)}, l.map (fun p => entryOf P p.1) = l.map (fun p => some p.2) → TbOK P (look l)
  | [], _, t, i, h => by cases h
  | (k, v) :: l, h, t, i, hi => by
    simp only [List.map_cons, List.cons.injEq] at h
    rw [look_cons] at hi
    split at hi
    · rename_i e
      cases hi
      rw [e]
      exact h.1
    · exact tb_of h.2 t i hi

/-! ### A first result that is a new row, taken as data -/

def convH (e : TypeId) (t : Ty) : (es : List D1) → dens (.own e t :: es) → dens (.dat (.list t) :: es)
  | [], x => x
  | _ :: _, x => x

theorem PL.head {w : World} {N N' : Nat → Prop} (hn : ∀ r, N' r → N r) {e : TypeId} {t : Ty} : ∀ {es : List D1} {x : dens (.own e t :: es)} {v : Value} {vs : List Value}, PL w N (.own e t :: es) x (v :: vs) → (∀ r, blockOf v = some r → ¬ N' r) → PL w N' (.dat (.list t) :: es) (convH e t es x) (v :: vs)
  | [], x, v, vs, h, hv => by
    obtain ⟨v', e', xs, ho, hE⟩ := h
    cases e'
    exact ⟨v, rfl, row_Rc ho hE hn hv⟩
  | d :: es, x, v, vs, h, hv => by
    obtain ⟨v', us, e', ⟨xs, ho, hE⟩, h2⟩ := h
    cases e'
    exact ⟨v, vs, rfl, row_Rc ho hE hn hv, h2.weaken hn⟩

theorem meets_dat {P : Program} {f : FuncId} {ps rs : List (Bool × List D1)} {e : TypeId} {t : Ty} {F : dens (flatC ps) → Option (dens (flatC ((false, [.own e t]) :: rs) ++ outsC ps))} {F' : dens (flatC ps) → Option (dens (flatC ((false, [.dat (.list t)]) :: rs) ++ outsC ps))}
    (h : Meets P f ⟨ps, (false, [.own e t]) :: rs, F⟩) (hF : ∀ x y, F' x = some y → ∃ z : dens (.own e t :: (flatC rs ++ outsC ps)), F x = some z ∧ y = convH e t _ z) : Meets P f ⟨ps, (false, [.dat (.list t)]) :: rs, F'⟩ := by
  refine ⟨h.enters, ?_⟩
  intro w X args cells x y hc hX hp hn hy
  obtain ⟨z, hz, rfl⟩ := hF x y hy
  refine (h.calls w X args cells x z hc hX hp hn hz).mono ?_
  rintro e' w' ⟨v, vs, rcells, he, hg, hcv, hfr, hpl, hnd, hnew⟩
  obtain ⟨u, vs', cs', h1, rfl, h2, rfl, h3⟩ := hcv
  have hlt := callK_ok.ownB_lt hp
  refine ⟨v, u :: vs', u :: cs', he, hg, ⟨u, vs', cs', h1, rfl, h2, rfl, h3⟩, hfr, ?_, ?_, ?_⟩
  · have hsub : ∀ r, r ∈ ownB (flatC rs) cs' → r ∈ ownB (.own e t :: flatC rs) (u :: cs') := by
      intro r hr
      unfold ownB
      split
      · exact List.mem_cons_of_mem _ hr
      · exact hr
    refine PL.head (N := fun r => X r ∨ r ∈ ownB (flatC ps) cells ∨ r ∈ ownB (.own e t :: flatC rs) (u :: cs')) ?_ hpl ?_
    · rintro r (hr | hr | hr)
      · exact .inl hr
      · exact .inr (.inl hr)
      · exact .inr (.inr (hsub r hr))
    · intro r hr hN
      have hmem : r ∈ ownB (.own e t :: flatC rs) (u :: cs') := by unfold ownB; rw [hr]; simp
      have hge := hnew r hmem
      rcases hN with hq | hq | hq
      · have := (hX r hq).1; omega
      · have := hlt r hq; omega
      · have hnd' : (ownB (.own e t :: flatC rs) (u :: cs')).Nodup := hnd
        unfold ownB at hnd'
        rw [hr] at hnd'
        exact (List.nodup_cons.1 hnd').1 hq
  · have hnd' : (ownB (.own e t :: flatC rs) (u :: cs')).Nodup := hnd
    unfold ownB at hnd'
    split at hnd'
    · exact (List.nodup_cons.1 hnd').2
    · exact hnd'
  · intro r hr
    refine hnew r ?_
    show r ∈ ownB (.own e t :: flatC rs) (u :: cs')
    unfold ownB
    split
    · exact List.mem_cons_of_mem _ hr
    · exact hr

end Go.V
end

section
namespace Go.V
open Go Go.RowKit Go.ChangeShapes Go.WideShapes
set_option linter.unusedVariables false
set_option linter.unusedSimpArgs false

/-! ### Data in cells -/

def flatD : Ty → List D1
  | .unit => []
  | .pair a b => flatD a ++ flatD b
  | .struct t => flatD t
  | t => [.dat t]

def joinD : (ds es : List D1) → dens ds → dens es → dens (ds ++ es)
  | [], _, _, y => y
  | [_], [], x, _ => x
  | [_], _ :: _, x, y => (x, y)
  | _ :: d' :: ds, es, x, y => (x.1, joinD (d' :: ds) es x.2 y)

def flatX : (t : Ty) → t.den → dens (flatD t)
  | .unit, _ => ()
  | .pair a b, x => joinD (flatD a) (flatD b) (flatX a x.1) (flatX b x.2)
  | .struct t, x => flatX t x
  | .int _, x => x
  | .bool, x => x
  | .str, x => x
  | .list _, x => x
  | .ptr _, x => x
  | .clo _ _, x => x
  | .map _ _, x => x
  | .optr _, x => x

/-- What is known of data that comes in. -/
def Bnd : (t : Ty) → t.den → Prop
  | .int k, n => (Lit.int k n).wf = true
  | .str, s => ByteArray.size s ≤ maxLen
  | .list t, l => List.length l ≤ maxLen ∧ ∀ a : t.den, List.Mem a l → Bnd t a
  | .pair a b, x => Bnd a x.1 ∧ Bnd b x.2
  | .struct t, x => Bnd t x
  | _, _ => True

def Bnd1 : (d : D1) → d.den → Prop
  | .dat t, x => Bnd t x
  | _, _ => True

def BL : (ds : List D1) → dens ds → Prop
  | [], _ => True
  | [d], x => Bnd1 d x
  | d :: d' :: ds, x => Bnd1 d x.1 ∧ BL (d' :: ds) x.2

section
variable {w : World} {N : Nat → Prop}

theorem PL.join : ∀ {ds es : List D1} {x : dens ds} {y : dens es} {vs us : List Value}, PL w N ds x vs → PL w N es y us → PL w N (ds ++ es) (joinD ds es x y) (vs ++ us)
  | [], es, x, y, vs, us, h, k => by
    have : vs = [] := h
    subst this
    exact k
  | [d], [], x, y, vs, us, h, k => by
    have : us = [] := k
    subst this
    obtain ⟨v, rfl, h⟩ := h
    exact ⟨v, rfl, h⟩
  | [d], e :: es, x, y, vs, us, h, k => by
    obtain ⟨v, rfl, h⟩ := h
    exact ⟨v, us, rfl, h, k⟩
  | d :: d' :: ds, es, x, y, vs, us, h, k => by
    obtain ⟨v, vs', rfl, h, h'⟩ := h
    exact ⟨v, vs' ++ us, rfl, h, PL.join (ds := d' :: ds) h' k⟩

theorem BL.join : ∀ {ds es : List D1} {x : dens ds} {y : dens es}, BL ds x → BL es y → BL (ds ++ es) (joinD ds es x y)
  | [], es, x, y, h, k => k
  | [d], [], x, y, h, k => h
  | [d], e :: es, x, y, h, k => ⟨h, k⟩
  | d :: d' :: ds, es, x, y, h, k => ⟨h.1, BL.join (ds := d' :: ds) h.2 k⟩

theorem flat_PL : ∀ {t : Ty} {x : t.den} {cs : List Value}, Rc w N t x cs → PL w N (flatD t) (flatX t x) cs
  | .unit, _, _, h => h
  | .pair a b, x, _, ⟨c, d, e, h, k⟩ => by rw [e]; exact (flat_PL h).join (flat_PL k)
  | .struct t, x, _, h => flat_PL (t := t) h
  | .int k, x, cs, h => by cases h; exact ⟨_, rfl, (rfl : [_] = [_])⟩
  | .bool, x, cs, h => by cases h; exact ⟨_, rfl, (rfl : [_] = [_])⟩
  | .str, x, cs, h => by cases h; exact ⟨_, rfl, (rfl : [_] = [_])⟩
  | .list t, x, cs, h => by
    have h' := h
    obtain ⟨A, cap, e, _⟩ := h'
    subst e
    exact ⟨_, rfl, h⟩
  | .ptr t, x, cs, h => by
    have h' := h
    obtain ⟨A, e, _⟩ := h'
    subst e
    exact ⟨_, rfl, h⟩
  | .clo f t, x, cs, h => by
    have h' := h
    obtain ⟨v, e, _⟩ := h'
    subst e
    exact ⟨_, rfl, h⟩
  | .map a b, x, cs, h => by
    have h' := h
    obtain ⟨r, es, c, e, _⟩ := h'
    subst e
    exact ⟨_, rfl, h⟩
  | .optr t, none, cs, h => by
    have h' : cs = [.pointer none] := h
    subst h'
    exact ⟨_, rfl, h⟩
  | .optr t, some y, cs, h => by
    have h' := h
    obtain ⟨a, e, _⟩ := h'
    subst e
    exact ⟨_, rfl, h⟩

theorem flat_BL : ∀ {t : Ty} {x : t.den}, Bnd t x → BL (flatD t) (flatX t x)
  | .unit, _, h => trivial
  | .pair a b, x, h => (flat_BL h.1).join (flat_BL h.2)
  | .struct t, x, h => flat_BL (t := t) h
  | .int k, x, h => h
  | .bool, x, h => h
  | .str, x, h => h
  | .list t, x, h => h
  | .ptr t, x, h => h
  | .clo f t, x, h => h
  | .map a b, x, h => h
  | .optr t, x, h => h
end

/-! ### Types that are read -/

def rdParts (tb : TypeId → Option TI) (rec : TypeId → Option Ty) : List (Nat × TypeId) → Nat → Option Ty
  | [], _ => some .unit
  | (o, t) :: l, off => match rec t, tb t with
    | some s, some j => match Nat.beq o off, Nat.beq j.size s.size with
      | true, true => match rdParts tb rec l (off + s.size) with
        | some r => some (.pair s r)
        | none => none
      | _, _ => none
    | _, _ => none

def rdTy (tb : TypeId → Option TI) : Nat → TypeId → Option Ty
  | 0, _ => none
  | n + 1, t => match tb t with
    | some i => match i.tk with
      | .int k => some (.int k)
      | .bool => some .bool
      | .str => some .str
      | .slice e => match rdTy tb n e, tb e with
        | some s, some j => match Nat.beq j.size s.size with
          | true => some (.list s)
          | false => none
        | _, _ => none
      | .struct fs => match rdParts tb (rdTy tb n) fs 0 with
        | some s => match Nat.beq i.size s.size with
          | true => some (.struct s)
          | false => none
        | none => none
      | _ => none
    | none => none

section
variable {H : Type} {enc : TypeId × Value → H} {P : Program} {tb : TypeId → Option TI} {w : World} {base : Nat} {spare : Nat → Bool} {held : Bool}

theorem cellsOf_entry {t : TypeId} {i : TI} (en : Entry P t i) : P.cellsOf t = i.size := by
  simp [Program.cellsOf, en.hi, en.hsize]

theorem parts_Rc {rec : TypeId → Option Ty} {tbok : TbOK P tb} {fuel : Nat} (ih : ∀ {t : TypeId} {ty : Ty} {cs : List Value} {y : DataW H × List MemPlace}, rec t = some ty → DataW.trod enc P w base spare held fuel t cs = some y → ∃ x : ty.den, Rc w (fun _ => False) ty x cs ∧ Bnd ty x) :
    ∀ {fs : List (Nat × TypeId)} {off : Nat} {ty : Ty} {cs : List Value}, rdParts tb rec fs off = some ty → (∀ p ∈ fs, ∃ y, DataW.trod enc P w base spare held fuel p.2 ((cs.drop p.1).take (P.cellsOf p.2)) = some y) → cs.length = off + ty.size →
      ∃ x : ty.den, Rc w (fun _ => False) ty x (cs.drop off) ∧ Bnd ty x
  | [], off, ty, cs, h, _, hl => by
    cases h
    refine ⟨(), ?_, trivial⟩
    show cs.drop off = []
    exact List.drop_eq_nil_of_le (by simp only [Ty.size] at hl; omega)
  | (o, t) :: l, off, ty, cs, h, hr, hl => by
    unfold rdParts at h
    split at h
    · rename_i s j hs hj
      split at h
      · rename_i e1 e2
        have e1 := Nat.eq_of_beq_eq_true e1
        have e2 := Nat.eq_of_beq_eq_true e2
        subst e1
        obtain ⟨en⟩ := tbok.entry hj
        split at h
        · rename_i r hr'
          cases h
          simp only [Ty.size] at hl
          obtain ⟨y, hy⟩ := hr (o, t) (by simp)
          simp only [cellsOf_entry en, e2] at hy
          obtain ⟨x1, h1, b1⟩ := ih hs hy
          obtain ⟨x2, h2, b2⟩ := parts_Rc (tbok := tbok) ih hr' (fun p hp => hr p (by simp [hp])) (by omega)
          refine ⟨(x1, x2), ⟨_, _, ?_, h1, h2⟩, b1, b2⟩
          rw [← List.drop_drop]
          exact (List.take_append_drop _ _).symm
        · cases h
      · cases h
    · cases h

theorem trod_Rc (tbok : TbOK P tb) : ∀ (n : Nat) {t : TypeId} {ty : Ty} {fuel : Nat} {cs : List Value} {y : DataW H × List MemPlace}, rdTy tb n t = some ty → DataW.trod enc P w base spare held fuel t cs = some y → ∃ x : ty.den, Rc w (fun _ => False) ty x cs ∧ Bnd ty x
  | 0, t, ty, fuel, cs, y, h, _ => by cases h
  | n + 1, t, ty, fuel, cs, y, h, hd => by
    unfold rdTy at h
    split at h
    · rename_i i hi
      obtain ⟨en⟩ := tbok.entry hi
      split at h
      · rename_i k hk
        cases h
        obtain ⟨m, rfl, _, hw⟩ := DataW.trod_int (int_of en hk) hd
        exact ⟨m, (rfl : [_] = [_]), hw⟩
      · rename_i hk
        cases h
        have hu : P.underlying t = some .bool := by
          have hu := en.hu
          have ht := en.htk
          generalize en.d = d at hu ht
          rw [hk] at ht
          cases d <;> simp [tkOf] at ht
          rw [hu]
        obtain ⟨b, rfl, _⟩ := DataW.trod_bool hu hd
        exact ⟨b, (rfl : [_] = [_]), trivial⟩
      · rename_i hk
        cases h
        obtain ⟨s, rfl, _, hs⟩ := DataW.trod_string (str_of en hk) hd
        exact ⟨s, (rfl : [_] = [_]), hs⟩
      · rename_i e hk
        split at h
        · rename_i s j hs hj
          split at h
          · rename_i hsz
            have hsz := Nat.eq_of_beq_eq_true hsz
            cases h
            obtain ⟨en'⟩ := tbok.entry hj
            rcases DataW.trod_slice (slice_of en hk) hd with ⟨rfl, _⟩ | ⟨a, len, cap, elems, rest, m, _, rfl, _, _, hlc, hcm, hlen, hel, _, _⟩
            · exact ⟨[], ⟨none, 0, rfl, Nat.le_refl _, fun _ => rfl, fun i hi => absurd hi (Nat.not_lt_zero _)⟩, Nat.zero_le _, fun a ha => by cases ha⟩
            · have key : ∀ i : Fin len, ∃ x : s.den, (∃ c, c.length = s.size ∧ At w (fun _ => False) (a.add (i.1 * s.size)) c ∧ Rc w (fun _ => False) s x c) ∧ Bnd s x := by
                intro ⟨i, hi⟩
                have h1 := hel i hi
                have h2 : elems[i]? = some elems[i] := List.getElem?_eq_getElem (by omega)
                rw [h2] at h1
                obtain ⟨c, hc, h3⟩ := Option.bind_eq_some_iff.1 h1
                obtain ⟨_, hcl, hcc⟩ := World.cells?_some hc
                obtain ⟨x, hx, hb⟩ := trod_Rc tbok n hs h3
                rw [cellsOf_entry en', hsz] at hcl hcc
                rw [cellsOf_entry en', hsz] at hc
                refine ⟨x, ⟨c, hcl, ?_, hx⟩, hb⟩
                intro q hq
                refine ⟨fun h => h, ?_⟩
                rw [hcc q (by omega), List.getElem?_eq_getElem hq]
              refine ⟨List.ofFn fun i => Classical.choose (key i), ?_, ?_, ?_⟩
              · refine ⟨some a, cap, by simp, by simpa using hlc, fun h => (Option.some_ne_none _ h).elim, fun i hi => ?_⟩
                have hi' : i < len := by simpa using hi
                obtain ⟨⟨c, h1, h2, h3⟩, _⟩ := Classical.choose_spec (key ⟨i, hi'⟩)
                refine ⟨a, rfl, c, h1, h2, ?_⟩
                simpa using h3
              · show (List.ofFn _).length ≤ _
                simp; omega
              · intro z hz
                obtain ⟨i, rfl⟩ := List.mem_ofFn.1 hz
                exact (Classical.choose_spec (key i)).2
          · cases h
        · cases h
      · rename_i fs hk
        split at h
        · rename_i s hs
          split at h
          · rename_i hsz
            have hsz := Nat.eq_of_beq_eq_true hsz
            cases h
            obtain ⟨F, hu, rfl⟩ := struct_of en hk
            obtain ⟨xs, m, rfl, _, hl, hlen, hf⟩ := DataW.trod_struct hu hd
            rw [cellsOf_entry en, hsz] at hl
            have := parts_Rc (enc := enc) (w := w) (base := base) (spare := spare) (held := held) (tbok := tbok) (fuel := m) (fun h1 h2 => trod_Rc tbok n h1 h2) hs (cs := cs) (fun p hp => by
              obtain ⟨f, hfm, rfl⟩ := List.mem_map.1 hp
              obtain ⟨i, hi, rfl⟩ := List.mem_iff_getElem.1 hfm
              have hi' : i < F.size := by simpa using hi
              refine ⟨xs[i]'(by omega), ?_⟩
              have := hf i F.toList[i] (by simp [hi'])
              rw [this, List.getElem?_eq_getElem (by omega)]) (by omega)
            rw [List.drop_zero] at this
            exact this
          · cases h
        · cases h
      · cases h
    · cases h

/-! ### Arguments -/

def isStructTK : TK → Bool
  | .struct _ => true
  | _ => false

def psOf (tb : TypeId → Option TI) : List TypeId → Option (List (Bool × List D1))
  | [] => some []
  | t :: ts => match rdTy tb 8 t, tb t with
    | some ty, some i => match psOf tb ts with
      | some l => some ((isStructTK i.tk, flatD ty) :: l)
      | none => none
    | _, _ => none

theorem arg_one {r : Reach} {b0 : Nat} {t : TypeId} {i : TI} {ty : Ty} {v : Value} (en : Entry P t i) (hi : tb t = some i) (h : rdTy tb 8 t = some ty) (hs : isStructTK i.tk = false) (hv : Value.okWide P w r b0 t v) : v.oneCell' = true ∧ (flatD ty).length = 1 := by
  unfold rdTy at h
  rw [hi] at h
  simp only at h
  cases hk : i.tk with
  | int k =>
    rw [hk] at h; cases h
    obtain ⟨n, rfl⟩ := okWide_int (int_of en hk) hv
    exact ⟨rfl, rfl⟩
  | bool =>
    rw [hk] at h; cases h
    have hu : P.underlying t = some .bool := by
      have hu := en.hu
      have ht := en.htk
      generalize en.d = d at hu ht
      rw [hk] at ht
      cases d <;> simp [tkOf] at ht
      rw [hu]
    obtain ⟨n, rfl⟩ := okWide_bool hu hv
    exact ⟨rfl, rfl⟩
  | str =>
    rw [hk] at h; cases h
    obtain ⟨n, rfl⟩ := okWide_string (str_of en hk) hv
    exact ⟨rfl, rfl⟩
  | slice e =>
    rw [hk] at h
    simp only at h
    split at h
    · split at h
      · cases h
        obtain ⟨a, l, c, rfl⟩ := okWide_slice (slice_of en hk) hv
        exact ⟨rfl, rfl⟩
      · cases h
    · cases h
  | struct fs => rw [hk] at hs; cases hs
  | _ => rw [hk] at h; cases h

theorem args_PL (tbok : TbOK P tb) : ∀ {ts : List TypeId} {ps : List (Bool × List D1)} {vs : List Value} {ds : List (DataW H)} {p : List MemPlace} {r : Reach} {b0 : Nat}, psOf tb ts = some ps → DataW.TrodAll enc P w base spare held ts vs ds p →
    (∀ (j : Nat) t v, ts[j]? = some t → vs[j]? = some v → Value.okWide P w r b0 t v) → ∃ (cells : List Value) (x : dens (flatC ps)), CompsV ps vs cells ∧ PL w (fun _ => False) (flatC ps) x cells ∧ BL (flatC ps) x
  | [], ps, vs, ds, p, r, b0, h, ha, _ => by
    cases h
    obtain ⟨rfl, _, _⟩ := trodAll_nil ha
    exact ⟨[], (), ⟨rfl, rfl⟩, rfl, trivial⟩
  | t :: ts, ps, vs, ds, p, r, b0, h, ha, hv => by
    unfold psOf at h
    split at h
    · rename_i ty i hty hi
      split at h
      · rename_i l hl
        cases h
        obtain ⟨en⟩ := tbok.entry hi
        obtain ⟨v, vs', d, ds', p', q, rfl, rfl, rfl, h1, h2⟩ := trodAll_cons ha
        obtain ⟨cells, x, c1, c2, c3⟩ := args_PL tbok hl h2 (fun j t' v' h1 h2 => hv (j + 1) t' v' (by simpa using h1) (by simpa using h2))
        obtain ⟨fuel, hd⟩ := h1
        obtain ⟨y, hy, hb⟩ := trod_Rc tbok 8 hty hd
        have hval := hv 0 t v rfl rfl
        refine ⟨v.cells.toList ++ cells, joinD (flatD ty) (flatC l) (flatX ty y) x, ?_, (flat_PL hy).join c2, (flat_BL hb).join c3⟩
        cases hs : isStructTK i.tk with
        | true =>
          have : ∃ fs, i.tk = .struct fs := by
            cases hk : i.tk <;> rw [hk] at hs <;> first | exact ⟨_, rfl⟩ | cases hs
          obtain ⟨fs, hk⟩ := this
          obtain ⟨F, hu, _⟩ := struct_of en hk
          obtain ⟨cs, rfl, _⟩ := okWide_struct hu hval
          exact ⟨cs.toList, vs', cells, by simp, by rw [← (flat_PL hy).length]; rfl, rfl, c1⟩
        | false =>
          obtain ⟨o1, o2⟩ := arg_one en hi hty hs hval
          have e : v.cells.toList = [v] := by rw [cells_one o1]
          rw [e]
          exact ⟨v, vs', cells, o2, rfl, o1, rfl, c1⟩
      · cases h
    · cases h

theorem ownB_none : ∀ {ds : List D1} {vs : List Value}, ds.filter (·.isOwn) = [] → ownB ds vs = []
  | [], vs, _ => by simp [ownB]
  | .dat t :: ds, [], _ => by simp [ownB]
  | .dat t :: ds, v :: vs, h => by
    rw [List.filter_cons_of_neg (by simp [D1.isOwn])] at h
    exact ownB_none (ds := ds) h
  | .own e t :: ds, _, h => by rw [List.filter_cons_of_pos (by simp [D1.isOwn])] at h; cases h
  | .cel t :: ds, _, h => by rw [List.filter_cons_of_pos (by simp [D1.isOwn])] at h; cases h

/-- A law's function gives true: the law's call gives true, and what was there stays. -/
theorem law_calls (tbok : TbOK P tb) {f : FuncId} {ts : List TypeId} {ps : List (Bool × List D1)} {F : Nat → dens (flatC ps) → Option (dens (flatC [(false, [D1.dat .bool])] ++ outsC ps))} (hps : psOf tb ts = some ps) (hout : outsC ps = [])
    (hm : ∀ k, Meets P f ⟨ps, [(false, [.dat .bool])], F k⟩) (hpure : ∀ x, BL (flatC ps) x → ∃ k y, F k x = some y ∧ (splitD [D1.dat .bool] (outsC ps) y).1 = true)
    {args : Array Value} {ds : List (DataW H)} {p : List MemPlace} {r : Reach} {b0 : Nat} (ha : DataW.TrodAll enc P w base spare held ts args.toList ds p) (hv : ∀ (j : Nat) t v, ts[j]? = some t → args[j]? = some v → Value.okWide P w r b0 t v) :
    Calls P f args w fun e w' => e = .returned (.bool true) ∧ Below w.heap.size w w' := by
  obtain ⟨cells, x, c1, c2, c3⟩ := args_PL tbok hps ha (fun j t v h1 h2 => hv j t v h1 (by simpa using h2))
  obtain ⟨k, y, hy, hb⟩ := hpure x c3
  have hown : ownB (flatC ps) cells = [] := ownB_none hout
  have := (hm k).calls w (fun _ => False) args.toList cells x y c1 (fun r h => h.elim) (c2.weaken fun r h => by
    rcases h with h | h
    · exact h
    · simp only [hown] at h; cases h) (by show (ownB (flatC ps) cells).Nodup; rw [hown]; exact List.nodup_nil) hy
  rw [Array.toArray_toList] at this
  refine this.mono ?_
  rintro e w' ⟨v, vs, rcells, rfl, hg, hcv, hfr, hpl, _, _⟩
  obtain ⟨u, vs', cs', _, rfl, _, rfl, e1, e2⟩ := hcv
  subst e1; subst e2
  have hg : v = u := hg
  subst hg
  obtain ⟨h1, _⟩ := PL.split (ds := [D1.dat .bool]) (es := outsC ps) (vs := [v]) rfl hpl
  obtain ⟨v', e, h2⟩ := h1
  have h3 : [v'] = [Value.bool (splitD [D1.dat .bool] (outsC ps) y).1] := h2
  rw [hb] at h3
  refine ⟨?_, hfr.os, hfr.tape, hfr.output, hfr.size, fun k hk => hfr.block k hk (by show k ∉ ownB (flatC ps) cells; rw [hown]; simp)⟩
  have : v = v' := by simpa using e
  rw [this]
  congr 1
  simpa using h3

/-- The arguments read behind the call as before. -/
theorem args_stay (hl : laidOutB P = true) {w' : World} (hb : Below w.heap.size w w') : ∀ {ts : List TypeId} {vs : List Value} {ds : List (DataW H)} {p : List MemPlace}, ts.all (fun t => P.readableRec t && decide (t < P.types.size)) = true → DataW.TrodAll enc P w 0 (fun _ => true) true ts vs ds p →
    DataW.TrodAll enc P w' 0 (fun b => decide (b < w.heap.size)) true ts vs ds p
  | [], vs, ds, p, _, h => by
    obtain ⟨rfl, rfl, rfl⟩ := trodAll_nil h
    exact rfl
  | t :: ts, vs, ds, p, ht, h => by
    rw [List.all_cons, Bool.and_eq_true, Bool.and_eq_true] at ht
    obtain ⟨v, vs', d, ds', p', q, rfl, rfl, rfl, h1, h2⟩ := trodAll_cons h
    have lt : ∀ x ∈ p', x.block < w.heap.size := by obtain ⟨m, hm⟩ := h1; exact DataW.trod_lt m _ _ _ hm
    exact ⟨p', q, hb.trod hl ht.1.1 (of_decide_eq_true ht.1.2) h1 lt, args_stay hl hb ht.2 h2, rfl⟩

end
end Go.V
end
