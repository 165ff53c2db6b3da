/- The laws on channels: whether they serve, how few do, the least play. -/
import Derived.Test.YtcbhhbkghbnljaaQ08s
set_option linter.unusedVariables false
set_option linter.unusedSimpArgs false
namespace Go.Proofs.Ytcbhhbkghbnljaa.Vf
open Go Go.V Go.RowKit

def code8 (G : List Int) (m : Int) : Int := if isT G = true then (if 1 ≤ m ∧ m ≤ 4 then (if 4000 < cnt G then 3 else 0) else 2) else 1
theorem code8_zero {G : List Int} {m : Int} (h : code8 G m = 0) : isT G = true ∧ (1 ≤ m ∧ m ≤ 4) ∧ cnt G ≤ 4000 := by
  unfold code8 at h
  by_cases h1 : isT G = true
  · rw [if_pos h1] at h
    by_cases h2 : 1 ≤ m ∧ m ≤ 4
    · rw [if_pos h2] at h
      by_cases h3 : 4000 < cnt G
      · rw [if_pos h3] at h; cases h
      · exact ⟨h1, h2, by omega⟩
    · rw [if_neg h2] at h; cases h
  · rw [if_neg h1] at h; cases h

theorem l08Code_f {k : Nat} {G : List Int} {m : Int} (hk : 2097152 ≤ k) (hl : G.length ≤ 1048576) : spec_l08Code.f k G m = some (code8 G m) := by
  unfold spec_l08Code.f code8
  rw [l01Is_f hk hl, Option.bind_some, l01In_f, Option.bind_some, l02Few_f hk hl, Option.bind_some]
  cases isT G with
  | false => rfl
  | true =>
    by_cases h : 1 ≤ m ∧ m ≤ 4
    · simp [h]
    · simp [h]

theorem code8_impl {k : Nat} {G : List Int} {m : Int} (hk : 2097152 ≤ k) (hl : G.length ≤ 1048576) : ((impl_isChannels.f m).bind fun t1 => impl_statesCode.f k G t1) = some (code8 G m) := by
  unfold impl_isChannels.f code8
  rw [within_f, Option.bind_some, Option.bind_some, statesCode_f hk hl]
  cases isT G with
  | false => rfl
  | true =>
    by_cases h : 1 ≤ m ∧ m ≤ 4
    · simp [h]
    · simp [h]

def canS (G : List Int) (m : Int) : Bool := (lastS G m).getD (cnt G - 1).toNat false

theorem lastS_len {G : List Int} {m : Int} (h : isT G = true) (hc : cnt G ≤ 4000) : ((lastS G m).length : Int) = cnt G := (lastS_fix (m := m) (k := 4003) h hc (Nat.le_refl _)).2

theorem sgCan_f {G : List Int} {m : Int} {O : List (List (Int × Int))} (h : isT G = true) (hc : cnt G ≤ 4000) : impl_setGraph_canServe.f (O, lastS G m) = some (canS G m) := by
  have hL := lastS_len (m := m) h hc
  have hp := cnt_pos (isT_gp h)
  unfold impl_setGraph_canServe.f canS
  simp only
  rw [hL, w64 (by omega) (by omega), if_pos (by omega), if_pos (by omega)]
  rfl

def canOnR (G : List Int) (m : Int) : Bool × Int := if code8 G m = 0 then (canS G m, 0) else (false, code8 G m)

theorem spec_CanServeOn_f {k : Nat} {G : List Int} {m : Int} (hk : 2097152 ≤ k) (hl : G.length ≤ 1048576) : spec_CanServeOn.f k G m = some (canOnR G m) := by
  unfold spec_CanServeOn.f canOnR
  rw [l08Code_f hk hl, Option.bind_some]
  by_cases hf : code8 G m = 0
  · obtain ⟨h, _, hc⟩ := code8_zero hf
    have hL := lastS_len (m := m) h hc
    have hp := cnt_pos (isT_gp h)
    rw [if_pos hf, if_pos hf, l08Lasting_f hk h hc, Option.bind_some, l02Count_f hk h, Option.bind_some, w64 (by omega) (by omega), if_pos (by omega), if_pos (by omega)]
    rfl
  · rw [if_neg hf, if_neg hf]

theorem impl_CanServeOn_f {k : Nat} {G : List Int} {m : Int} (hk : 2097152 ≤ k) (hl : G.length ≤ 1048576) : impl_CanServeOn.f k G m = some (canOnR G m) := by
  have hcode := code8_impl (m := m) hk hl
  unfold impl_CanServeOn.f canOnR
  have : ((impl_isChannels.f m).bind fun t1 => (impl_statesCode.f k G t1).bind fun t2 => if t2 = 0 then ((impl_setGraphOf.f k G m).bind fun t3 => (impl_setGraph_canServe.f t3).bind fun t4 => some (t4, (0 : Int))) else (some (false, t2))) = (((impl_isChannels.f m).bind fun t1 => impl_statesCode.f k G t1).bind fun t2 => if t2 = 0 then ((impl_setGraphOf.f k G m).bind fun t3 => (impl_setGraph_canServe.f t3).bind fun t4 => some (t4, (0 : Int))) else (some (false, t2))) := by
    rw [Option.bind_assoc]
  rw [this, hcode, Option.bind_some]
  by_cases hf : code8 G m = 0
  · obtain ⟨h, _, hc⟩ := code8_zero hf
    rw [if_pos hf, if_pos hf, setGraphOf_f hk h hc, Option.bind_some, sgCan_f h hc, Option.bind_some]
  · rw [if_neg hf, if_neg hf]

theorem law_CanServeOn {k : Nat} {l : List Int} {m : Int} (hk : 2097152 ≤ k) (hl : l.length ≤ 9223372036854775807) : laws_FnExactCanServeOn.f k l m = some true := by
  unfold laws_FnExactCanServeOn.f
  rw [szTasks_f hl (by omega) (by omega), Option.bind_some]
  by_cases hb : (1048576 : Int) < (l.length : Int)
  · rw [if_pos hb, if_pos (by omega)]
  · rw [if_neg hb, if_neg (by omega)]
    have h : l.length ≤ 1048576 := by omega
    simp only [toTasks_f hk h, spec_CanServeOn_f hk h, impl_CanServeOn_f hk h, eqTasks_f hk h, Option.bind_some, if_true, decide_true]

/-! ### The fewest -/

def chans (G : List Int) : Nat → Int → Int × Int
  | 0, _ => (0, 4)
  | d + 1, x => if canS G x = true then (x, 0) else chans G d (x + 1)

theorem spec_chans {k : Nat} {G : List Int} (hk : 2097152 ≤ k) (h : isT G = true) (hc : cnt G ≤ 4000) : ∀ (d n : Nat) (x : Int), x + d = 5 → 0 ≤ x → d < n → spec_FewestChannels.l0 k n G x = some (chans G d x) := by
  have hp := cnt_pos (isT_gp h)
  intro d
  induction d with
  | zero =>
    intro n x hd h0 hn
    cases n with
    | zero => omega
    | succ n =>
      simp only [spec_FewestChannels.l0, spec_FewestChannels.s0]
      rw [if_neg (by omega)]; rfl
  | succ d ih =>
    intro n x hd h0 hn
    cases n with
    | zero => omega
    | succ n =>
      have hL := lastS_len (m := x) h hc
      simp only [spec_FewestChannels.l0, spec_FewestChannels.s0]
      rw [if_pos (by omega), l08Lasting_f hk h hc, Option.bind_some, l02Count_f hk h, Option.bind_some, w64 (x := cnt G - 1) (by omega) (by omega), if_pos (by omega), if_pos (by omega), w64 (by omega) (by omega)]
      simp only [chans]
      by_cases hb : canS G x = true
      · rw [if_pos hb]; exact if_pos hb
      · rw [if_neg hb]
        refine (if_neg hb).trans ?_
        exact ih n (x + 1) (by omega) (by omega) (by omega)

theorem impl_chans {k : Nat} {G : List Int} (hk : 2097152 ≤ k) (h : isT G = true) (hc : cnt G ≤ 4000) : ∀ (d n : Nat) (x : Int), x + d = 5 → 0 ≤ x → d < n → impl_FewestChannels.l0 k n G x = some (chans G d x) := by
  intro d
  induction d with
  | zero =>
    intro n x hd h0 hn
    cases n with
    | zero => omega
    | succ n =>
      simp only [impl_FewestChannels.l0, impl_FewestChannels.s0]
      rw [if_neg (by omega)]; rfl
  | succ d ih =>
    intro n x hd h0 hn
    cases n with
    | zero => omega
    | succ n =>
      simp only [impl_FewestChannels.l0, impl_FewestChannels.s0]
      rw [if_pos (by omega), setGraphOf_f hk h hc, Option.bind_some, sgCan_f h hc, Option.bind_some, w64 (by omega) (by omega)]
      simp only [chans]
      by_cases hb : canS G x = true
      · rw [if_pos hb, if_pos hb]
      · rw [if_neg hb, if_neg hb]
        exact ih n (x + 1) (by omega) (by omega) (by omega)

def fewestR (G : List Int) : Int × Int := if code8 G 1 = 0 then chans G 4 1 else (0, code8 G 1)

theorem spec_FewestChannels_f {k : Nat} {G : List Int} (hk : 2097152 ≤ k) (hl : G.length ≤ 1048576) : spec_FewestChannels.f k G = some (fewestR G) := by
  unfold spec_FewestChannels.f spec_FewestChannels.g fewestR
  rw [l08Code_f hk hl, Option.bind_some]
  by_cases hf : code8 G 1 = 0
  · obtain ⟨h, _, hc⟩ := code8_zero hf
    rw [if_pos hf, if_pos hf]
    exact spec_chans hk h hc 4 k 1 (by omega) (by omega) (by omega)
  · rw [if_neg hf, if_neg hf]

theorem impl_FewestChannels_f {k : Nat} {G : List Int} (hk : 2097152 ≤ k) (hl : G.length ≤ 1048576) : impl_FewestChannels.f k G = some (fewestR G) := by
  unfold impl_FewestChannels.f impl_FewestChannels.g fewestR
  have e : impl_statesCode.f k G true = some (code8 G 1) := by
    rw [statesCode_f hk hl]; unfold code8; cases isT G <;> simp
  rw [e, Option.bind_some]
  by_cases hf : code8 G 1 = 0
  · obtain ⟨h, _, hc⟩ := code8_zero hf
    rw [if_pos hf, if_pos hf]
    exact impl_chans hk h hc 4 k 1 (by omega) (by omega) (by omega)
  · rw [if_neg hf, if_neg hf]

theorem law_FewestChannels {k : Nat} {l : List Int} (hk : 2097152 ≤ k) (hl : l.length ≤ 9223372036854775807) : laws_FnExactFewestChannels.f k l = some true := by
  unfold laws_FnExactFewestChannels.f
  rw [szTasks_f hl (by omega) (by omega), Option.bind_some]
  by_cases hb : (1048576 : Int) < (l.length : Int)
  · rw [if_pos hb, if_pos (by omega)]
  · rw [if_neg hb, if_neg (by omega)]
    have h : l.length ≤ 1048576 := by omega
    simp only [toTasks_f hk h, spec_FewestChannels_f hk h, impl_FewestChannels_f hk h, eqTasks_f hk h, Option.bind_some, if_true, decide_true]

/-! ### The least play -/

theorem lastS_good {G : List Int} {m : Int} (h : isT G = true) (hc : cnt G ≤ 4000) {v : Int} (h0 : 0 ≤ v) (h1 : v < cnt G) (hv : (lastS G m).getD v.toNat false = true) :
    ∃ o, leastO (lastS G m) (opns G (ofN G v) m) = some o ∧ 0 ≤ o.2 ∧ o.2 < cnt G ∧ (lastS G m).getD o.2.toNat false = true := by
  obtain ⟨h2, h3⟩ := lastS_fix (m := m) (k := 4003) h hc (Nat.le_refl _)
  have := fix_good (goodS G m) _ _ _ _ h2 (fun e => by cases e) v.toNat (by omega) hv
  unfold goodS at this
  rw [show ((v.toNat : Nat) : Int) = v by omega] at this
  obtain ⟨o, ho⟩ := Option.isSome_iff_exists.1 this
  have hm := opns_bnd h (ofN_st v (isT_gp h)) o (List.mem_of_find?_eq_some ho)
  exact ⟨o, ho, hm.1, hm.2, by have := List.find?_some (p := fun o : Int × Int => (lastS G m).getD o.2.toNat false) (l := opns G (ofN G v) m) (a := o) ho; exact this⟩

def nextO (G : List Int) (m v : Int) : Int × Int := (leastO (lastS G m) (opns G (ofN G v) m)).getD (0, 0)

def playS (G : List Int) (m : Int) : Nat → Int → List Int → List Int → Option (List Int × List Int)
  | 0, _, _, _ => none
  | n + 1, v, came, out => if 0 ≤ rd came v then some (out.take (rd came v).toNat, out.drop (rd came v).toNat) else playS G m n (nextO G m v).2 (came.set v.toNat out.length) (out ++ [(nextO G m v).1])

structure PlayS (G : List Int) (m v : Int) (came out : List Int) : Prop where
  v0 : 0 ≤ v
  v1 : v < cnt G
  lv : (lastS G m).getD v.toNat false = true
  cl : (came.length : Int) = cnt G
  ol : (out.length : Int) + negs came = cnt G
  cb : ∀ i : Nat, i < came.length → rd came i ≤ out.length

theorem PlayS.next {G came out : List Int} {m v : Int} (h : isT G = true) (hc : cnt G ≤ 4000) (I : PlayS G m v came out) (hn : ¬ 0 ≤ rd came v) :
    PlayS G m (nextO G m v).2 (came.set v.toNat out.length) (out ++ [(nextO G m v).1]) := by
  obtain ⟨o, hr, h3, h4, h5⟩ := lastS_good h hc I.v0 I.v1 I.lv
  have e : nextO G m v = o := by unfold nextO; rw [hr]; rfl
  have hv0 := I.v0; have hv1 := I.v1; have hcl := I.cl; have hol := I.ol
  have hlen : v.toNat < came.length := by omega
  have hneg := negs_set (l := came) (i := v.toNat) (x := (out.length : Int)) hlen (by
    have : rd came v = came.getD v.toNat 0 := rfl
    omega) (by omega)
  rw [e]
  refine ⟨h3, h4, h5, by simpa using hcl, by simp; omega, fun i hi => ?_⟩
  have hi' : i < came.length := by simpa using hi
  rw [rd_set hlen]
  split
  · simp; omega
  · have := I.cb i hi'
    simp; omega

theorem playS_some {G : List Int} {m : Int} (h : isT G = true) (hc : cnt G ≤ 4000) : ∀ (n : Nat) (v : Int) (came out : List Int), PlayS G m v came out → negs came < n → ∃ r, playS G m n v came out = some r ∧ r.1.length ≤ 4000 ∧ r.2.length ≤ 4000
  | 0, v, came, out, I, hn => by omega
  | n + 1, v, came, out, I, hn => by
    unfold playS
    have hol := I.ol
    by_cases hb : 0 ≤ rd came v
    · rw [if_pos hb]
      exact ⟨_, rfl, by simp; omega, by simp; omega⟩
    · rw [if_neg hb]
      have hv0 := I.v0; have hv1 := I.v1; have hcl := I.cl
      have hneg := negs_set (l := came) (i := v.toNat) (x := (out.length : Int)) (by omega) (by
        have : rd came v = came.getD v.toNat 0 := rfl
        omega) (by omega)
      exact playS_some h hc n _ _ _ (I.next h hc hb) (by omega)

theorem playS_mono (G : List Int) (m : Int) : ∀ (n n' : Nat) (v : Int) (came out : List Int) (r : List Int × List Int), n ≤ n' → playS G m n v came out = some r → playS G m n' v came out = some r
  | 0, _, _, _, _, _, _, h => by cases h
  | n + 1, 0, _, _, _, _, h, _ => by omega
  | n + 1, n' + 1, v, came, out, r, h, e => by
    unfold playS at e ⊢
    by_cases hb : 0 ≤ rd came v
    · rw [if_pos hb] at e ⊢; exact e
    · rw [if_neg hb] at e ⊢
      exact playS_mono G m n n' _ _ _ r (by omega) e

theorem spec_playS {k : Nat} {G : List Int} {m : Int} (hk : 2097152 ≤ k) (h : isT G = true) (hc : cnt G ≤ 4000) : ∀ (n : Nat) (S : List Int) (v : Int) (came out : List Int), PlayS G m v came out → ofN G v = S →
    spec_LeastPlayOn.l1 k n G (lastS G m) ((setsN G m).map fun x : Nat => (x : Int)) came S out = (playS G m n v came out).map fun r => (r.1, r.2, 0)
  | 0, S, v, came, out, I, e => rfl
  | n + 1, S, v, came, out, I, e => by
    have hst := ofN_st v (isT_gp h)
    have hv0 := I.v0; have hv1 := I.v1; have hcl := I.cl; have hol := I.ol
    have hcb := I.cb v.toNat (by omega)
    rw [show ((v.toNat : Nat) : Int) = v by omega] at hcb
    have hnum : num G S = v := by rw [← e]; exact num_ofN (isT_gp h) hv0 hv1
    rw [e] at hst
    unfold playS
    simp only [spec_LeastPlayOn.l1, spec_LeastPlayOn.s1]
    rw [l02Number_f hk h hst, Option.bind_some, hnum, if_pos hv0, if_pos (by omega)]
    by_cases hb : 0 ≤ rd came v
    · rw [if_pos hb, if_pos hb, if_pos hb, if_pos hcb, own8_f (by simp; omega), Option.bind_some, if_pos hb, if_pos hcb, if_pos (by omega), own8_f (by simp; omega), Option.bind_some, Int.toNat_natCast, List.take_length]
      rfl
    · obtain ⟨o, hr, h3, h4, h5⟩ := lastS_good h hc hv0 hv1 I.lv
      have en : nextO G m v = o := by unfold nextO; rw [hr]; rfl
      rw [if_neg hb, if_neg hb, if_pos hv0, if_pos (by omega), first_f hk h hst (lastS_len h hc), Option.bind_some, ← e, hr, if_pos (by omega)]
      simp only [leastR]
      rw [l02Of_f hk h h3 (by omega), Option.bind_some]
      have := spec_playS hk h hc n (ofN G o.2) o.2 _ _ (by have := I.next h hc hb; rw [en] at this; exact this) rfl
      rw [en]
      exact this

theorem impl_playS {k : Nat} {G : List Int} {m : Int} (hk : 2097152 ≤ k) (h : isT G = true) (hc : cnt G ≤ 4000) : ∀ (n : Nat) (v : Int) (seen : List (Int × Int)) (came out : List Int), PlayS G m v came out → (∀ i : Nat, i < came.length → mgI seen i = if 0 ≤ rd came i then some (rd came i) else none) →
    impl_LeastPlayOn.l0 k n (opsA G m (lastS G m).length, lastS G m) seen out v = (playS G m n v came out).map fun r => (r.1, r.2, 0)
  | 0, v, seen, came, out, I, e => rfl
  | n + 1, v, seen, came, out, I, e => by
    have hL := lastS_len (m := m) h hc
    have hv0 := I.v0; have hv1 := I.v1; have hcl := I.cl; have hol := I.ol
    have hcb := I.cb v.toNat (by omega)
    have ev := e v.toNat (by omega)
    rw [show ((v.toNat : Nat) : Int) = v by omega] at hcb ev
    unfold playS
    simp only [impl_LeastPlayOn.l0, impl_LeastPlayOn.s0]
    rw [ev]
    by_cases hb : 0 ≤ rd came v
    · simp only [if_pos hb, Option.isSome_some, if_true, Option.getD_some]
      rw [if_pos hcb, clone_f (by simp; omega), Option.bind_some, if_pos hcb, if_pos (by omega), clone_f (by simp; omega), Option.bind_some, Int.toNat_natCast, List.take_length]
      rfl
    · simp only [if_neg hb, Option.isSome_none, Bool.false_eq_true, if_false]
      obtain ⟨o, hr, h3, h4, h5⟩ := lastS_good h hc hv0 hv1 I.lv
      have en : nextO G m v = o := by unfold nextO; rw [hr]; rfl
      have hle := least_f (L := lastS G m) (m := m) (i := v.toNat) hk h hL (by omega)
      rw [show ((v.toNat : Nat) : Int) = v by omega, hr] at hle
      rw [hle, Option.bind_some, if_pos (by omega)]
      have := impl_playS hk h hc n o.2 (mpI seen v out.length) _ _ (by have := I.next h hc hb; rw [en] at this; exact this) (fun i hi => by
        have hi' : i < came.length := by simpa using hi
        rw [mgI_mpI, rd_set (by omega)]
        by_cases ei : i = v.toNat
        · rw [if_pos (by omega), if_pos ei, if_pos (by omega)]
        · rw [if_neg (by omega), if_neg ei]; exact e i hi')
      rw [en]
      exact this

theorem spec_fillS {k : Nat} {G S sets : List Int} {L : List Bool} {M : Nat} (hm : M ≤ 4000) {r1 : (List Int) → (List Bool) → (List Int) → (List Int) → (List Int) → (List Int) → Option ((List Int) × (List Int) × Int)} (hr : r1 = spec_LeastPlayOn.l1 k k) : ∀ (d i n : Nat), M - i = d → i ≤ M → d < n →
    spec_LeastPlayOn.l0 k n G L sets (List.replicate i (-1) ++ List.replicate (M - i) 0) S [] M i = r1 G L sets (List.replicate M (-1)) S [] := by
  subst hr
  intro d
  induction d with
  | zero =>
    intro i n hd hi hn
    obtain rfl : i = M := by omega
    cases n with
    | zero => omega
    | succ n =>
      simp only [spec_LeastPlayOn.l0, spec_LeastPlayOn.s0]
      rw [if_neg (by omega), Nat.sub_self, List.replicate_zero, List.append_nil]
  | succ d ih =>
    intro i n hd hi hn
    cases n with
    | zero => omega
    | succ n =>
      simp only [spec_LeastPlayOn.l0, spec_LeastPlayOn.s0]
      have : (List.replicate i (-1 : Int) ++ List.replicate (M - i) 0).set i (-1) = List.replicate (i + 1) (-1) ++ List.replicate (M - (i + 1)) 0 := by
        rw [List.set_append_right _ _ (by simp), show M - i = (M - (i + 1)) + 1 by omega, List.replicate_succ, List.replicate_succ']
        simp
      rw [if_pos (by omega), if_pos (by omega), if_pos (by simp; omega), Int.toNat_natCast, this, w64n (by omega)]
      exact ih (i + 1) n (by omega) (by omega) (by omega)

def playOnR (G : List Int) (m : Int) : List Int × List Int × Int := if code8 G m = 0 then (if canS G m = true then (match playS G m 4001 (cnt G - 1) (List.replicate (cnt G).toNat (-1)) [] with | some r => (r.1, r.2, 0) | none => ([], [], 0)) else ([], [], 4)) else ([], [], code8 G m)

theorem playS_start {G : List Int} {m : Int} (h : isT G = true) (hc : cnt G ≤ 4000) (hs : canS G m = true) : PlayS G m (cnt G - 1) (List.replicate (cnt G).toNat (-1)) [] := by
  have hp := cnt_pos (isT_gp h)
  refine ⟨by omega, by omega, hs, by simp; omega, by rw [negs_rep]; simp; omega, fun i hi => ?_⟩
  rw [rd_lt hi]
  simp

theorem playOnR_eq {G : List Int} {m : Int} (hf : code8 G m = 0) (hs : canS G m = true) : ∃ r, playS G m 4001 (cnt G - 1) (List.replicate (cnt G).toNat (-1)) [] = some r ∧ playOnR G m = (r.1, r.2, 0) ∧ r.1.length ≤ 4000 ∧ r.2.length ≤ 4000 := by
  obtain ⟨h, _, hc⟩ := code8_zero hf
  obtain ⟨r, h1, h2, h3⟩ := playS_some h hc 4001 _ _ _ (playS_start h hc hs) (by rw [negs_rep]; omega)
  refine ⟨r, h1, ?_, h2, h3⟩
  unfold playOnR
  rw [if_pos hf, if_pos hs, h1]

theorem playOnR_len (G : List Int) (m : Int) : (playOnR G m).1.length ≤ 4000 ∧ (playOnR G m).2.1.length ≤ 4000 := by
  by_cases hf : code8 G m = 0
  · by_cases hs : canS G m = true
    · obtain ⟨r, _, h1, h2, h3⟩ := playOnR_eq hf hs
      rw [h1]; exact ⟨h2, h3⟩
    · unfold playOnR; rw [if_pos hf, if_neg hs]; simp
  · unfold playOnR; rw [if_neg hf]; simp

theorem stt8_self : ∀ {G : List Int}, Gp G → Stt G G
  | [], _ => trivial
  | g :: G, h => ⟨⟨h.head.1, Int.le_refl _⟩, stt8_self h.tail⟩

theorem numA8_self : ∀ {G : List Int} (a : Int), Gp G → numA a G G = (a + 1) * cnt G - 1
  | [], a, _ => by simp [numA, cnt]
  | g :: G, a, h => by
    show numA (a * g + g - 1) G G = (a + 1) * (g * cnt G) - 1
    rw [numA8_self _ h.tail, show a * g + g - 1 + 1 = (a + 1) * g by rw [Int.add_mul]; omega, Int.mul_assoc]

theorem ofN8_full {G : List Int} (h : isT G = true) : ofN G (cnt G - 1) = G := by
  have e : num G G = cnt G - 1 := by unfold num; rw [numA8_self 0 (isT_gp h)]; omega
  rw [← e]; exact ofN_num (isT_gp h) (stt8_self (isT_gp h))

theorem spec_LeastPlayOn_f {k : Nat} {G : List Int} {m : Int} (hk : 2097152 ≤ k) (hl : G.length ≤ 1048576) : spec_LeastPlayOn.f k G m = some (playOnR G m) := by
  unfold spec_LeastPlayOn.f spec_LeastPlayOn.g
  rw [l08Code_f hk hl, Option.bind_some]
  by_cases hf : code8 G m = 0
  · obtain ⟨h, _, hc⟩ := code8_zero hf
    have hL := lastS_len (m := m) h hc
    have hp := cnt_pos (isT_gp h)
    have hlen := isT_len h
    rw [if_pos hf, l08Lasting_f hk h hc, Option.bind_some, sets_f hk hlen.2, Option.bind_some, hL, w64 (by omega) (by omega), if_pos (by omega), if_pos (by omega)]
    by_cases hs : canS G m = true
    · obtain ⟨r, h1, h2, h3, h4⟩ := playOnR_eq hf hs
      rw [if_pos (show rdOf false (lastS G m) (cnt G - 1) = true from hs), if_pos (by omega), if_pos (by omega), if_pos (by omega), own8_f (by omega), Option.bind_some]
      have hfill := spec_fillS (k := k) (G := G) (S := G) (sets := (setsN G m).map fun x : Nat => (x : Int)) (L := lastS G m) (M := (cnt G).toNat) (by omega) rfl (cnt G).toNat 0 k (by omega) (by omega) (by omega)
      rw [List.length_replicate]
      refine Eq.trans hfill ?_
      rw [spec_playS hk h hc k G (cnt G - 1) _ _ (playS_start h hc hs) (ofN8_full h), playS_mono G m 4001 k _ _ _ r (by omega) h1, h2]
      rfl
    · rw [if_neg (show ¬ rdOf false (lastS G m) (cnt G - 1) = true from hs)]
      unfold playOnR
      rw [if_pos hf, if_neg hs]
  · rw [if_neg hf]
    unfold playOnR; rw [if_neg hf]

theorem impl_LeastPlayOn_f {k : Nat} {G : List Int} {m : Int} (hk : 2097152 ≤ k) (hl : G.length ≤ 1048576) : impl_LeastPlayOn.f k G m = some (playOnR G m) := by
  have hcode := code8_impl (m := m) hk hl
  unfold impl_LeastPlayOn.f impl_LeastPlayOn.g
  rw [← Option.bind_assoc, hcode, Option.bind_some]
  by_cases hf : code8 G m = 0
  · obtain ⟨h, _, hc⟩ := code8_zero hf
    have hp := cnt_pos (isT_gp h)
    rw [if_pos hf, setGraphOf_f hk h hc, Option.bind_some, sgCan_f h hc, Option.bind_some]
    by_cases hs : canS G m = true
    · obtain ⟨r, h1, h2, h3, h4⟩ := playOnR_eq hf hs
      rw [if_pos hs, states_f hk h, Option.bind_some, w64 (by omega) (by omega)]
      refine (impl_playS hk h hc k (cnt G - 1) [] _ [] (playS_start h hc hs) (fun i hi => ?_)).trans ?_
      · rw [rd_lt hi, mgI_nil]
        simp
      · rw [playS_mono G m 4001 k _ _ _ r (by omega) h1, h2]; rfl
    · rw [if_neg hs]
      unfold playOnR; rw [if_pos hf, if_neg hs]
  · rw [if_neg hf]
    unfold playOnR; rw [if_neg hf]

theorem law_LeastPlayOn {k : Nat} {l : List Int} {m : Int} (hk : 2097152 ≤ k) (hl : l.length ≤ 9223372036854775807) : laws_FnExactLeastPlayOn.f k l m = some true := by
  unfold laws_FnExactLeastPlayOn.f
  rw [szTasks_f hl (by omega) (by omega), Option.bind_some]
  by_cases hb : (1048576 : Int) < (l.length : Int)
  · rw [if_pos hb, if_pos (by omega)]
  · rw [if_neg hb, if_neg (by omega)]
    have h : l.length ≤ 1048576 := by omega
    obtain ⟨h3, h4⟩ := playOnR_len l m
    have h3' : (playOnR l m).1.length ≤ 1048576 := by omega
    have h4' : (playOnR l m).2.1.length ≤ 1048576 := by omega
    simp only [toTasks_f hk h, spec_LeastPlayOn_f hk h, impl_LeastPlayOn_f hk h, eqTasks_f hk h, eqInt64S_f hk h3', eqInt64S_f hk h4', Option.bind_some, if_true, decide_true]
    rw [markTasks_f hk h (by omega) (by omega), Option.bind_some, if_neg (by show ¬ ((1 : Int) + (l.length : Int) < 0); omega), markInt64S_f hk h3' (by omega) (by omega), Option.bind_some, markInt64S_f hk h4' (by omega) (by show (1 : Int) + ((playOnR l m).1.length : Int) ≤ _; omega), Option.bind_some, heldInt64S_f hk h3' (by omega) (by omega), Option.bind_some, if_neg (by omega), heldInt64S_f hk h4' (by omega) (by omega), Option.bind_some, if_neg (by omega), if_pos rfl, Option.bind_some, if_neg (by omega), heldInt64S_f hk h4' (by omega) (by omega), Option.bind_some, if_neg (by omega), if_pos rfl]

end Go.Proofs.Ytcbhhbkghbnljaa.Vf
