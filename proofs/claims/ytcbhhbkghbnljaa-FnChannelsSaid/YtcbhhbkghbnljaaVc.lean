/- An evaluator of Go code over typed data, and that the model runs as it says (part 3). Conditions: as each theorem states. My own. -/
import Derived.Test.YtcbhhbkghbnljaaVb
import Derived.LoopN
import Derived.ChangeArms
import Derived.ChangeShapes
import Derived.Carry
section
namespace Go.V
open Go Go.RowKit
set_option linter.unusedVariables false
set_option linter.unusedSimpArgs false
section
variable {E : En} {R : Type} {st s st' : St} {o : Oper}
theorem gz (hf : st'.find = st.find) : ∀ (t : Ty) (cs : List AV), aC st' t cs = aC st t cs := by
 have row : ∀ (t : Ty) (a : AV), eV st' t a = eV st t a := by
  intro t a
  cases a <;> first | rfl | (show vk t (st'.find _) = vk t (st.find _); rw [hf])
 have mp : ∀ (k v : Ty) (a : AV), mapOf st' k v a = mapOf st k v a := by
  intro k v a
  cases a <;> first | rfl | (show BQ k v (st'.find _) = BQ k v (st.find _); rw [hf])
 intro t
 induction t with
 | pair a b iha ihb => intro cs; simp only [aC, iha, ihb]
 | struct t ih => intro cs; exact ih cs
 | unit => intro cs; rfl
 | ptr t ih =>
  intro cs
  simp only [aC]
  cases one? cs with
  | none => rfl
  | some a =>
   have e : aC st' t = aC st t := funext ih
   show z9 st' t (aC st' t) a = z9 st t (aC st t) a
   rw [e]
   cases a <;> first | rfl | (show zg t _ _ (st'.find _) = zg t _ _ (st.find _); rw [hf])
 | optr t ih =>
  intro cs
  simp only [aC]
  cases one? cs with
  | none => rfl
  | some a =>
   have e : aC st' t = aC st t := funext ih
   show Hj st' t (aC st' t) a = Hj st t (aC st t) a
   rw [e]
   cases a <;> first | rfl | (show wC (zg t _ _ (st'.find _)) = wC (zg t _ _ (st.find _)); rw [hf])
 | clo g c ih =>
  intro cs
  simp only [aC]
  cases one? cs with
  | none => rfl
  | some a =>
   have e : aC st' c = aC st c := funext ih
   show Lu g c (aC st' c) a = Lu g c (aC st c) a
   rw [e]
 | list t ih =>
  intro cs
  simp only [aC]
  cases one? cs with
  | none => rfl
  | some a => exact row t a
 | map k v ihk ihv =>
  intro cs
  simp only [aC]
  cases one? cs with
  | none => rfl
  | some a => exact mp k v a
 | int k => intro cs; simp only [aC]
 | bool => intro cs; simp only [aC]
 | str => intro cs; simp only [aC]
theorem tV (hf : st'.find = st.find) (d : D1) (v : AV) : dt st' d v = dt st d v := by
  cases d with
  | dat t => exact gz hf t [v]
  | own e t => cases v <;> first | rfl | simp only [dt, hf]
  | cel t =>
    rcases v with _ | _ | _ | _ | _ | _ | _ | _ | _ | ⟨b, _ | _⟩ | _ | _ | _ | _ | _ <;> first
      | rfl
      | (show oa st' t (st'.find _) = oa st t (st.find _)
         rw [hf]
         unfold oa
         split
         · split
           · rw [gz hf]
           · rfl
         · rfl)
theorem jz (hf : st'.find = st.find) : ∀ (ds : List D1) (cells : List AV), dM st' ds cells = dM st ds cells
 | [], cells => rfl
 | [d], cells => by
  simp only [dM]
  cases one? cells with
  | none => rfl
  | some v => exact tV hf d v
 | d :: d' :: ds, cells => by
  cases cells with
  | nil => simp only [dM]
  | cons v cells => simp only [dM, tV hf, jz hf (d' :: ds)]
theorem ni (hf : st'.find = st.find) : ∀ (n : Nat) (l : List Nat), dm st' n l = dm st n l
 | 0, l => rfl
 | n + 1, l => by unfold dm; rw [hf, ni hf n]
theorem wu (hf : st'.find = st.find) (ds : List D1) (cells : List AV) : nT st' ds cells = nT st ds cells := by
 unfold nT
 rw [ni hf, hf]
theorem yC : ∀ {ds : List D1} {x : cO ds} {vs : List AV} {st : St}, ds = [] → vs = [] → ed st ds x vs = some st := by
 intro ds x vs st h1 h2
 subst h1; subst h2; rfl
theorem nq : ∀ {ds : List D1} {cells : List AV}, ds.filter (·.cM) = [] → bp ds cells = []
 | [], _, _ => by simp [bp]
 | .dat t :: ds, [], _ => by simp [bp]
 | .dat t :: ds, v :: cells, h => by
  rw [List.filter_cons_of_neg (by simp [D1.cM])] at h
  exact nq (ds := ds) h
 | .own e t :: ds, _, h => by rw [List.filter_cons_of_pos (by simp [D1.cM])] at h; cases h
 | .cel t :: ds, _, h => by rw [List.filter_cons_of_pos (by simp [D1.cM])] at h; cases h
def pY (S : bD) : Bool := (flatC S.rs ++ outsC S.ps).all (·.apart) && (outsC S.ps).isEmpty
theorem j4 {nm : Nat} {dst : Option Tmp} {args : List AV} : ∀ {l : List bD}, (∀ S ∈ l, pY S = true) → bS nm st dst args some l = some s →
  ∃ v ns, (st.bm ns).put dst v some = some s ∧ (∀ b blk, look ns b = some blk → st.find b = none) ∧ (∀ b ∈ ah v, look ns b ≠ none) ∧ ∀ st' : St, st'.find = st.find → bS nm st' dst args some l = (st'.bm ns).put dst v some
 | [], _, h => by cases h
 | S :: l, hl, h => by
  have hS := hl S (by simp)
  unfold pY at hS
  rw [Bool.and_eq_true] at hS
  have hout : outsC S.ps = [] := by simpa using hS.2
  have hoc : ∀ cells, bp (flatC S.ps) cells = [] := fun cells => nq hout
  unfold bS at h
  split at h
  ·rename_i cells hfl
   split at h
   ·rename_i x hx
    unfold kf at h
    split at h
    ·cases h
    ·rename_i rch hsep
     obtain ⟨y, hy, hB⟩ := Option.bind_eq_some_iff.1 h
     clear h
     have hfz : ∀ st : St, lL ((flatC S.rs ++ outsC S.ps).all (·.apart)) st rch = some st := by intro st; rw [hS.1]; rfl
     have hso : ∀ st : St, ed st (outsC S.ps) (splitD (flatC S.rs) (outsC S.ps) y).2 (bp (flatC S.ps) cells) = some st := fun st => yC hout (hoc cells)
     rw [hfz] at hB
     simp only [hso] at hB
     split at hB
     ·cases hB
     ·rename_i cs st2 hpl
      obtain ⟨ns, e0, q2, q4, q3⟩ := jT hpl
      subst e0
      have go : ∀ v, (∀ b ∈ ah v, b ∈ ah.namesL cs) → (∀ st : St, (match dK S.rs cs with | some [v] => st.put dst v some | some vs => st.put dst (.tup vs) some | none => none) = st.put dst v some) → (st.bm ns).put dst v some = some s →
        ∃ v ns, (st.bm ns).put dst v some = some s ∧ (∀ b blk, look ns b = some blk → st.find b = none) ∧ (∀ b ∈ ah v, look ns b ≠ none) ∧ ∀ st' : St, st'.find = st.find → bS nm st' dst args some (S :: l) = (st'.bm ns).put dst v some := by
       intro v hnv hv hs
       refine ⟨v, ns, hs, q2, (fun b hb => q4 b (hnv b hb)), fun st' hf => ?_⟩
       unfold bS
       simp only [hfl]
       rw [jz hf, hx]
       simp only
       unfold kf
       rw [wu hf, hsep]
       simp only [hy, Option.bind_some]
       rw [hfz]
       simp only [hso, q3 st' (fun b blk hb => by rw [hf]; exact q2 b blk hb)]
       exact hv _
      split at hB
      ·rename_i v hv
       exact go v (fun b hb => dS hv b (by rw [cL]; exact hb)) (fun st => by rw [hv]) hB
      ·rename_i vs hne hv
       have e : ∀ st : St, (match dK S.rs cs with | some [v] => st.put dst v some | some vs => st.put dst (.tup vs) some | none => none) = st.put dst (.tup vs) some := by
        intro st
        rw [hv]
        match vs, hne with
        | [], _ => rfl
        | [v], hne => exact absurd rfl (hne v)
        | _ :: _ :: _, _ => rfl
       exact go (.tup vs) (fun b hb => dS hv b (by simpa [ah] using hb)) e hB
      ·cases hB
   ·rename_i hx
    obtain ⟨v, ns, q1, q2, q4, q3⟩ := j4 (fun S hS => hl S (by simp [hS])) h
    refine ⟨v, ns, q1, q2, q4, fun st' hf => ?_⟩
    rw [← q3 st' hf]
    conv => lhs; unfold bS
    simp only [hfl]
    rw [jz hf, hx]
  ·rename_i hfl
   obtain ⟨v, ns, q1, q2, q4, q3⟩ := j4 (fun S hS => hl S (by simp [hS])) h
   refine ⟨v, ns, q1, q2, q4, fun st' hf => ?_⟩
   rw [← q3 st' hf]
   conv => lhs; unfold bS
   simp only [hfl]
theorem mN : ∀ {l : List Nat}, (∀ b ∈ l, iz (st.find b) = true) → df st l = some st
 | [], _ => rfl
 | b :: l, h => by
  have hb := h b (by simp)
  unfold df
  cases hf : st.find b with
  | none => rw [hf] at hb; cases hb
  | some blk =>
   rw [hf] at hb
   cases blk with
   | frz e t x => exact mN fun c hc => h c (List.mem_cons_of_mem _ hc)
   | fmp k v m => exact mN fun c hc => h c (List.mem_cons_of_mem _ hc)
   | _ => cases hb
theorem ql (hf : st'.find = st.find) (t : Ty) : ∀ (n : Nat) (parts : List (Nat × AV)), gT st' t n parts = gT st t n parts
 | _, [] => rfl
 | n, (j, v) :: l => by simp only [gT, gz hf, ql hf t (n + 1) l]
theorem Bw (h : opK E o st some = some s) (hc : kW E o st = true) : ∃ v ns, (st.bm ns).put o.dst v some = some s ∧ (∀ b blk, look ns b = some blk → st.find b = none) ∧
  ∀ st' : St, st'.n = st.n → (∀ x ∈ o.op.operands, st'.ev x = st.ev x) → st'.find = st.find → opK E o st' some = (st'.bm ns).put o.dst v some := by
 unfold kW at hc
 split at hc
 ·rename_i c ho
  split at hc
  ·rename_i f hcal
   split at hc
   ·rename_i g caps hv
    have hall : ∀ S ∈ E.orc (vb g), pY S = true := List.all_eq_true.1 hc
    have hfm : f ∈ o.op.operands := by simp [ho, Op.operands, Call.operands, hcal]
    have ham : ∀ x ∈ c.args.toList, x ∈ o.op.operands := fun x hx => by
     simp only [ho, Op.operands, Call.operands, hcal, Array.mem_append]
     exact .inr (by simpa using hx)
    simp only [opK, ho, hcal, hv] at h
    obtain ⟨l', h1, h2, h3⟩ := gr h
    obtain ⟨s0, h4, h5⟩ := gS h1
    obtain ⟨v, ns, q1, q2, q4, q3⟩ := j4 hall h4
    obtain ⟨ns', r1, r2, r3⟩ := rr q1 q4 h5
    refine ⟨v, ns', r1, Jz r2 q2, fun st' hn' he hf => ?_⟩
    have e : c.args.toList.map st'.ev = c.args.toList.map st.ev := List.map_congr_left fun x hx => he x (ham x hx)
    obtain ⟨s1, p1, p2⟩ := r3 st' hn'
    simp only [opK, ho, hcal]
    rw [he f hfm, hv]
    simp only [e]
    rw [h3, ew _ ((q3 st' hf).trans p1), p2]
   ·cases hc
  ·cases hc
 ·rename_i t len parts ho
  have hidle : ∀ st' : St, st'.find = st.find → df st' (ah.namesL (parts.toList.map fun p => st.ev p.2)) = some st' := fun st' hf => mN fun b hb => by rw [hf]; exact List.all_eq_true.1 hc b hb
  have hidle0 := hidle st rfl
  simp only [opK, ho] at h
  split at h
  ·rename_i e n1 n2 n3 hi
   split at h
   ·rename_i i hie
    split at h
    ·rename_i ty hty
     split at h
     ·rename_i q1 q2 q3 q4
      rw [hidle0] at h
      simp only at h
      split at h
      ·rename_i l hl
       unfold mm at h
       split at h
       ·rename_i st1 hal
        obtain ⟨hfind, rfl⟩ := cA hal
        refine ⟨_, [(nameOf o.dst, .flat e ty l)], by rw [← St.dP]; exact h, ?_, fun st' hn' he hf => ?_⟩
        ·intro b blk hb
         rw [bg] at hb
         split at hb
         ·rename_i e'; rw [e']; exact hfind
         ·cases hb
        ·have e' : (parts.toList.map fun p => st'.ev p.2) = (parts.toList.map fun p => st.ev p.2) := List.map_congr_left fun p hp => he p.2 (by simp [ho, Op.operands]; exact ⟨p.1, by simpa using hp⟩)
         have e2 : (parts.toList.map fun p => (p.1, st'.ev p.2)) = (parts.toList.map fun p => (p.1, st.ev p.2)) := List.map_congr_left fun p hp => by rw [he p.2 (by simp [ho, Op.operands]; exact ⟨p.1, by simpa using hp⟩)]
         simp only [opK, ho, hi, hie, hty, q1, q2, q3, q4, e', hidle st' hf, e2, ql hf, hl]
         unfold mm
         rw [ir (by rw [hf]; exact hfind), St.dP]
       ·cases h
      ·cases h
     ·cases h
    ·cases h
   ·cases h
  ·cases h
 ·rename_i t x lo hi ho
  have hidle : ∀ st' : St, st'.find = st.find → df st' (ah (st.ev x)) = some st' := fun st' hf => mN fun b hb => by rw [hf]; exact List.all_eq_true.1 hc b hb
  have hqB : ∀ st' : St, st'.find = st.find → Ac st' (st.ev x) = none := by
   intro st' hf
   have hc' : ∀ b ∈ ah (st.ev x), iz (st.find b) = true := List.all_eq_true.1 hc
   generalize st.ev x = u at hc'
   cases u with
   | own b =>
    have hb := hc' b (by simp [ah])
    unfold Ac
    simp only [hf]
    cases hfb : st.find b with
    | none => rfl
    | some blk =>
     rw [hfb] at hb
     cases blk <;> first | rfl | cases hb
   | _ => rfl
  have hlist : ∀ (t : Ty) (a : AV) (st' : St), st'.find = st.find → eV st' t a = eV st t a := by
   intro t a st' hf
   cases a <;> first | rfl | (show vk t (st'.find _) = vk t (st.find _); rw [hf])
  have hbound : ∀ (st' : St) (d : Int) (z : Option Operand), (∀ x ∈ o.op.operands, st'.ev x = st.ev x) → (∀ y, z = some y → y ∈ o.op.operands) → eS st' d z = eS st d z := by
   intro st' d z he hz
   cases z with
   | none => rfl
   | some y =>
    have e := he y (hz y rfl)
    unfold eS
    simp only [e]
  simp only [opK, ho] at h
  have hbk : ke E o (st.ev x) = true := by
   cases hb : ke E o (st.ev x) with
   | true => rfl
   | false => simp only [hb] at h; cases h
  simp only [hbk] at h
  split at h
  ·rename_i e n1 n2 n3 hi'
   split at h
   ·rename_i sty hsty
    split at h
    ·cases h
    ·rename_i i hie
     split at h
     ·cases h
     ·rename_i hsz
      rw [hqB st rfl] at h
      simp only at h
      rw [hidle st rfl] at h
      simp only at h
      split at h
      ·cases h
      ·rename_i l hl
       split at h
       ·cases h
       ·rename_i p hp
        split at h
        ·cases h
        ·rename_i q hq
         obtain ⟨h1, h2⟩ := lE h
         refine ⟨_, [], h1, (fun b blk hb => by cases hb), fun st' hn' he hf => ?_⟩
         have hxm : x ∈ o.op.operands := by simp [ho, Op.operands]
         have hlo : ∀ y, lo = some y → y ∈ o.op.operands := fun y e' => by simp [ho, Op.operands, e']
         have hhi : ∀ y, hi = some y → y ∈ o.op.operands := fun y e' => by simp [ho, Op.operands, e']
         simp only [opK, ho]
         rw [show ke E o (st'.ev x) = true from by rw [he x hxm]; exact hbk]
         simp only [hi', hsty, hie, hsz]
         rw [show Ac st' (st'.ev x) = none from by rw [he x hxm]; exact hqB st' hf]
         simp only
         rw [show ah (st'.ev x) = ah (st.ev x) from by rw [he x hxm], hidle st' hf]
         simp only [he x hxm, hlist sty _ st' hf, hl, hbound st' _ lo he hlo, hp, hbound st' _ hi he hhi, hq, h2]
         rfl
   ·cases h
  ·cases h
 ·cases hc
theorem dq {v : AV} {dst : Option Tmp} (h : st.put dst v some = some s) : s.find = st.find := by
 unfold St.put at h
 split at h
 ·cases h; rfl
 ·split at h
  ·cases h; rfl
  ·cases h
theorem pW (h : opK E o st some = some s) (hp : er o = true) : s.find = st.find := by
 unfold er at hp
 cases ho : o.op with
 | move x => simp only [opK, ho] at h; exact dq h
 | assign x => simp only [opK, ho] at h; exact dq h
 | pick c x y =>
  simp only [opK, ho] at h
  obtain ⟨t, h1, _⟩ := mM h
  exact dq h1
 | load t p =>
  simp only [opK, ho] at h
  split at h
  ·split at h
   ·split at h
    ·exact dq h
    ·cases h
   ·cases h
  ·cases h
 | nilCheck x =>
  simp only [opK, ho] at h
  split at h
  ·exact dq h
  ·exact dq h
  ·exact dq h
  ·rename_i t y hv
   cases y with
   | none => cases h
   | some y => exact dq (v := .dp t y) h
  ·cases h
 | binOp op t x y u =>
  simp only [opK, ho] at h
  obtain ⟨v, h1, _⟩ := mJ h
  exact dq h1
 | unOp op t x =>
  simp only [opK, ho] at h
  split at h
  ·exact dq h
  ·cases h
 | convert a b x =>
  simp only [opK, ho] at h
  split at h
  ·split at h
   ·split at h
    ·exact dq h
    ·cases h
   ·cases h
  ·cases h
 | fieldAddr t p f =>
  simp only [opK, ho] at h
  repeat' split at h
  all_goals first | exact dq h | cases h
 | field t x f =>
  simp only [opK, ho] at h
  repeat' split at h
  all_goals first | exact dq h | cases h
 | indexAddr t x ix =>
  simp only [opK, ho] at h
  repeat' split at h
  all_goals first | exact dq (gE h).1 | cases h
 | extract x i =>
  simp only [opK, ho] at h
  repeat' split at h
  all_goals first | exact dq h | cases h
 | lookup t x ix ok => exact absurd h (by simp [opK, ho])
 | _ => rw [ho] at hp; cases hp
theorem St.oZ {t : Nat} {v : AV} (h : s.get t = v) : s.set t v = s := by
 unfold St.set
 have : upd s.get t v = s.get := by
  funext d
  rw [jF]
  split
  ·rename_i e; rw [e, h]
  ·rfl
 rw [this]
theorem St.set_set (t : Nat) (v u : AV) : (s.set t v).set t u = s.set t u := by
 unfold St.set
 congr 1
 funext d
 simp only [jF]
 split <;> rfl
theorem kD (ha : m4 o = true) (h : opK E o st some = some s) : ∃ κ : Nat → Option Nat, (∀ b c, κ b = some c → c = b) ∧ s.n = st.n ∧ (∀ b, s.find b = none → st.find b = none) ∧ (∀ e, o.dst ≠ some e → s.get e = (st.get e).ren κ) ∧
  ∀ d u, d ∉ slotsOf o → o.dst ≠ some d → opK E o (st.set d u) some = some (s.set d (u.ren κ)) := by
 unfold m4 at ha
 split at ha
 ·rename_i c hg ho
  split at ha
  ·rename_i hc
   have hput : ∀ (st0 : St) (v : AV) (s0 : St), st0.put o.dst v some = some s0 → s0.n = st0.n ∧ s0.find = st0.find ∧ (∀ e, o.dst ≠ some e → s0.get e = st0.get e) ∧ ∀ d u, o.dst ≠ some d → (st0.set d u).put o.dst v some = some (s0.set d u) := by
    intro st0 v s0 hp
    cases hd : o.dst with
    | none =>
     rw [hd] at hp
     cases hp
     exact ⟨rfl, rfl, fun _ _ => rfl, fun _ _ _ => rfl⟩
    | some dd =>
     rw [hd] at hp
     unfold St.put at hp
     simp only at hp
     split at hp
     ·rename_i hlt
      cases hp
      refine ⟨rfl, rfl, fun e he => by rw [St.cH, if_neg (fun e' => he (by rw [e']))], fun d u hne => ?_⟩
      unfold St.put
      simp only [show (st0.set d u).n = st0.n from rfl, hlt]
      congr 1
      unfold St.set
      congr 1
      funext t
      simp only [jF]
      by_cases e1 : t = dd
      ·by_cases e2 : t = d
       ·exact absurd (by rw [← e1, ← e2]) hne
       ·have e3 : ¬ dd = d := fun e' => hne (by rw [e'])
        simp [e1, e3]
      ·by_cases e2 : t = d <;> simp [e1, e2]
       intro e3; exact absurd (by rw [e3]) hne
     ·cases hp
   simp only [opK, ho, hc] at h
   split at h
   ·rename_i x y t t' hargs hts
    have hxm : x ∈ o.op.operands := by
     simp only [ho, Op.operands, Call.operands, hc, Array.empty_append]
     rw [← Array.mem_toList_iff, hargs]; simp
    have hym : y ∈ o.op.operands := by
     simp only [ho, Op.operands, Call.operands, hc, Array.empty_append]
     rw [← Array.mem_toList_iff, hargs]; simp
    have hev : ∀ d u, d ∉ slotsOf o → ∀ z ∈ o.op.operands, (st.set d u).ev z = st.ev z := by
     intro d u hd z hz
     cases z with
     | tmp e =>
      show (st.set d u).get e = st.get e
      rw [St.cH, if_neg]
      rintro rfl
      exact hd (by simp only [slotsOf, List.mem_filterMap]; exact ⟨.tmp e, by simpa using hz, rfl⟩)
     | const v => cases v <;> rfl
     | _ => rfl
    split at h
    ·rename_i he
     -- the parts
     have e0 : ∀ d u, d ∉ slotsOf o → opK E o (st.set d u) some = iO E o.dst t (st.set d u) (st.ev x) (st.ev y) some := by
      intro d u hd
      simp only [opK, ho, hc, hargs, hts, he]
      rw [hev d u hd x hxm, hev d u hd y hym]
     have hlist : ∀ d u (ty : Ty) (a : AV), eV (st.set d u) ty a = eV st ty a := by
      intro d u ty a; cases a <;> rfl
     unfold iO at h
     split at h
     ·rename_i e n1 n2 n3 hi
      split at h
      ·cases h
      ·rename_i i hie
       split at h
       ·cases h
       ·rename_i ty hty
        split at h
        ·rename_i q1 q2 q3 q4
         split at h
         ·cases h
         ·rename_i m hm
          split at h
          ·rename_i b hxb
           split at h
           ·rename_i e' t'' l hf
            split at h
            ·rename_i l' hp1 hp2
             obtain ⟨h1, h2⟩ := jc h
             obtain ⟨p1, p2, p3, p4⟩ := hput _ _ _ h1
             refine ⟨fm b, fun c d hcd => ((lP hcd).1).symm, p1, ?_, ?_, ?_⟩
             ·intro c hcn
              rw [p2, St.aW (st.fk b)] at hcn
              split at hcn
              ·cases hcn
              ·rw [St.lO] at hcn
               cases hfc : st.find c with
               | none => rfl
               | some z => rw [hfc] at hcn; cases hcn
             ·intro e2 he2
              rw [p3 e2 he2]
              rfl
             ·intro d u hd hne
              rw [e0 d u hd]
              unfold iO
              simp only [hi, hie, hty, q1, q2, q3, q4, hlist, hm, hxb]
              rw [show (st.set d u).find b = some (.flat e' t'' l) from hf]
              simp only [hp1, hp2, h2]
              rw [← p4 d (u.ren (fm b)) hne]
              congr 1
              unfold St.fk St.lay St.set
              congr 1
              funext z
              simp only [jF]
              split <;> rfl
            ·cases h
           ·rename_i e' t'' l hf
            split at h
            ·rename_i l' hp1 hp2
             obtain ⟨h1, h2⟩ := jc h
             obtain ⟨p1, p2, p3, p4⟩ := hput _ _ _ h1
             refine ⟨fm b, fun c d hcd => ((lP hcd).1).symm, p1, ?_, ?_, ?_⟩
             ·intro c hcn
              rw [p2, St.aW (st.fk b)] at hcn
              split at hcn
              ·cases hcn
              ·rw [St.lO] at hcn
               cases hfc : st.find c with
               | none => rfl
               | some z => rw [hfc] at hcn; cases hcn
             ·intro e2 he2
              rw [p3 e2 he2]
              rfl
             ·intro d u hd hne
              rw [e0 d u hd]
              unfold iO
              simp only [hi, hie, hty, q1, q2, q3, q4, hlist, hm, hxb]
              rw [show (st.set d u).find b = some (.que e' t'' l) from hf]
              simp only [hp1, hp2, h2]
              rw [← p4 d (u.ren (fm b)) hne]
              congr 1
              unfold St.fk St.lay St.set
              congr 1
              funext z
              simp only [jF]
              split <;> rfl
            ·cases h
           ·cases h
          ·rename_i hxb
           obtain ⟨h1, h2⟩ := jc h
           unfold mm at h1
           split at h1
           ·rename_i st2 hal
            obtain ⟨hfind, rfl⟩ := cA hal
            obtain ⟨p1, p2, p3, p4⟩ := hput _ _ _ h1
            refine ⟨some, fun b c hbc => by cases hbc; rfl, p1, ?_, ?_, ?_⟩
            ·intro c hcn
             rw [p2, St.aW] at hcn
             split at hcn
             ·cases hcn
             ·exact hcn
            ·intro e2 he2
             rw [p3 e2 he2, AV.du]
             rfl
            ·intro d u hd hne
             rw [e0 d u hd]
             unfold iO
             simp only [hi, hie, hty, q1, q2, q3, q4, hlist, hm, hxb, h2]
             unfold mm
             rw [ir (show (st.set d u).find (nameOf o.dst) = none from hfind), AV.du]
             exact p4 d u hne
           ·cases h1
          ·cases h
        ·cases h
     ·cases h
    ·cases h
   ·cases h
  ·cases ha
 ·cases ha
end
end Go.V
end
section
namespace Go.V
open Go Go.RowKit
set_option linter.unusedVariables false
set_option linter.unusedSimpArgs false
section
variable {E : En} {R R' : Type} {st s st' : St} {o : Oper}
theorem F2 (hs : ey o = true) (h : opK E o st some = some s) : ∃ v, st.put o.dst v some = some s ∧ ∀ st' : St, (∀ x ∈ o.op.operands, st'.ev x = st.ev x) → opK E o st' some = st'.put o.dst v some := by
 cases ho : o.op with
 | move x =>
  simp only [opK, ho] at h
  exact ⟨_, h, fun st' he => by simp only [opK, ho]; rw [he x (by simp [ho, Op.operands])]⟩
 | assign x =>
  simp only [opK, ho] at h
  exact ⟨_, h, fun st' he => by simp only [opK, ho]; rw [he x (by simp [ho, Op.operands])]⟩
 | pick c x y =>
  simp only [opK, ho] at h
  obtain ⟨t, h1, h2⟩ := mM h
  refine ⟨_, h1, fun st' he => ?_⟩
  simp only [opK, ho]
  rw [he c (by simp [ho, Op.operands]), h2]
  cases t
  ·show st'.put o.dst (st'.ev y) some = st'.put o.dst (st.ev y) some
   rw [he y (by simp [ho, Op.operands])]
  ·show st'.put o.dst (st'.ev x) some = st'.put o.dst (st.ev x) some
   rw [he x (by simp [ho, Op.operands])]
 | binOp op t x y u =>
  simp only [opK, ho] at h
  obtain ⟨v, h1, h2⟩ := mJ h
  refine ⟨v, h1, fun st' he => ?_⟩
  simp only [opK, ho]
  rw [he x (by simp [ho, Op.operands]), he y (by simp [ho, Op.operands]), h2]
 | unOp op t x =>
  simp only [opK, ho] at h
  split at h
  ·rename_i v hv
   refine ⟨v, h, fun st' he => ?_⟩
   simp only [opK, ho]
   rw [he x (by simp [ho, Op.operands]), hv]
  ·cases h
 | convert src dst x =>
  simp only [opK, ho] at h
  split at h
  ·rename_i j n hv
   split at h
   ·rename_i h1
    split at h
    ·rename_i h2
     refine ⟨_, h, fun st' he => ?_⟩
     simp only [opK, ho]
     rw [he x (by simp [ho, Op.operands]), hv]
     simp only [h1, h2]
    ·cases h
   ·cases h
  ·cases h
 | extract x i =>
  simp only [opK, ho] at h
  split at h
  ·rename_i vs hv
   split at h
   ·rename_i v h1
    refine ⟨v, h, fun st' he => ?_⟩
    simp only [opK, ho]
    rw [he x (by simp [ho, Op.operands]), hv]
    simp only [h1]
   ·cases h
  ·cases h
 | nilCheck x =>
  simp only [opK, ho] at h
  split at h
  ·rename_i b i hv
   exact ⟨_, h, fun st' he => by simp only [opK, ho]; rw [he x (by simp [ho, Op.operands]), hv]⟩
  ·rename_i b i hv
   exact ⟨_, h, fun st' he => by simp only [opK, ho]; rw [he x (by simp [ho, Op.operands]), hv]⟩
  ·rename_i b i hv
   exact ⟨_, h, fun st' he => by simp only [opK, ho]; rw [he x (by simp [ho, Op.operands]), hv]⟩
  ·rename_i t y hv
   cases y with
   | none => cases h
   | some y => exact ⟨.dp t y, h, fun st' he => by simp only [opK, ho]; rw [he x (by simp [ho, Op.operands]), hv]; rfl⟩
  ·cases h
 | field t x f =>
  simp only [opK, ho] at h
  split at h
  ·rename_i fs _ _ _ hi
   split at h
   ·rename_i off ft hft
    split at h
    ·rename_i i cs hti hv
     split at h
     ·rename_i hle
      split at h
      ·rename_i v hvv
       refine ⟨v, h, fun st' he => ?_⟩
       simp only [opK, ho, hi, hft]
       rw [he x (by simp [ho, Op.operands]), hv]
       simp only [hti, hle, hvv]
      ·cases h
     ·cases h
    ·cases h
   ·cases h
  ·cases h
 | _ => simp [ey, ho] at hs
theorem tw {cs : List AV} {n b : Nat} (h : b ∈ ah.namesL (cs.take n)) : b ∈ ah.namesL cs := by
 obtain ⟨v, hv, hm⟩ := bu.1 h
 exact bu.2 ⟨v, List.mem_of_mem_take hv, hm⟩
theorem tv {cs : List AV} {n b : Nat} (h : b ∈ ah.namesL (cs.drop n)) : b ∈ ah.namesL cs := by
 obtain ⟨v, hv, hm⟩ := bu.1 h
 exact bu.2 ⟨v, List.mem_of_mem_drop hv, hm⟩
structure Same (N : Nat → Prop) (st st' : St) : Prop where
 find : ∀ b, N b → st'.find b = st.find b
 sub : ∀ b, N b → ∀ c ∈ eW (st.find b), N c
theorem od {N : Nat → Prop} (H : Same N st st') : ∀ (t : Ty) (cs : List AV), (∀ b ∈ ah.namesL cs, N b) → aC st' t cs = aC st t cs := by
 have one : ∀ {a : AV} {cs : List AV}, one? cs = some a → (∀ b ∈ ah.namesL cs, N b) → ∀ b ∈ ah a, N b := by
  intro a cs ha h b hb
  rw [one?_some ha] at h
  exact h b (by rw [cL]; exact hb)
 have row : ∀ (t : Ty) (a : AV), (∀ b ∈ ah a, N b) → eV st' t a = eV st t a := by
  intro t a hn
  cases a <;> first | rfl | (show vk t (st'.find _) = vk t (st.find _); rw [H.find _ (hn _ (by simp [ah]))])
 have mp : ∀ (k v : Ty) (a : AV), (∀ b ∈ ah a, N b) → mapOf st' k v a = mapOf st k v a := by
  intro k v a hn
  cases a <;> first | rfl | (show BQ k v (st'.find _) = BQ k v (st.find _); rw [H.find _ (hn _ (by simp [ah]))])
 have bx : ∀ (t : Ty) (i b : Nat), N b → (∀ cs : List AV, (∀ b ∈ ah.namesL cs, N b) → aC st' t cs = aC st t cs) → zg t i (aC st' t) (st'.find b) = zg t i (aC st t) (st.find b) := by
  intro t i b hb ih
  rw [H.find b hb]
  cases hf : st.find b with
  | none => rfl
  | some blk =>
   cases blk with
   | cells cs =>
    show (match Nat.ble (i + t.size) cs.length with | true => aC st' t ((cs.drop i).take t.size) | false => none) = (match Nat.ble (i + t.size) cs.length with | true => aC st t ((cs.drop i).take t.size) | false => none)
    rw [ih _ fun c hc => H.sub b hb c (by rw [hf]; exact tv (tw hc))]
   | _ => rfl
 intro t
 induction t with
 | pair a b iha ihb =>
  intro cs hn
  simp only [aC]
  rw [iha _ fun b hb => hn b (tw hb), ihb _ fun b hb => hn b (tv hb)]
 | struct t ih => intro cs hn; exact ih cs hn
 | unit => intro cs _; rfl
 | ptr t ih =>
  intro cs hn
  simp only [aC]
  cases ho : one? cs with
  | none => rfl
  | some a =>
   have hn := one ho hn
   cases a <;> first | rfl | exact bx t _ _ (hn _ (by simp [ah])) ih
 | optr t ih =>
  intro cs hn
  simp only [aC]
  cases ho : one? cs with
  | none => rfl
  | some a =>
   have hn := one ho hn
   cases a <;> first | rfl | exact congrArg wC (bx t _ _ (hn _ (by simp [ah])) ih)
 | clo g c ih =>
  intro cs hn
  simp only [aC]
  cases ho : one? cs with
  | none => rfl
  | some a =>
   have hn := one ho hn
   cases a with
   | clo f caps =>
    show (match Nat.beq f g with | true => aC st' c caps | false => none) = (match Nat.beq f g with | true => aC st c caps | false => none)
    rw [ih caps hn]
   | _ => rfl
 | list t ih =>
  intro cs hn
  simp only [aC]
  cases ho : one? cs with
  | none => rfl
  | some a => exact row t a (one ho hn)
 | map k v ihk ihv =>
  intro cs hn
  simp only [aC]
  cases ho : one? cs with
  | none => rfl
  | some a => exact mp k v a (one ho hn)
 | int k => intro cs _; simp only [aC]
 | bool => intro cs _; simp only [aC]
 | str => intro cs _; simp only [aC]
theorem Ag {N : Nat → Prop} (H : Same N st st') (d : D1) (v : AV) (hn : ∀ b ∈ ah v, N b) : dt st' d v = dt st d v := by
  cases d with
  | dat t => exact od H t [v] (by rw [cL]; exact hn)
  | own e t => cases v <;> first | rfl | (simp only [dt]; rw [H.find _ (hn _ (by simp [ah]))])
  | cel t =>
    rcases v with _ | _ | _ | _ | _ | _ | _ | _ | _ | ⟨b, _ | _⟩ | _ | _ | _ | _ | _ <;> first
      | rfl
      | (have hb : N b := hn _ (by simp [ah])
         show oa st' t (st'.find b) = oa st t (st.find b)
         rw [H.find b hb]
         cases hf : st.find b with
         | none => rfl
         | some blk =>
           cases blk with
           | cells cs =>
             simp only [oa]
             rw [od H t cs fun c hc => H.sub b hb c (by rw [hf]; exact hc)]
           | _ => rfl)
theorem tY {N : Nat → Prop} (H : Same N st st') : ∀ (ds : List D1) (cells : List AV), (∀ b ∈ ah.namesL cells, N b) → dM st' ds cells = dM st ds cells
 | [], cells, _ => rfl
 | [d], cells, hn => by
  simp only [dM]
  cases ho : one? cells with
  | none => rfl
  | some v =>
   rw [one?_some ho] at hn
   exact Ag H d v (by rw [cL] at hn; exact hn)
 | d :: d' :: ds, cells, hn => by
  cases cells with
  | nil => simp only [dM]
  | cons v cells =>
   simp only [ah.namesL, List.mem_append] at hn
   simp only [dM]
   rw [Ag H d v fun b hb => hn b (.inl hb), tY H (d' :: ds) cells fun b hb => hn b (.inr hb)]
theorem lM : ∀ {l : List Nat} {st s : St}, df st l = some s → ∃ L, s = st.bm L ∧ (∀ b blk, look L b = some blk → b ∈ l ∧ iz (st.find b) = false) ∧ (∀ b cs, st.find b = some (.cells cs) → look L b = none) ∧ ∀ st' : St, (∀ b ∈ l, st'.find b = st.find b) → df st' l = some (st'.bm L)
 | [], st, s, h => by
  cases h
  exact ⟨[], rfl, (fun b blk h => by cases h), (fun _ _ _ => rfl), fun st' _ => rfl⟩
 | b :: l, st, s, h => by
  have go : ∀ (blk : Blk), iz (st.find b) = false → (∀ cs, st.find b ≠ some (.cells cs)) → iz (some blk) = true → df (st.lay b blk) l = some s → (∀ st' : St, (∀ c ∈ b :: l, st'.find c = st.find c) → df st' (b :: l) = df (st'.lay b blk) l) →
    ∃ L, s = st.bm L ∧ (∀ c blk, look L c = some blk → c ∈ b :: l ∧ iz (st.find c) = false) ∧ (∀ c cs, st.find c = some (.cells cs) → look L c = none) ∧ ∀ st' : St, (∀ c ∈ b :: l, st'.find c = st.find c) → df st' (b :: l) = some (st'.bm L) := by
   intro blk hb hc hz h1 h2
   obtain ⟨L, rfl, q1, q2, q3⟩ := lM h1
   have hfind : ∀ c, (st.lay b blk).find c = if c = b then some blk else st.find c := fun c => by
    rw [St.dP]
    show (match look [(b, blk)] c with | some b => some b | none => st.find c) = _
    rw [bg]
    by_cases e : c = b <;> simp [e, look]
   refine ⟨L ++ [(b, blk)], by rw [St.dP, eQ], ?_, ?_, fun st' hf => ?_⟩
   ·intro c blk' hl
    rw [bZ] at hl
    split at hl
    ·rename_i v hv
     obtain ⟨r1, r2⟩ := q1 c v hv
     rw [hfind] at r2
     split at r2
     ·rw [hz] at r2; cases r2
     ·exact ⟨by simp [r1], r2⟩
    ·rw [bg] at hl
     split at hl
     ·rename_i e; rw [e]; exact ⟨by simp, hb⟩
     ·cases hl
   ·intro c cs hcs
    have hne : c ≠ b := fun e => hc cs (by rw [← e]; exact hcs)
    rw [bZ, q2 c cs (by rw [hfind, if_neg hne]; exact hcs), bg, if_neg hne]
    rfl
   ·rw [h2 st' hf, q3 (st'.lay b blk) (fun c hc => by
     rw [hfind]
     have : (st'.lay b blk).find c = if c = b then some blk else st'.find c := by
      rw [St.dP]
      show (match look [(b, blk)] c with | some b => some b | none => st'.find c) = _
      rw [bg]
      by_cases e : c = b <;> simp [e, look]
     rw [this, hf c (List.mem_cons_of_mem _ hc)]), St.dP, eQ]
  unfold df at h
  split at h
  ·rename_i e t x hb
   refine go (.frz e t x) (by rw [hb]; rfl) (fun cs e' => by rw [hb] at e'; cases e') rfl h fun st' hf => ?_
   conv => lhs; unfold df
   rw [hf b (by simp), hb]
  ·rename_i e t x hb
   obtain ⟨L, q0, q1, q2, q3⟩ := lM h
   refine ⟨L, q0, fun c blk hl => ⟨List.mem_cons_of_mem _ (q1 c blk hl).1, (q1 c blk hl).2⟩, q2, fun st' hf => ?_⟩
   rw [← q3 st' (fun c hc => hf c (List.mem_cons_of_mem _ hc))]
   conv => lhs; unfold df
   rw [hf b (by simp), hb]
  ·rename_i k v m hb
   refine go (.fmp k v m) (by rw [hb]; rfl) (fun cs e' => by rw [hb] at e'; cases e') rfl h fun st' hf => ?_
   conv => lhs; unfold df
   rw [hf b (by simp), hb]
  ·rename_i k v m hb
   obtain ⟨L, q0, q1, q2, q3⟩ := lM h
   refine ⟨L, q0, fun c blk hl => ⟨List.mem_cons_of_mem _ (q1 c blk hl).1, (q1 c blk hl).2⟩, q2, fun st' hf => ?_⟩
   rw [← q3 st' (fun c hc => hf c (List.mem_cons_of_mem _ hc))]
   conv => lhs; unfold df
   rw [hf b (by simp), hb]
  ·cases h
theorem An : ∀ {ds : List D1} {x : cO ds} {vs : List AV} {st s : St}, ed st ds x vs = some s → ∃ L, s = st.bm L ∧ (∀ b blk, look L b = some blk → (.box b 0) ∈ vs ∨ (.own b) ∈ vs) ∧ ∀ st' : St, ed st' ds x vs = some (st'.bm L) := by
  have one : ∀ {d : D1} {x : d.den} {v : AV} {st s : St}, dF st d x v = some s → ∃ L, s = st.bm L ∧ (∀ b blk, look L b = some blk → (.box b 0) = v ∨ (.own b) = v) ∧ ∀ st' : St, dF st' d x v = some (st'.bm L) := by
    intro d x v st s h
    cases d with
    | dat t => cases h
    | own e t =>
      cases v with
      | own b =>
        have h : some (st.lay b (.flat e t x)) = some s := h
        cases h
        refine ⟨[(b, .flat e t x)], by rw [St.dP], fun c blk hl => ?_, fun st' => by rw [← St.dP]; rfl⟩
        rw [bg] at hl
        split at hl
        · rename_i e; exact .inr (by rw [e])
        · cases hl
      | nil =>
        have h : some st = some s := h
        cases h
        exact ⟨[], rfl, (fun b blk h => by cases h), fun st' => rfl⟩
      | _ => cases h
    | cel t =>
      rcases v with _ | _ | _ | _ | _ | _ | _ | _ | _ | ⟨b, _ | _⟩ | _ | _ | _ | _ | _ <;> first
        | (cases h; done)
        | (have h : some (st.lay b (.cells (cj t x))) = some s := h
           cases h
           refine ⟨[(b, .cells (cj t x))], by rw [St.dP], fun c blk hl => ?_, fun st' => by rw [← St.dP]; rfl⟩
           rw [bg] at hl
           split at hl
           · rename_i e; exact .inl (by rw [e])
           · cases hl)
  intro ds
  induction ds with
  | nil =>
    intro x vs st s h
    cases vs with
    | nil =>
      have h : some st = some s := h
      cases h
      exact ⟨[], rfl, (fun b blk h => by cases h), fun st' => rfl⟩
    | cons _ _ => cases h
  | cons d ds ih =>
    intro x vs st s h
    cases ds with
    | nil =>
      have h : (match one? vs with | some v => dF st d x v | none => none) = some s := h
      split at h
      · rename_i v hv
        obtain ⟨L, q1, q2, q3⟩ := one h
        refine ⟨L, q1, fun b blk hl => ?_, fun st' => ?_⟩
        · rw [one?_some hv]
          exact (q2 b blk hl).imp (fun r => by rw [r]; simp) fun r => by rw [r]; simp
        · show (match one? vs with | some v => dF st' d x v | none => none) = _
          rw [hv]; exact q3 st'
      · cases h
    | cons d' ds =>
      cases vs with
      | nil => cases h
      | cons v vs =>
        have h : (match dF st d x.1 v with | some st => ed st (d' :: ds) x.2 vs | none => none) = some s := h
        split at h
        · rename_i st1 h1
          obtain ⟨L, rfl, q2, q3⟩ := one h1
          obtain ⟨M, rfl, p2, p3⟩ := ih h
          refine ⟨M ++ L, eQ _ _ _, fun b blk hl => ?_, fun st' => ?_⟩
          · rw [bZ] at hl
            split at hl
            · rename_i u hu
              exact (p2 b _ hu).imp (List.mem_cons_of_mem _) (List.mem_cons_of_mem _)
            · exact (q2 b blk hl).imp (fun r => by rw [r]; simp) fun r => by rw [r]; simp
          · show (match dF st' d x.1 v with | some st => ed st (d' :: ds) x.2 vs | none => none) = _
            rw [q3 st']
            simp only
            rw [p3, eQ]
        · cases h
theorem FO : ∀ {ds : List D1} {vs : List AV} {x : cO ds}, dM st ds vs = some x → ∀ v ∈ bp ds vs, ∀ b, v = .box b 0 ∨ v = .own b → iz (st.find b) = false := by
 have one : ∀ {d : D1} {v : AV} {x : d.den}, dt st d v = some x → d.cM = true → ∀ b, v = .box b 0 ∨ v = .own b → iz (st.find b) = false := by
  intro d v x h hc b hb
  cases d with
  | dat t => cases hc
  | own e t =>
   rcases hb with rfl | rfl
   ·cases h
   ·have h : (match st.find b with
     | some (.flat e' s l) => match Nat.beq e' e with
      | true => cast? (.list s) (.list t) l
      | false => none
     | _ => none) = some x := h
    split at h
    ·rename_i hf; rw [hf]; rfl
    ·cases h
  | cel t =>
   rcases hb with rfl | rfl
   ·have h : oa st t (st.find b) = some x := h
    unfold oa at h
    split at h
    ·rename_i cs hcs; rw [hcs]; rfl
    ·cases h
   ·cases h
 intro ds
 induction ds with
 | nil => intro vs x h v hv; cases vs <;> simp [bp] at hv
 | cons d ds ih =>
  intro vs x h v hv
  cases vs with
  | nil => cases d <;> simp [bp] at hv
  | cons u vs =>
   have hd : ∃ y, dt st d u = some y := by
    cases ds with
    | nil =>
     have h : (match one? (u :: vs) with | some v => dt st d v | none => none) = some x := h
     split at h
     ·rename_i w hw
      have := one?_some hw
      simp only [List.cons.injEq] at this
      rw [this.1]; exact ⟨_, h⟩
     ·cases h
    | cons d' ds =>
     have h : (match dt st d u with
       | some x => match dM st (d' :: ds) vs with
        | some y => some (x, y)
        | none => none
       | none => none) = some x := h
     split at h
     ·rename_i y hy; exact ⟨y, hy⟩
     ·cases h
   have hr : ds = [] ∧ vs = [] ∨ ∃ y, dM st ds vs = some y := by
    cases ds with
    | nil =>
     have h : (match one? (u :: vs) with | some v => dt st d v | none => none) = some x := h
     split at h
     ·rename_i w hw
      have := one?_some hw
      simp only [List.cons.injEq] at this
      exact .inl ⟨rfl, this.2⟩
     ·cases h
    | cons d' ds =>
     have h : (match dt st d u with
       | some x => match dM st (d' :: ds) vs with
        | some y => some (x, y)
        | none => none
       | none => none) = some x := h
     split at h
     ·split at h
      ·rename_i y hy; exact .inr ⟨y, hy⟩
      ·cases h
     ·cases h
   have hrest : ∀ v ∈ bp ds vs, ∀ b, v = .box b 0 ∨ v = .own b → iz (st.find b) = false := by
    intro v hv
    rcases hr with ⟨rfl, rfl⟩ | ⟨y, hy⟩
    ·simp [bp] at hv
    ·exact ih hy v hv
   obtain ⟨y, hy⟩ := hd
   cases d with
   | dat t => exact hrest v hv
   | own e t =>
    rcases List.mem_cons.1 (show v ∈ u :: bp ds vs from hv) with rfl | hv
    ·exact one hy rfl
    ·exact hrest v hv
   | cel t =>
    rcases List.mem_cons.1 (show v ∈ u :: bp ds vs from hv) with rfl | hv
    ·exact one hy rfl
    ·exact hrest v hv
theorem lB : ∀ {bs l : List Nat} {b : Nat}, b ∈ n5 l bs → b ∈ l ∨ b ∈ bs
 | [], l, b, h => .inl h
 | c :: bs, l, b, h => by
  unfold n5 at h
  split at h
  ·rcases lB h with h | h
   ·exact .inl h
   ·exact .inr (List.mem_cons_of_mem _ h)
  ·rcases lB h with h | h
   ·rcases List.mem_append.1 h with h | h
    ·exact .inl h
    ·exact .inr (by simp only [List.mem_singleton] at h; simp [h])
   ·exact .inr (List.mem_cons_of_mem _ h)
theorem oh : ∀ {n : Nat} {l : List Nat}, (∀ b ∈ l, eW (st.find b) = []) → ∀ b ∈ dm st n l, b ∈ l
 | 0, l, _, b, h => h
 | n + 1, l, hl, b, h => by
  have e : (l.flatMap fun b => eW (st.find b)) = [] := by
   rw [List.flatMap_eq_nil_iff]; exact hl
  rw [dm, e] at h
  exact oh hl b h
theorem gA : ∀ {ds : List D1} {cells : List AV} {b : Nat}, b ∈ cn ds cells → b ∈ ah.namesL cells
 | [], cells, b, h => by cases cells <;> simp [cn] at h
 | d :: ds, [], b, h => by cases d <;> simp [cn] at h
 | .dat t :: ds, v :: cells, b, h => by
  simp only [cn, ah.namesL, List.mem_append] at h ⊢
  rcases h with h | h
  ·exact .inl h
  ·exact .inr (gA h)
 | .own e t :: ds, v :: cells, b, h => by
  have h : b ∈ cn ds cells := h
  simp only [ah.namesL, List.mem_append]
  exact .inr (gA h)
 | .cel t :: ds, v :: cells, b, h => by
  have h : b ∈ cn ds cells := h
  simp only [ah.namesL, List.mem_append]
  exact .inr (gA h)
theorem gW : ∀ {ps : List (Bool × List D1)} {vs cells : List AV}, nk ps vs = some cells → ∀ b ∈ ah.namesL cells, b ∈ ah.namesL vs
 | [], [], cells, h, b, hb => by cases h; exact hb
 | [], _ :: _, _, h, _, _ => by cases h
 | _ :: _, [], _, h, _, _ => by cases h
 | (q, ds) :: ps, v :: vs, cells, h, b, hb => by
  rw [nk] at h
  simp only [ah.namesL, List.mem_append]
  split at h
  ·cases h
  ·rename_i l hl
   have ih := gW hl
   split at h
   ·split at h
    ·rename_i cs hcs
     split at h
     ·cases h
      have hv : v = .agg cs := by cases v <;> first | (cases hcs; rfl) | (cases hcs)
      subst hv
      rw [j6] at hb
      rcases List.mem_append.1 hb with hb | hb
      ·exact .inl (by simpa [ah] using hb)
      ·exact .inr (ih b hb)
     ·cases h
    ·cases h
   ·split at h
    ·cases h
     simp only [ah.namesL, List.mem_append] at hb
     rcases hb with hb | hb
     ·exact .inl hb
     ·exact .inr (ih b hb)
    ·cases h
theorem HY {ds : List D1} {cells : List AV} {r : List Nat} (h : nT st ds cells = some r) (hn : ∀ b ∈ ah.namesL cells, eW (st.find b) = []) : ∀ b ∈ r, b ∈ ah.namesL cells := by
 have e : r = dm st 3 (n5 [] (cn ds cells)) := by
  unfold nT at h
  simp only at h
  split at h
  ·cases h; rfl
  ·cases h
 have key : ∀ b ∈ n5 [] (cn ds cells), b ∈ ah.namesL cells := fun b hb => by
  rcases lB hb with hb | hb
  ·cases hb
  ·exact gA hb
 intro b hb
 rw [e] at hb
 exact key b (oh (fun c hc => hn c (key c hc)) b hb)
theorem qi {N : Nat → Prop} (H : Same N st st') : ∀ (n : Nat) (l : List Nat), (∀ b ∈ l, N b) → dm st' n l = dm st n l
 | 0, l, _ => rfl
 | n + 1, l, hl => by
  have e : (l.flatMap fun b => eW (st'.find b)) = l.flatMap fun b => eW (st.find b) := by
   have : ∀ l : List Nat, (∀ b ∈ l, N b) → (l.flatMap fun b => eW (st'.find b)) = l.flatMap fun b => eW (st.find b) := by
    intro l
    induction l with
    | nil => intro _; rfl
    | cons b l ih => intro h; rw [List.flatMap_cons, List.flatMap_cons, H.find b (h b (by simp)), ih fun c hc => h c (by simp [hc])]
   exact this l hl
  unfold dm
  rw [e]
  refine qi H n _ fun b hb => ?_
  rcases lB hb with hb | hb
  ·exact hl b hb
  ·obtain ⟨c, hc, hb⟩ := List.mem_flatMap.1 hb
   exact H.sub c (hl c hc) b hb
theorem Ka {N : Nat → Prop} (H : Same N st st') {ds : List D1} {cells : List AV} {r : List Nat} (h : nT st ds cells = some r) (hn : ∀ b ∈ ah.namesL cells, N b) (hr : ∀ b ∈ r, N b) : nT st' ds cells = some r := by
 have e : dm st' 3 (n5 [] (cn ds cells)) = dm st 3 (n5 [] (cn ds cells)) := qi H 3 _ fun b hb => by
  rcases lB hb with hb | hb
  ·cases hb
  ·exact hn b (gA hb)
 unfold nT at h ⊢
 rw [e]
 simp only at h ⊢
 generalize dm st 3 (n5 [] (cn ds cells)) = q at h ⊢
 have hq : q = r := by split at h <;> first | (cases h; rfl) | cases h
 subst hq
 have e2 : (q.all fun b => (eW (st'.find b)).all fun c => q.any (Nat.beq c)) = q.all fun b => (eW (st.find b)).all fun c => q.any (Nat.beq c) := by
  have : ∀ l : List Nat, (∀ b ∈ l, N b) → (l.all fun b => (eW (st'.find b)).all fun c => q.any (Nat.beq c)) = l.all fun b => (eW (st.find b)).all fun c => q.any (Nat.beq c) := by
   intro l
   induction l with
   | nil => intro _; rfl
   | cons b l ih => intro h; rw [List.all_cons, List.all_cons, H.find b (h b (by simp)), ih fun c hc => h c (by simp [hc])]
  exact this q hr
 rw [e2]
 exact h
theorem iU : ∀ {ds : List D1} {cells : List AV} {v : AV}, v ∈ bp ds cells → v ∈ cells
 | [], cells, v, h => by cases cells <;> simp [bp] at h
 | d :: ds, [], v, h => by cases d <;> simp [bp] at h
 | .dat t :: ds, u :: cells, v, h => List.mem_cons_of_mem _ (iU (ds := ds) h)
 | .own e t :: ds, u :: cells, v, h => by
  rcases List.mem_cons.1 (show v ∈ u :: bp ds cells from h) with rfl | h
  ·simp
  ·exact List.mem_cons_of_mem _ (iU h)
 | .cel t :: ds, u :: cells, v, h => by
  rcases List.mem_cons.1 (show v ∈ u :: bp ds cells from h) with rfl | h
  ·simp
  ·exact List.mem_cons_of_mem _ (iU h)
def Seen (ws : Nat → Bool) (st : St) (vs : List AV) : Prop := ∀ b ∈ ah.namesL vs, st.find b ≠ none ∧ eW (st.find b) = [] ∧ (iz (st.find b) = true ∨ ws b = true)
theorem jj {nm : Nat} {dst : Option Tmp} {args : List AV} {ws : Nat → Bool} : ∀ {l : List bD}, bS nm st dst args some l = some s →
  ∃ v L, (st.bm L).put dst v some = some s ∧ (∀ b ∈ ah v, look L b ≠ none) ∧
   (Seen ws st args → (∀ b blk, look L b = some blk → st.find b = none ∨ (ws b = true ∧ b ∈ ah.namesL args)) ∧
    ∀ st' : St, (∀ b ∈ ah.namesL args, st'.find b = st.find b) → (∀ b blk, look L b = some blk → st.find b = none → st'.find b = none) → bS nm st' dst args some l = (st'.bm L).put dst v some) ∧
   ∀ st' : St, st'.find = st.find → bS nm st' dst args some l = (st'.bm L).put dst v some
 | [], h => by cases h
 | S :: l, h => by
  unfold bS at h
  split at h
  ·rename_i cells hfl
   split at h
   ·rename_i x hx
    unfold kf at h
    split at h
    ·cases h
    ·rename_i rch hsep
     obtain ⟨y, hy, hB⟩ := Option.bind_eq_some_iff.1 h
     clear h
     split at hB
     ·cases hB
     ·rename_i st1 hfz
      have hfz' : ∃ L1, st1 = st.bm L1 ∧ (∀ b blk, look L1 b = some blk → b ∈ rch ∧ iz (st.find b) = false) ∧ (∀ b cs, st.find b = some (.cells cs) → look L1 b = none) ∧ ∀ st' : St, (∀ b ∈ rch, st'.find b = st.find b) → lL ((flatC S.rs ++ outsC S.ps).all (·.apart)) st' rch = some (st'.bm L1) := by
       unfold lL at hfz
       split at hfz
       ·rename_i hap
        cases hfz
        exact ⟨[], rfl, (fun b blk h => by cases h), (fun _ _ _ => rfl), fun st' _ => by unfold lL; rw [hap]; rfl⟩
       ·rename_i hap
        obtain ⟨L1, q0, q1, q2, q3⟩ := lM hfz
        exact ⟨L1, q0, q1, q2, fun st' hf => by unfold lL; rw [hap]; exact q3 st' hf⟩
      obtain ⟨L1, rfl, f1, f2, f3⟩ := hfz'
      split at hB
      ·cases hB
      ·rename_i st2 hso
       obtain ⟨L2, rfl, o1, o2⟩ := An hso
       split at hB
       ·cases hB
       ·rename_i cs st3 hpl
        obtain ⟨ns, e0, q2, q4, q3⟩ := jT hpl
        subst e0
        rw [eQ, eQ, List.append_assoc] at hB
        have hmono : ∀ st' : St, st'.find = st.find → bS nm st' dst args some (S :: l) = (match dK S.rs cs with | some [v] => (st'.bm (ns ++ (L2 ++ L1))).put dst v some | some vs => (st'.bm (ns ++ (L2 ++ L1))).put dst (.tup vs) some | none => none) := by
         intro st' hf
         unfold bS
         simp only [hfl]
         rw [jz hf, hx]
         simp only
         unfold kf
         rw [wu hf, hsep]
         simp only [hy, Option.bind_some]
         rw [f3 st' (fun b _ => by rw [hf])]
         simp only [o2]
         rw [q3 ((st'.bm L1).bm L2) (fun b blk hb => by
          have := q2 b blk hb
          show (match look L2 b with | some b => some b | none => (st'.bm L1).find b) = none
          have this : (match look L2 b with | some b => some b | none => (st.bm L1).find b) = none := this
          have e : (st'.bm L1).find b = (st.bm L1).find b := by unfold St.bm; simp only [hf]
          rw [e]; exact this)]
         simp only [eQ]
         rfl
        have hdom : Seen ws st args → (∀ b blk, look (ns ++ (L2 ++ L1)) b = some blk → st.find b = none ∨ (ws b = true ∧ b ∈ ah.namesL args)) ∧
          ∀ st' : St, (∀ b ∈ ah.namesL args, st'.find b = st.find b) → (∀ b blk, look (ns ++ (L2 ++ L1)) b = some blk → st.find b = none → st'.find b = none) → bS nm st' dst args some (S :: l) = (match dK S.rs cs with | some [v] => (st'.bm (ns ++ (L2 ++ L1))).put dst v some | some vs => (st'.bm (ns ++ (L2 ++ L1))).put dst (.tup vs) some | none => none) := by
         intro hseen
         have hsc : ∀ b ∈ ah.namesL cells, st.find b ≠ none ∧ eW (st.find b) = [] ∧ (iz (st.find b) = true ∨ ws b = true) := fun b hb => hseen b (gW hfl b hb)
         have hrch := HY hsep (fun b hb => (hsc b hb).2.1)
         have hread := FO hx
         have d1 : ∀ b blk, look L1 b = some blk → ws b = true ∧ b ∈ ah.namesL args := by
          intro b blk hb
          obtain ⟨r1, r2⟩ := f1 b blk hb
          rcases (hsc b (hrch b r1)).2.2 with h | h
          ·rw [r2] at h; cases h
          ·exact ⟨h, gW hfl b (hrch b r1)⟩
         have d2 : ∀ b blk, look L2 b = some blk → ws b = true ∧ b ∈ ah.namesL args := by
          intro b blk hb
          have hv : ∀ v, v ∈ bp (flatC S.ps) cells → (v = .box b 0 ∨ v = .own b) → ws b = true ∧ b ∈ ah.namesL args := by
           intro v hv hvb
           have h1 := hread v hv b hvb
           have h2 : b ∈ ah.namesL cells := bu.2 ⟨v, iU hv, by rcases hvb with rfl | rfl <;> simp [ah]⟩
           rcases (hsc b h2).2.2 with h | h
           ·rw [h1] at h; cases h
           ·exact ⟨h, gW hfl b h2⟩
          rcases o1 b blk hb with h | h
          ·exact hv _ h (.inl rfl)
          ·exact hv _ h (.inr rfl)
         have d3 : ∀ b blk, look ns b = some blk → st.find b = none ∧ look L2 b = none ∧ look L1 b = none := by
          intro b v hv
          have := q2 b v hv
          have this : (match look L2 b with | some b => some b | none => (match look L1 b with | some b => some b | none => st.find b)) = none := this
          cases h2 : look L2 b with
          | some _ => rw [h2] at this; cases this
          | none => cases h1 : look L1 b with
           | some _ => rw [h2, h1] at this; cases this
           | none => rw [h2, h1] at this; exact ⟨this, rfl, rfl⟩
         refine ⟨fun b blk hb => ?_, fun st' hf hfr => ?_⟩
         ·rw [bZ] at hb
          split at hb
          ·rename_i v hv; exact .inl (d3 b v hv).1
          ·rw [bZ] at hb
           split at hb
           ·rename_i v hv; exact .inr (d2 b v hv)
           ·exact .inr (d1 b blk hb)
         ·have H : Same (fun b => b ∈ ah.namesL cells) st st' := ⟨fun b hb => hf b (gW hfl b hb), fun b hb c hc => by rw [(hsc b hb).2.1] at hc; cases hc⟩
          unfold bS
          simp only [hfl]
          rw [tY H _ _ (fun b hb => hb), hx]
          simp only
          unfold kf
          rw [Ka H hsep (fun b hb => hb) hrch]
          simp only [hy, Option.bind_some]
          rw [f3 st' (fun b hb => H.find b (hrch b hb))]
          simp only [o2]
          rw [q3 ((st'.bm L1).bm L2) (fun b blk hb => by
           obtain ⟨e1, e2, e3⟩ := d3 b blk hb
           show (match look L2 b with | some b => some b | none => (match look L1 b with | some b => some b | none => st'.find b)) = none
           rw [e2, e3]
           exact hfr b blk (by rw [bZ, hb]) e1)]
          simp only [eQ]
          rfl
        have hnm : ∀ b ∈ ah.namesL cs, look (ns ++ (L2 ++ L1)) b ≠ none := fun b hb => by
         rw [bZ]
         cases h1 : look ns b with
         | none => exact absurd h1 (q4 b hb)
         | some v => simp
        split at hB
        ·rename_i v hv
         refine ⟨v, ns ++ (L2 ++ L1), hB, (fun b hb => hnm b (dS hv b (by rw [cL]; exact hb))), (fun hs => ⟨(hdom hs).1, fun st' h1 h2 => by rw [(hdom hs).2 st' h1 h2, hv]⟩), fun st' hf => ?_⟩
         rw [hmono st' hf, hv]
        ·rename_i vs hne hv
         have e : ∀ st : St, (match dK S.rs cs with | some [v] => st.put dst v some | some vs => st.put dst (.tup vs) some | none => none) = st.put dst (.tup vs) some := by
          intro st
          rw [hv]
          match vs, hne with
          | [], _ => rfl
          | [v], hne => exact absurd rfl (hne v)
          | _ :: _ :: _, _ => rfl
         refine ⟨.tup vs, ns ++ (L2 ++ L1), hB, (fun b hb => hnm b (dS hv b (by simpa [ah] using hb))), (fun hs => ⟨(hdom hs).1, fun st' h1 h2 => by rw [(hdom hs).2 st' h1 h2]; exact e _⟩), fun st' hf => ?_⟩
         rw [hmono st' hf]
         exact e _
        ·cases hB
   ·rename_i hx
    obtain ⟨v, L, q1, q2, q4, q3⟩ := jj (ws := ws) h
    refine ⟨v, L, q1, q2, fun hs => ⟨(q4 hs).1, fun st' h1 h2 => ?_⟩, fun st' hf => ?_⟩
    ·rw [← (q4 hs).2 st' h1 h2]
     have H : Same (fun b => b ∈ ah.namesL cells) st st' := ⟨fun b hb => h1 b (gW hfl b hb), fun b hb c hc => by rw [(hs b (gW hfl b hb)).2.1] at hc; cases hc⟩
     conv => lhs; unfold bS
     simp only [hfl]
     rw [tY H _ _ (fun b hb => hb), hx]
    ·rw [← q3 st' hf]
     conv => lhs; unfold bS
     simp only [hfl]
     rw [jz hf, hx]
  ·rename_i hfl
   obtain ⟨v, L, q1, q2, q4, q3⟩ := jj (ws := ws) h
   refine ⟨v, L, q1, q2, fun hs => ⟨(q4 hs).1, fun st' h1 h2 => ?_⟩, fun st' hf => ?_⟩
   ·rw [← (q4 hs).2 st' h1 h2]
    conv => lhs; unfold bS
    simp only [hfl]
   ·rw [← q3 st' hf]
    conv => lhs; unfold bS
    simp only [hfl]
theorem nZ {ws : Nat → Bool} (hw : g7 o = true) (h : opK E o st some = some s) : ∃ v L, (st.bm L).put o.dst v some = some s ∧
  (wOK ws o st = true → (∀ b blk, look L b = some blk → st.find b = none ∨ (ws b = true ∧ ∃ x ∈ o.op.operands, b ∈ ah (st.ev x))) ∧
   (∀ x ∈ o.op.operands, ∀ b ∈ ah (st.ev x), st.find b ≠ none) ∧
   ∀ st' : St, st'.n = st.n → (∀ x ∈ o.op.operands, st'.ev x = st.ev x) → (∀ x ∈ o.op.operands, ∀ b ∈ ah (st.ev x), st'.find b = st.find b) → (∀ b blk, look L b = some blk → st.find b = none → st'.find b = none) → opK E o st' some = (st'.bm L).put o.dst v some) ∧
  ∀ st' : St, st'.n = st.n → (∀ x ∈ o.op.operands, st'.ev x = st.ev x) → st'.find = st.find → opK E o st' some = (st'.bm L).put o.dst v some := by
 unfold g7 at hw
 split at hw
 ·rename_i c hg ho
  split at hw
  ·rename_i f hcal
   have ham : ∀ x ∈ c.args.toList, x ∈ o.op.operands := fun x hx => by
    simp only [ho, Op.operands, Call.operands, hcal, Array.mem_append]
    exact .inr (by simpa using hx)
   have hev : ∀ st : St, st.ev (.func f) = match Nat.ble gM f with | true => .undef | false => .clo f [] := fun _ => rfl
   simp only [opK, ho, hcal] at h
   cases hb : Nat.ble gM f with
   | true =>
    rw [hev, hb] at h
    cases h
   | false =>
    have hev : ∀ st : St, st.ev (.func f) = .clo f [] := fun st => by rw [hev, hb]
    rw [hev] at h
    obtain ⟨l', h1, h2, h3⟩ := gr h
    obtain ⟨s0, h4, h5⟩ := gS h1
    obtain ⟨v, L, q1, q2, q4, q3⟩ := jj (ws := ws) h4
    obtain ⟨L', r1, r2, r3⟩ := rr q1 q2 h5
    refine ⟨v, L', r1, fun hok => ?_, fun st' hn' he hf => ?_⟩
    ·unfold wOK at hok
     simp only [ho, hcal] at hok
     have hall := fun b hb' => List.all_eq_true.1 hok b hb'
     have hnm : ∀ b, b ∈ ah.namesL (n6 f l' []) → b ∈ ah.namesL (c.args.toList.map st.ev) := fun b hb' => by
      rw [pD hb, List.append_nil, h2] at hb'; exact hb'
     have hop : ∀ b, b ∈ ah.namesL (c.args.toList.map st.ev) → ∃ x ∈ o.op.operands, b ∈ ah (st.ev x) := fun b hb' => by
      obtain ⟨u, hu, hm⟩ := bu.1 hb'
      obtain ⟨x, hx, rfl⟩ := List.mem_map.1 hu
      exact ⟨x, ham x hx, hm⟩
     obtain ⟨p1, p2⟩ := q4 (fun b hb' => by
      have := hall b (hnm b hb')
      simp only [Bool.and_eq_true, Bool.or_eq_true, List.isEmpty_iff] at this
      exact ⟨fun e => by rw [e] at this; exact absurd this.1.1 (by simp), this.1.2, this.2⟩)
     refine ⟨fun b blk hl => ?_, ?_, fun st' hn' he hf hfr => ?_⟩
     ·cases hl' : look L b with
      | none => rw [(r2 b).2 hl'] at hl; cases hl
      | some k => exact (p1 b k hl').imp id fun h => ⟨h.1, hop b (hnm b h.2)⟩
     ·intro x hx b hbx
      simp only [ho, Op.operands, Call.operands, hcal, Array.mem_append] at hx
      rcases hx with hx | hx
      ·simp at hx; subst hx; rw [hev] at hbx; simp [ah, ah.namesL] at hbx
      ·have hm : b ∈ ah.namesL (c.args.toList.map st.ev) := bu.2 ⟨_, List.mem_map.2 ⟨x, by simpa using hx, rfl⟩, hbx⟩
       have := hall b hm
       simp only [Bool.and_eq_true] at this
       intro e; rw [e] at this; exact absurd this.1.1 (by simp)
     ·have e : c.args.toList.map st'.ev = c.args.toList.map st.ev := List.map_congr_left fun x hx => he x (ham x hx)
      obtain ⟨s1, t1, t2⟩ := r3 st' hn'
      simp only [opK, ho, hcal]
      rw [hev]
      simp only [e]
      rw [h3, ew _ ((p2 st' (fun b hb' => by
       obtain ⟨x, hx, hm⟩ := hop b (hnm b hb')
       exact hf x hx b hm) (fun b blk hl hfn => by
       cases hl' : look L' b with
       | none => rw [(r2 b).1 hl'] at hl; cases hl
       | some k => exact hfr b k hl' hfn)).trans t1), t2]
    ·have e : c.args.toList.map st'.ev = c.args.toList.map st.ev := List.map_congr_left fun x hx => he x (ham x hx)
     obtain ⟨s1, p1, p2⟩ := r3 st' hn'
     simp only [opK, ho, hcal]
     rw [hev]
     simp only [e]
     rw [h3, ew _ ((q3 st' hf).trans p1), p2]
  ·cases hw
 ·cases hw
theorem yE (v : AV) : ah v.settle = ah v := by cases v <;> first | rfl | (unfold AV.settle; split <;> first | rfl | (rename_i h; cases h; rfl))
theorem nu : ∀ l : List AV, ah.namesL (l.map AV.settle) = ah.namesL l
 | [] => rfl
 | v :: l => by simp [ah.namesL, yE v, nu l]
theorem zk {v : AV} {cs : List AV} (h : cellsOf v = some cs) : ∀ b ∈ ah.namesL cs, b ∈ ah v := by
 cases v with
 | agg l => cases h; intro b hb; simpa [ah] using hb
 | tup l => cases h
 | undef => cases h
 | gone => cases h
 | _ => cases h; intro b hb; rw [cL] at hb; exact hb
theorem nX {ws : Nat → Bool} (hs : stO o = true) (h : opK E o st some = some s) : ∃ L, s = st.bm L ∧ (yI ws o st = true → ∀ b blk, look L b = some blk → ws b = true) ∧
  ∀ st' : St, (∀ x ∈ o.op.operands, st'.ev x = st.ev x) → st'.find = st.find → opK E o st' some = some (st'.bm L) := by
 unfold stO at hs
 split at hs
 ·rename_i t p x hg hd ho
  simp only [opK, ho] at h
  split at h
  ·rename_i i hi
   split at h
   ·rename_i vs hvs
    split at h
    ·rename_i hlen
     split at h
     ·rename_i hkn
      have hpm : p ∈ o.op.operands := by simp [ho, Op.operands]
      have hxm : x ∈ o.op.operands := by simp [ho, Op.operands]
      have hall : yI ws o st = true → ∀ z ∈ o.op.operands, ∀ b ∈ ah (st.ev z), iz (st.find b) = true ∨ ws b = true := by
       intro hok z hz b hb
       have := List.all_eq_true.1 hok b (bu.2 ⟨_, List.mem_map.2 ⟨z, by simpa using hz, rfl⟩, hb⟩)
       simpa using this
      have go : ∀ (L : List (Nat × Blk)), s = st.bm L → (yI ws o st = true → ∀ b blk, look L b = some blk → ws b = true) →
        (∀ st' : St, st'.find = st.find → g6 st' (vs.map AV.settle) (fun st => st.put o.dst .undef some) (st.ev p) = some (st'.bm L)) →
        ∃ L, s = st.bm L ∧ (yI ws o st = true → ∀ b blk, look L b = some blk → ws b = true) ∧
         ∀ st' : St, (∀ x ∈ o.op.operands, st'.ev x = st.ev x) → st'.find = st.find → opK E o st' some = some (st'.bm L) := by
       intro L h1 h2 h3
       refine ⟨L, h1, h2, fun st' he hf => ?_⟩
       simp only [opK, ho, hi]
       rw [he x hxm, he p hpm]
       simp only [hvs, hlen, hkn]
       exact h3 st' hf
      cases hp : st.ev p with
      | box b j =>
       rw [hp] at h
       simp only [g6] at h
       split at h
       ·rename_i cs hcs
        split at h
        ·rename_i hle
         rw [hd] at h
         cases h
         refine go [(b, .cells (oY cs j (vs.map AV.settle)))] (by rw [St.dP]) ?_ fun st' hf => ?_
         ·intro hok c blk hl
          rw [bg] at hl
          split at hl
          ·rename_i e
           rcases hall hok p hpm c (by rw [hp, e]; simp [ah]) with h | h
           ·rw [e, hcs] at h; cases h
           ·exact h
          ·cases hl
         ·rw [hp]
          simp only [g6]
          rw [hf, hcs]
          simp only [hle]
          rw [hd, ← St.dP]; rfl
        ·cases h
       ·cases h
      | ep b j =>
       rw [hp] at h
       simp only [g6] at h
       split at h
       ·cases h
       ·rename_i st1 hfz
        obtain ⟨L1, rfl, f1, _, f3⟩ := lM hfz
        split at h
        ·rename_i e t' l hb
         split at h
         ·rename_i hsz
          split at h
          ·rename_i y hy
           rw [hd] at h
           cases h
           refine go ((b, .flat e t' (List.set l j y)) :: L1) (by rw [← St.oA]) ?_ fun st' hf => ?_
           ·intro hok c blk hl
            have h1 : ∀ c k, look L1 c = some k → ws c = true := by
             intro c k hk
             obtain ⟨r1, r2⟩ := f1 c k hk
             rw [nu] at r1
             rcases hall hok x hxm c (zk hvs c r1) with h | h
             ·rw [r2] at h; cases h
             ·exact h
            rw [bg] at hl
            split at hl
            ·rename_i e'
             subst e'
             have hb : (match look L1 c with | some k => some k | none => st.find c) = some (.flat e t' l) := hb
             cases hk : look L1 c with
             | some k => exact h1 c k hk
             | none =>
              rw [hk] at hb
              rcases hall hok p hpm c (by rw [hp]; simp [ah]) with h | h
              ·rw [show st.find c = some (.flat e t' l) from hb] at h; cases h
              ·exact h
            ·exact h1 c blk hl
           ·rw [hp]
            simp only [g6]
            rw [f3 st' (fun c _ => by rw [hf])]
            have e2 : (st'.bm L1).find = (st.bm L1).find := by unfold St.bm; simp only [hf]
            simp only [e2, hb, hsz]
            rw [gz e2, hy, hd]
            simp only
            rw [← St.oA]; rfl
          ·cases h
         ·cases h
        ·cases h
      | _ => rw [hp] at h; cases h
     ·cases h
    ·cases h
   ·cases h
  ·cases h
 ·cases hs
end
end Go.V
end
section
namespace Go.V
open Go Go.RowKit
set_option linter.unusedVariables false
set_option linter.unusedSimpArgs false
def fZ : AV → Option Bool
 | .dat t b => match t, b with
  | .bool, b => some b
  | _, _ => none
 | .test pos p i => some (pos == @decide p i)
 | _ => none
section
variable {E : En} {R : Type} {st s st' : St} {o : Oper} {all : List Oper}
theorem kI {v : AV} {k : Bool → Option R} : lJ v k = (fZ v).bind k := by
 cases v with
 | dat t y =>
  cases t with
  | bool =>
   show lK y k = k y
   unfold lK
   revert y
   intro (y : Bool)
   cases y <;> simp
  | _ => rfl
 | test pos p i =>
  cases pos
  ·show @ite _ p i (k false) (k true) = k (false == @decide p i)
   split
   ·rename_i h; rw [decide_eq_true h]; rfl
   ·rename_i h; rw [decide_eq_false h]; rfl
  ·show @ite _ p i (k true) (k false) = k (true == @decide p i)
   split
   ·rename_i h; rw [decide_eq_true h]; rfl
   ·rename_i h; rw [decide_eq_false h]; rfl
 | _ => rfl
theorem pF (σ : Nat → Option Nat) (v : AV) : fZ (v.ren σ) = fZ v := by
 cases v <;> simp only [AV.ren] <;> first | rfl | (split <;> rfl)
def vq (o : Oper) (st s : St) : Prop := ∀ d, o.dst ≠ some d → fZ (s.get d) = fZ (st.get d)
theorem b8 {st0 st1 : St} {v : AV} {k : St → Option R} {r : R} (hb : ∀ d, fZ (st1.get d) = fZ (st0.get d)) (h : st1.put o.dst v k = some r) : ∃ s, st1.put o.dst v some = some s ∧ k s = some r ∧ vq o st0 s := by
 cases hd : o.dst with
 | none =>
  rw [hd] at h
  exact ⟨st1, rfl, h, fun d _ => hb d⟩
 | some e =>
  rw [hd] at h
  unfold St.put at h ⊢
  simp only at h ⊢
  split at h
  ·rename_i hlt
   refine ⟨_, rfl, h, fun d hne => ?_⟩
   rw [St.cH, if_neg (fun e' => hne (by rw [hd, e']))]
   exact hb d
  ·cases h
theorem gB : ∀ {ns : List Nat} {st st' : St}, df st ns = some st' → st'.get = st.get
 | [], _, _, h => by cases h; rfl
 | b :: ns, st, st', h => by
  unfold df at h
  split at h
  ·rename_i e t l _
   exact (show st'.get = (st.lay b (.frz e t l)).get from gB h)
  ·exact gB h
  ·rename_i k v m _
   exact (show st'.get = (st.lay b (.fmp k v m)).get from gB h)
  ·exact gB h
  ·cases h
theorem qF {d : D1} {x : d.den} {v : AV} {st s : St} (h : dF st d x v = some s) : s.get = st.get := by
 cases d with
 | dat t => cases h
 | own e t => cases v with
  | own b => cases (show some _ = some s from h); rfl
  | nil => cases (show some _ = some s from h); rfl
  | _ => cases h
 | cel t => rcases v with _ | _ | _ | _ | _ | _ | _ | _ | _ | ⟨b, _ | _⟩ | _ | _ | _ | _ | _ <;> first | (cases h; done) | (cases (show some _ = some s from h); rfl)
theorem qG : ∀ {ds : List D1} {x : cO ds} {cells : List AV} {st s : St}, ed st ds x cells = some s → s.get = st.get
 | [], x, cells, st, s, h => by
  cases cells with
  | nil => cases (show some st = some s from h); rfl
  | cons _ _ => cases h
 | [d], x, cells, st, s, h => by
  have h : (match one? cells with | some v => dF st d x v | none => none) = some s := h
  split at h
  ·exact qF h
  ·cases h
 | d :: d' :: ds, x, cells, st, s, h => by
  cases cells with
  | nil => cases h
  | cons v cells =>
   have h : (match dF st d x.1 v with | some st => ed st (d' :: ds) x.2 cells | none => none) = some s := h
   split at h
   ·rename_i st1 h1
    exact (qG h).trans (qF h1)
   ·cases h
theorem CM {ds : List D1} {x : cO ds} {nm : Nat} {st s : St} {cs : List AV} (h : kQ st nm ds x = some (cs, s)) : s.get = st.get := by
 obtain ⟨ns, rfl, _, _⟩ := jT h
 rfl
theorem lD {nm : Nat} {args : List AV} {k : St → Option R} {r : R} : ∀ {l : List bD}, bS nm st o.dst args k l = some r → ∃ s, bS nm st o.dst args some l = some s ∧ k s = some r ∧ vq o st s
 | [], h => by cases h
 | S :: l, h => by
  unfold bS at h ⊢
  split at h
  ·split at h
   ·rename_i x hx
    unfold kf at h ⊢
    split at h
    ·cases h
    ·rename_i rch hsep
     obtain ⟨y, hy, hB⟩ := Option.bind_eq_some_iff.1 h
     simp only [hy, Option.bind_some]
     clear h
     split at hB
     ·cases hB
     ·rename_i st1 h1
      have g1 : st1.get = st.get := by
       unfold lL at h1
       split at h1
       ·cases h1; rfl
       ·exact gB h1
      split at hB
      ·cases hB
      ·rename_i st2 h2
       have g2 := qG h2
       split at hB
       ·cases hB
       ·rename_i cs st3 h3
        have g3 := CM h3
        have hb : ∀ d, fZ (st3.get d) = fZ (st.get d) := fun d => by rw [g3, g2, g1]
        split at hB
        ·exact b8 hb hB
        ·exact b8 hb hB
        ·cases hB
   ·exact lD h
  ·exact lD h
theorem vJ {nm : Nat} {args : List AV} {k : St → Option R} {r : R} {l : List bD} (h : bS nm st o.dst args (fzK E o.dst k) l = some r) : ∃ s, bS nm st o.dst args (fzK E o.dst some) l = some s ∧ k s = some r ∧ vq o st s := by
 obtain ⟨s0, h1, h2, h3⟩ := lD h
 rw [ew _ h1]
 unfold fzK at h2 ⊢
 cases hd : o.dst with
 | none => rw [hd] at h2; exact ⟨s0, rfl, h2, h3⟩
 | some d =>
  rw [hd] at h2
  simp only at h2 ⊢
  split at h2
  ·exact ⟨s0, rfl, h2, h3⟩
  ·split at h2
   ·rename_i s1 hfz
    exact ⟨s1, rfl, h2, fun d' hne => by rw [gB hfz]; exact h3 d' hne⟩
   ·cases h2
theorem JX {k : St → Option R} {r : R} (h : opK E o st k = some r) : ∃ s, opK E o st some = some s ∧ k s = some r ∧ vq o st s := by
 have refl : ∀ d, fZ (st.get d) = fZ (st.get d) := fun _ => rfl
 cases ho : o.op with
 | move x => simp only [opK, ho] at h ⊢; exact b8 refl h
 | assign x => simp only [opK, ho] at h ⊢; exact b8 refl h
 | pick c x y =>
  simp only [opK, ho] at h ⊢
  obtain ⟨t, h1, h2⟩ := mM h
  rw [h2]; exact b8 refl h1
 | binOp op t x y u =>
  simp only [opK, ho] at h ⊢
  obtain ⟨v, h1, h2⟩ := mJ h
  rw [h2]; exact b8 refl h1
 | unOp op t x => simp only [opK, ho] at h ⊢; split at h <;> first | exact b8 refl h | cases h
 | lookup t x ix ok => exact absurd h (by simp [opK, ho])
 | makeMap t rv => exact absurd h (by simp [opK, ho])
 | mapUpdate t x ix y => exact absurd h (by simp [opK, ho])
 | insert t x ix y => exact absurd h (by simp [opK, ho])
 | convert src dst x =>
  simp only [opK, ho] at h ⊢
  split at h
  ·split at h
   ·split at h
    ·exact b8 refl h
    ·cases h
   ·cases h
  ·cases h
 | extract x i =>
  simp only [opK, ho] at h ⊢
  split at h
  ·split at h
   ·exact b8 refl h
   ·cases h
  ·cases h
 | nilCheck x =>
  simp only [opK, ho] at h ⊢
  split at h
  ·exact b8 refl h
  ·exact b8 refl h
  ·exact b8 refl h
  ·rename_i t y hv
   cases y with
   | none => cases h
   | some y => exact b8 refl (v := .dp t y) h
  ·cases h
 | load t p =>
  simp only [opK, ho] at h ⊢
  split at h
  ·split at h
   ·split at h
    ·exact b8 refl h
    ·cases h
   ·cases h
  ·cases h
 | field t x f =>
  simp only [opK, ho] at h ⊢
  split at h
  ·split at h
   ·split at h
    ·split at h
     ·split at h
      ·exact b8 refl h
      ·cases h
     ·cases h
    ·cases h
   ·cases h
  ·cases h
 | makeFunc fn first captured =>
  cases fn with
  | func f =>
   simp only [opK, ho] at h ⊢
   split at h
   ·split at h
    ·cases h
    ·split at h
     ·exact b8 refl h
     ·cases h
   ·split at h
    ·split at h
     ·exact b8 refl h
     ·cases h
    ·cases h
  | _ => simp only [opK, ho] at h; cases h
 | build t parts =>
  simp only [opK, ho] at h ⊢
  split at h
  ·split at h
   ·split at h
    ·split at h
     ·exact b8 refl h
     ·cases h
    ·cases h
   ·cases h
  ·cases h
 | box e x =>
  simp only [opK, ho] at h ⊢
  split at h
  ·unfold uX at h ⊢
   split at h
   ·rename_i st1 _ h2
    obtain ⟨_, rfl⟩ := cA h2
    exact b8 (fun _ => rfl) h
   ·cases h
  ·cases h
 | alloc e =>
  simp only [opK, ho] at h ⊢
  split at h
  ·unfold uX at h ⊢
   split at h
   ·rename_i st1 _ h2
    obtain ⟨_, rfl⟩ := cA h2
    exact b8 (fun _ => rfl) h
   ·cases h
  ·cases h
 | fieldAddr t p f =>
  simp only [opK, ho] at h ⊢
  split at h
  ·split at h
   ·split at h
    ·cases h
    ·split at h
     ·cases h
     ·split at h
      ·split at h
       ·split at h
        ·exact b8 refl h
        ·cases h
       ·cases h
      ·split at h
       ·split at h
        ·exact b8 refl h
        ·cases h
       ·cases h
      ·cases h
   ·cases h
  ·cases h
 | indexAddr t x ix =>
  simp only [opK, ho] at h ⊢
  split at h
  ·split at h
   ·cases h
   ·split at h
    ·split at h
     ·split at h
      ·obtain ⟨h1, h2⟩ := gE h
       rw [h2]; exact b8 refl h1
      ·cases h
     ·split at h
      ·split at h
       ·obtain ⟨h1, h2⟩ := gE h
        rw [h2]; exact b8 refl h1
       ·cases h
      ·split at h
       ·obtain ⟨h1, h2⟩ := gE h
        rw [h2]; exact b8 refl h1
       ·cases h
      ·split at h
       ·obtain ⟨h1, h2⟩ := gE h
        rw [h2]; exact b8 refl h1
       ·cases h
      ·cases h
     ·cases h
    ·cases h
  ·cases h
 | makeSlice t l c =>
  simp only [opK, ho] at h ⊢
  split at h
  ·split at h
   ·split at h
    ·split at h
     ·split at h
      ·split at h
       ·obtain ⟨h1, h2⟩ := vO h
        rw [h2]
        unfold mm at h1 ⊢
        split at h1
        ·rename_i st1 hal
         obtain ⟨_, rfl⟩ := cA hal
         exact b8 (fun _ => rfl) h1
        ·cases h1
       ·cases h
      ·cases h
     ·cases h
    ·cases h
   ·cases h
  ·cases h
 | slice t x lo hi mx =>
  cases mx with
  | some _ => simp only [opK, ho] at h; cases h
  | none =>
   simp only [opK, ho] at h ⊢
   have hbk : ke E o (st.ev x) = true := by
    cases hb : ke E o (st.ev x) with
    | true => rfl
    | false => simp only [hb] at h; cases h
   simp only [hbk] at h ⊢
   split at h
   ·split at h
    ·split at h
     ·cases h
     ·split at h
      ·cases h
      ·split at h
       ·unfold J3 at h ⊢
        split at h
        ·split at h
         ·obtain ⟨h1, h2⟩ := lE h
          rw [h2]
          exact b8 (fun d => pF _ _) h1
         ·cases h
        ·cases h
       ·split at h
        ·cases h
        ·rename_i st1 hfz
         have g := gB hfz
         split at h
         ·cases h
         ·split at h
          ·cases h
          ·split at h
           ·cases h
           ·obtain ⟨h1, h2⟩ := lE h
            rw [h2]
            exact b8 (fun d => by rw [g]) h1
    ·cases h
   ·cases h
 | buildSlice t n parts =>
  simp only [opK, ho] at h ⊢
  split at h
  ·split at h
   ·split at h
    ·split at h
     ·split at h
      ·rename_i st1 hfz
       have g := gB hfz
       split at h
       ·unfold mm at h ⊢
        split at h
        ·rename_i st2 hal
         obtain ⟨_, rfl⟩ := cA hal
         exact b8 (fun d => by show fZ (st1.get d) = _; rw [g]) h
        ·cases h
       ·cases h
      ·cases h
     ·cases h
    ·cases h
   ·cases h
  ·cases h
 | store t p x =>
  simp only [opK, ho] at h ⊢
  split at h
  ·split at h
   ·split at h
    ·split at h
     ·have key : ∀ {vs : List AV} {p : AV}, g6 st vs (fun st => st.put o.dst .undef k) p = some r → ∃ s, g6 st vs (fun st => st.put o.dst .undef some) p = some s ∧ k s = some r ∧ vq o st s := by
       intro vs p h
       cases p with
       | box b i =>
        simp only [g6] at h ⊢
        split at h
        ·split at h
         ·exact b8 (fun _ => rfl) h
         ·cases h
        ·cases h
       | ep b i =>
        simp only [g6] at h ⊢
        split at h
        ·cases h
        ·rename_i st1 hfz
         have g := gB hfz
         split at h
         ·split at h
          ·split at h
           ·exact b8 (fun d => by show fZ (st1.get d) = _; rw [g]) h
           ·cases h
          ·cases h
         ·cases h
       | _ => cases h
      exact key h
     ·cases h
    ·cases h
   ·cases h
  ·cases h
 | call c =>
  cases hcal : c.callee with
  | invoke _ _ => simp only [opK, ho, hcal] at h; cases h
  | value f =>
   simp only [opK, ho, hcal] at h ⊢
   split at h
   ·obtain ⟨l', h1, _, h3⟩ := gr h
    rw [h3]
    exact vJ h1
   ·obtain ⟨l', h1, _, h3⟩ := gr h
    rw [h3]
    exact vJ h1
   ·cases h
  | builtin b =>
   cases b with
   | len =>
    simp only [opK, ho, hcal] at h ⊢
    split at h
    ·split at h
     ·split at h
      ·exact b8 refl h
      ·cases h
     ·split at h
      ·exact b8 refl h
      ·cases h
     ·cases h
    ·cases h
   | max =>
    simp only [opK, ho, hcal] at h ⊢
    split at h
    ·split at h
     ·exact b8 refl h
     ·cases h
    ·cases h
   | min =>
    simp only [opK, ho, hcal] at h ⊢
    split at h
    ·split at h
     ·exact b8 refl h
     ·cases h
    ·cases h
   | append =>
    simp only [opK, ho, hcal] at h ⊢
    split at h
    ·split at h
     ·unfold iO at h ⊢
      split at h
      ·split at h
       ·cases h
       ·split at h
        ·cases h
        ·split at h
         ·split at h
          ·cases h
          ·split at h
           ·rename_i b hb
            split at h
            ·split at h
             ·obtain ⟨h1, h2⟩ := jc h
              rw [h2]
              exact b8 (fun d => pF _ _) h1
             ·cases h
            ·split at h
             ·obtain ⟨h1, h2⟩ := jc h
              rw [h2]
              exact b8 (fun d => pF _ _) h1
             ·cases h
            ·cases h
           ·obtain ⟨h1, h2⟩ := jc h
            rw [h2]
            unfold mm at h1 ⊢
            split at h1
            ·rename_i st2 hal
             obtain ⟨_, rfl⟩ := cA hal
             exact b8 (st0 := st) (fun d => rfl) h1
            ·cases h1
           ·cases h
         ·cases h
      ·cases h
     ·cases h
    ·cases h
   | _ => simp only [opK, ho, hcal] at h; cases h
 | _ => simp only [opK, ho] at h; cases h
end
end Go.V
end
section
namespace Go.V
open Go Go.RowKit
set_option linter.unusedVariables false
set_option linter.unusedSimpArgs false
def qI (want : Bool) (v : AV) : Option Bool :=
 match DM v with
 | true => some true
 | false => (fZ v).map fun t => Bool.xor t want
noncomputable def gK (E : En) (all : List Oper) (o : Oper) (st : St) : Option St :=
 match o.guard with
 | none => opK E o st some
 | some (j, want) => match lG all j with
  | none => none
  | some d => match qI want (st.get d) with
   | none => none
   | some true => st.put o.dst .gone some
   | some false => opK E o st some
def da (E : En) (all : List Oper) (pr : Bool) (o : Oper) (st : St) : Prop :=
 match o.guard with
 | none => calm o st = true ∨ (pr = true ∧ kW E o st = true)
 | some (j, want) => ∀ d, lG all j = some d → qI want (st.get d) = some false → calm o st = true ∨ (pr = true ∧ kW E o st = true)
def ng (E : En) (ws : Nat → Bool) (gn sl : Bool) (o : Oper) (st : St) : Prop := g7 o = true ∧ (sl = true ∨ (gn = true ∧ dW E o = true ∧ wOK ws o st = true))
def Gj (ws : Nat → Bool) (pr sl : Bool) (o : Oper) (st : St) : Prop := stO o = true ∧ (sl = true ∨ (pr = true ∧ yI ws o st = true))
structure Fg where
 pr : Bool
 mv : Bool
 sl : Bool
 gn : Bool
 bw : Bool
 ws : Nat → Bool
def im (E : En) (all : List Oper) (f : Fg) (o : Oper) (st : St) : Prop := (da E all f.pr o st ∨ (f.mv = true ∧ m4 o = true) ∨ ng E f.ws f.gn f.sl o st ∨ Gj f.ws f.pr f.sl o st) ∧ (f.bw = true → eu f.ws o st = true)
def OP (fl : Fl) (i : Nat) : Fg := ⟨fl.prs i, fl.mvs i, fl.sls i, fl.gns i, fl.bws i, fl.ws⟩
section
variable {E : En} {R : Type} {st s st' : St} {o : Oper} {all : List Oper}
theorem cK (h : ∀ d ∈ slotsOf o, st'.get d = st.get d) : ∀ x ∈ o.op.operands, st'.ev x = st.ev x := by
 intro x hx
 cases x with
 | tmp t => exact h t (by simp only [slotsOf, List.mem_filterMap]; exact ⟨.tmp t, by simpa using hx, rfl⟩)
 | const v => cases v <;> rfl
 | _ => rfl
theorem qh (v : Value) : ah (fM v) = [] := by
 unfold fM
 split <;> rfl
theorem jw {P : Nat → Prop} (h : ∀ d ∈ slotsOf o, ∀ b ∈ ah (st.get d), P b) : ∀ x ∈ o.op.operands, ∀ b ∈ ah (st.ev x), P b := by
 intro x hx b hb
 cases x with
 | tmp t => exact h t (by simp only [slotsOf, List.mem_filterMap]; exact ⟨.tmp t, by simpa using hx, rfl⟩) b hb
 | const v =>
  have key : ah (st.ev (.const v)) = [] := by
   have c := qh v
   cases v with
   | agg cs =>
    show ah.namesL (cs.toList.map fM) = []
    refine List.eq_nil_iff_forall_not_mem.2 fun c hc => ?_
    obtain ⟨u, hu, hm⟩ := bu.1 hc
    obtain ⟨v, _, rfl⟩ := List.mem_map.1 hu
    rw [qh] at hm; cases hm
   | _ => exact c
  rw [key] at hb; cases hb
 | func f =>
  have key : ah (st.ev (.func f)) = [] := by
   show ah (match Nat.ble gM f with | true => AV.undef | false => AV.clo f []) = []
   cases Nat.ble gM f <;> rfl
  rw [key] at hb; cases hb
 | global g => simp [St.ev, ah] at hb
theorem kG (h : ∀ x ∈ o.op.operands, st'.ev x = st.ev x) : calm o st' = calm o st := by
 unfold calm
 cases ho : o.op with
 | slice t x lo hi mx => simp only; rw [h x (by simp [ho, Op.operands])]
 | buildSlice t n parts =>
  simp only
  rw [show (parts.toList.map fun p => st'.ev p.2) = (parts.toList.map fun p => st.ev p.2) from List.map_congr_left fun p hp => by rw [h p.2 (by simp [ho, Op.operands]; exact ⟨p.1, by simpa using hp⟩)]]
 | call c =>
  simp only
  cases hcal : c.callee with
  | value f =>
   simp only
   rw [h f (by simp [ho, Op.operands, Call.operands, hcal]), show c.args.toList.map st'.ev = c.args.toList.map st.ev from List.map_congr_left fun x hx => h x (by simp only [ho, Op.operands, Call.operands, hcal, Array.mem_append]; exact .inr (by simpa using hx))]
  | builtin b => cases b <;> rfl
  | _ => rfl
 | _ => rfl
theorem zj (h : ∀ x ∈ o.op.operands, st'.ev x = st.ev x) (hf : st'.find = st.find) : kW E o st' = kW E o st := by
 unfold kW
 rw [hf]
 cases ho : o.op with
 | call c =>
  simp only
  cases hcal : c.callee with
  | value f => simp only; rw [h f (by simp [ho, Op.operands, Call.operands, hcal])]
  | _ => rfl
 | buildSlice t n parts =>
  simp only
  rw [show (parts.toList.map fun p => st'.ev p.2) = (parts.toList.map fun p => st.ev p.2) from List.map_congr_left fun p hp => h p.2 (by simp [ho, Op.operands]; exact ⟨p.1, by simpa using hp⟩)]
 | slice t x lo hi mx =>
  cases mx with
  | none => simp only; rw [h x (by simp [ho, Op.operands])]
  | some _ => rfl
 | _ => rfl
structure K3 (E : En) (all : List Oper) (pr : Bool) (o : Oper) (st s : St) (v : AV) (ns : List (Nat × Blk)) (rt : Bool) : Prop where
 put : (st.bm ns).put o.dst v some = some s
 fresh : ∀ b blk, look ns b = some blk → st.find b = none
 side : rt = true → pr = true
 mono : ∀ st' : St, st'.n = st.n → (∀ d ∈ dv all o, st'.get d = st.get d) → ((rt = false ∧ ∀ d ∈ slotsOf o, ∀ b ∈ ah (st.get d), ∀ blk, st.find b = some blk → st'.find b = some blk) ∨ st'.find = st.find) → (∀ b blk, look ns b = some blk → st'.find b = none) →
  gK E all o st' = (st'.bm ns).put o.dst v some ∧ da E all pr o st'
theorem s9 {pr : Bool} (h : gK E all o st = some s) (hc : da E all pr o st) : ∃ v ns rt, K3 E all pr o st s v ns rt := by
 have calmly : ∀ {st s : St}, opK E o st some = some s → (calm o st = true ∨ (pr = true ∧ kW E o st = true)) → ∃ v ns rt, (st.bm ns).put o.dst v some = some s ∧ (∀ b blk, look ns b = some blk → st.find b = none) ∧ (rt = true → pr = true) ∧
   ∀ st' : St, st'.n = st.n → (∀ d ∈ slotsOf o, st'.get d = st.get d) → ((rt = false ∧ ∀ d ∈ slotsOf o, ∀ b ∈ ah (st.get d), ∀ blk, st.find b = some blk → st'.find b = some blk) ∨ st'.find = st.find) → (∀ b blk, look ns b = some blk → st'.find b = none) →
    opK E o st' some = (st'.bm ns).put o.dst v some ∧ (calm o st' = true ∨ (pr = true ∧ kW E o st' = true)) := by
  intro st s h hc
  rcases hc with hc | ⟨hp, hc⟩
  ·obtain ⟨v, ns, q1, q2, q3⟩ := vz h hc
   refine ⟨v, ns, false, q1, q2, (fun e => by cases e), fun st' h0 h1 h2 h3 => ?_⟩
   have he := cK h1
   refine ⟨q3 st' h0 he ?_ h3, .inl ?_⟩
   ·rcases h2 with ⟨_, h2⟩ | h2
    ·exact fun x hx b hb => jw (P := fun b => ∀ blk, st.find b = some blk → st'.find b = some blk) h2 x hx b hb
    ·exact fun x hx b hb blk hf => by rw [h2]; exact hf
   ·rw [kG he]; exact hc
  ·obtain ⟨v, ns, q1, q2, q3⟩ := Bw h hc
   refine ⟨v, ns, true, q1, q2, fun _ => hp, fun st' h0 h1 h2 h3 => ?_⟩
   have he := cK h1
   rcases h2 with ⟨h2, _⟩ | h2
   ·cases h2
   ·exact ⟨q3 st' h0 he h2, .inr ⟨hp, by rw [zj he h2]; exact hc⟩⟩
 cases hg : o.guard with
 | none =>
  simp only [gK, hg] at h
  simp only [da, hg] at hc
  obtain ⟨v, ns, rt, q1, q2, q4, q3⟩ := calmly h hc
  refine ⟨v, ns, rt, q1, q2, q4, fun st' h0 h1 h2 h3 => ?_⟩
  have h1 : ∀ d ∈ slotsOf o, st'.get d = st.get d := by simpa only [dv, hg] using h1
  obtain ⟨p1, p2⟩ := q3 st' h0 h1 h2 h3
  refine ⟨?_, ?_⟩
  ·simp only [gK, hg]; exact p1
  ·simp only [da, hg]; exact p2
 | some g =>
  obtain ⟨j, want⟩ := g
  simp only [gK, hg] at h
  simp only [da, hg] at hc
  split at h
  ·cases h
  ·rename_i d hd
   split at h
   ·cases h
   ·rename_i ht
    refine ⟨.gone, [], false, h, (fun b blk h => by cases h), (fun e => by cases e), fun st' h0 h1 h2 h3 => ?_⟩
    have hdd : st'.get d = st.get d := h1 d (by simp [dv, hg, hd])
    refine ⟨?_, ?_⟩
    ·simp only [gK, hg, hd, hdd, ht]; rfl
    ·simp only [da, hg]
     intro d' e1 e2
     rw [hd] at e1; cases e1
     rw [hdd, ht] at e2; cases e2
   ·rename_i ht
    obtain ⟨v, ns, rt, q1, q2, q4, q3⟩ := calmly h (hc d hd ht)
    refine ⟨v, ns, rt, q1, q2, q4, fun st' h0 h1 h2 h3 => ?_⟩
    have hdd : st'.get d = st.get d := h1 d (by simp [dv, hg, hd])
    have h1 : ∀ d ∈ slotsOf o, st'.get d = st.get d := fun d' hd' => h1 d' (by simp [dv, hg, hd, hd'])
    obtain ⟨p1, p2⟩ := q3 st' h0 h1 h2 h3
    refine ⟨?_, ?_⟩
    ·simp only [gK, hg, hd, hdd, ht]; exact p1
    ·simp only [da, hg]
     intro d' e1 e2
     exact p2
theorem kJ (h : gK E all o st = some s) (hp : er o = true) : s.find = st.find := by
 unfold gK at h
 split at h
 ·exact pW h hp
 ·split at h
  ·cases h
  ·split at h
   ·cases h
   ·exact dq h
   ·exact pW h hp
theorem dk {v : AV} {d : Tmp} (h : st.put (some d) v some = some s) : d < st.n ∧ s = st.set d v := by
 unfold St.put at h
 simp only at h
 split at h
 ·rename_i hlt
  cases h
  exact ⟨by simpa [Nat.blt_eq] using hlt, rfl⟩
 ·cases h
theorem iJ {v : AV} {d : Tmp} (h : d < st.n) : st.put (some d) v some = some (st.set d v) := by
 unfold St.put
 simp only [show Nat.blt d st.n = true by simpa [Nat.blt_eq] using h]
def nf (o : Oper) (st : St) : Prop := ∀ d ∈ slotsOf o, ∀ b ∈ ah (st.get d), st.find b ≠ none
theorem dh {d : Nat} (h : d ∈ slotsOf o) : d ∈ dv all o := by
 unfold dv
 cases o.guard with
 | none => exact h
 | some g =>
  obtain ⟨j, w⟩ := g
  simp only
  split
  ·exact List.mem_cons_of_mem _ h
  ·exact h
theorem Px {x y : Oper} {px py : Bool} {s1 s2 : St} (hx : gK E all x st = some s1) (hy : gK E all y s1 = some s2) (cx : da E all px x st) (cy : da E all py y s1) (ap : gQ all x y = true) (hpx : px = true → er y = true) (hpy : py = true → er x = true) (wf : nf y st) :
  ∃ s', gK E all y st = some s' ∧ gK E all x s' = some s2 ∧ da E all py y st ∧ da E all px x s' := by
 obtain ⟨v1, ns1, rt1, p1, f1, sd1, m1⟩ := s9 hx cx
 obtain ⟨v2, ns2, rt2, p2, f2, sd2, m2⟩ := s9 hy cy
 unfold gQ at ap
 split at ap
 ·rename_i d1 d2 hd1 hd2
  simp only [Bool.and_eq_true, Bool.not_eq_true', Bool.eq_false_iff, ne_eq, any_beq] at ap
  obtain ⟨⟨a1, a2⟩, a3⟩ := ap
  have a3 : d1 ≠ d2 := fun e => a3 (by rw [e]; exact Nat.beq_refl d2)
  rw [hd1] at p1
  rw [hd2] at p2
  have same1 : rt2 = true → s1.find = st.find := fun e => kJ hx (hpy (sd2 e))
  obtain ⟨l1, rfl⟩ := dk p1
  obtain ⟨l2, rfl⟩ := dk p2
  have get1 : ∀ d, d ≠ d1 → ((st.bm ns1).set d1 v1).get d = st.get d := fun d hne => by rw [St.cH, if_neg hne]; rfl
  have find1 : ∀ b, ((st.bm ns1).set d1 v1).find b = match look ns1 b with | some c => some c | none => st.find b := fun b => rfl
  have seen_y : ∀ d ∈ dv all y, ((st.bm ns1).set d1 v1).get d = st.get d := fun d hd => get1 d fun e => a1 (e ▸ hd)
  have dis : ∀ b blk, look ns2 b = some blk → look ns1 b = none ∧ st.find b = none := by
   intro b blk hb
   have := f2 b blk hb
   rw [find1] at this
   cases hn : look ns1 b with
   | none => rw [hn] at this; exact ⟨rfl, this⟩
   | some c => rw [hn] at this; cases this
  have g1 := m2 st rfl (fun d hd => (seen_y d hd).symm) (by
   cases hrt : rt2 with
   | true => exact .inr (same1 hrt).symm
   | false =>
    refine .inl ⟨rfl, fun d hd b hb blk hf => ?_⟩
    rw [seen_y d (dh hd)] at hb
    have hne := wf d hd b hb
    rw [find1] at hf
    cases hn : look ns1 b with
    | none => rw [hn] at hf; exact hf
    | some c => exact absurd (f1 b c hn) hne) (fun b blk hb => (dis b blk hb).2)
  rw [hd2] at g1
  have l2' : d2 < (st.bm ns2).n := l2
  rw [iJ l2'] at g1
  have g2 := m1 ((st.bm ns2).set d2 v2) rfl (fun d hd => by rw [St.cH, if_neg (fun (e : d = d2) => a2 (e ▸ hd))]; rfl) (by
   cases hrt : rt1 with
   | true => exact .inr (kJ g1.1 (hpx (sd1 hrt)))
   | false =>
    refine .inl ⟨rfl, fun d hd b hb blk hf => ?_⟩
    show (match look ns2 b with | some c => some c | none => st.find b) = some blk
    cases hn : look ns2 b with
    | none => exact hf
    | some c => have := (dis b c hn).2; rw [this] at hf; cases hf) (fun b blk hb => by
   show (match look ns2 b with | some c => some c | none => st.find b) = none
   cases hn : look ns2 b with
   | none => exact f1 b blk hb
   | some c => have := (dis b c hn).1; rw [this] at hb; cases hb)
  rw [hd1] at g2
  have l1' : d1 < (((st.bm ns2).set d2 v2).bm ns1).n := l1
  rw [iJ l1'] at g2
  refine ⟨_, g1.1, ?_, g1.2, g2.2⟩
  ·rw [g2.1]
   congr 1
   unfold St.set St.bm
   congr 1
   ·funext d
    simp only [jF]
    by_cases e1 : d = d1
    ·by_cases e2 : d = d2
     ·exact absurd (e1.symm.trans e2) a3
     ·simp [e1, a3]
    ·by_cases e2 : d = d2 <;> simp [e1, e2, Ne.symm a3]
   ·funext b
    simp only
    cases h2 : look ns2 b with
    | none => rfl
    | some c => rw [(dis b c h2).1]
 ·cases ap
theorem kl (h : mvO E o = true) : o.guard = none ∧ ((∃ e, o.op = .move (.tmp e)) ∨ ∃ t x lo hi, o.op = .slice t x lo hi none ∧ Dn E o = true) := by
 unfold mvO at h
 split at h
 ·rename_i hg ho; exact ⟨hg, .inl ⟨_, ho⟩⟩
 ·rename_i hg ho; exact ⟨hg, .inr ⟨_, _, _, _, ho, h⟩⟩
 ·cases h
theorem lF {κ : Nat → Option Nat} {v : AV} (h : jt v = true) : v.ren κ = v := by
 cases v <;> first | rfl | cases h
theorem zp {κ : Nat → Option Nat} {v : AV} (h : jt (v.ren κ) = true) : jt v = true := by
 cases v with
 | dat _ _ => rfl
 | own b => simp only [AV.ren] at h; split at h <;> cases h
 | om b => simp only [AV.ren] at h; split at h <;> cases h
 | box b i => simp only [AV.ren] at h; split at h <;> cases h
 | ep b i => simp only [AV.ren] at h; split at h <;> cases h
 | _ => cases h
theorem nF {v : AV} (h : jt v = true) : ah v = [] := by
 cases v <;> first | rfl | cases h
theorem pE {t : TypeId} {x : Operand} {lo hi : Option Operand} (ho : o.op = .slice t x lo hi none) (hb : Dn E o = true) (h : opK E o st some = some s) :
  (∀ z ∈ o.op.operands, jt (st.ev z) = true) ∧ ∃ v, jt v = true ∧ st.put o.dst v some = some s ∧ ∀ st' : St, (∀ z ∈ o.op.operands, st'.ev z = st.ev z) → opK E o st' some = st'.put o.dst v some := by
 have hbd : ∀ {d : Int} {y : Option Operand} {p : Int}, eS st d y = some p → ∀ z, y = some z → jt (st.ev z) = true := by
  intro d y p hp z hz
  subst hz
  unfold eS at hp
  simp only at hp
  split at hp
  ·rename_i e; rw [e]; rfl
  ·cases hp
 have hbs : ∀ (st' : St) (d : Int) (y : Option Operand), (∀ z, y = some z → st'.ev z = st.ev z) → eS st' d y = eS st d y := by
  intro st' d y hy
  cases y with
  | none => rfl
  | some z => simp only [eS]; rw [hy z rfl]
 simp only [opK, ho] at h
 have hbk : ke E o (st.ev x) = true := by
  cases hb : ke E o (st.ev x) with
  | true => rfl
  | false => simp only [hb] at h; cases h
 simp only [hbk] at h
 have hdx : jt (st.ev x) = true := by unfold ke at hbk; rw [hb] at hbk; exact hbk
 have hq0 : ∀ st' : St, Ac st' (st.ev x) = none := by
  intro st'
  generalize st.ev x = u at hdx
  cases u <;> first | rfl | cases hdx
 simp only [hq0, nF hdx, df] at h
 split at h
 ·rename_i e n1 n2 n3 hi'
  split at h
  ·rename_i sty hsty
   split at h
   ·cases h
   ·rename_i i hie
    split at h
    ·cases h
    ·rename_i hsz
     split at h
     ·cases h
     ·rename_i l hl
      split at h
      ·cases h
      ·rename_i p hp
       split at h
       ·cases h
       ·rename_i q hq
        obtain ⟨h1, h2⟩ := lE h
        have hops : ∀ z ∈ o.op.operands, z = x ∨ lo = some z ∨ hi = some z := by
         intro z hz
         rw [ho] at hz
         simp only [Op.operands, Array.mem_append] at hz
         rcases hz with (hz | hz) | hz
         ·rcases hz with hz | hz
          ·left; simpa using hz
          ·right; left; simpa using hz
         ·right; right; simpa using hz
         ·simp at hz
        refine ⟨fun z hz => ?_, _, rfl, h1, fun st' he => ?_⟩
        ·rcases hops z hz with rfl | h' | h'
         ·exact hdx
         ·exact hbd hp z h'
         ·exact hbd hq z h'
        ·have hx := he x (by simp [ho, Op.operands])
         simp only [opK, ho]
         rw [hx]
         simp only [hbk, hi', hsty, hie, hsz, hq0, nF hdx, df]
         have hl' : eV st' sty (st'.ev x) = some l := by
          rw [hx]
          generalize st.ev x = u at hl hdx
          cases u <;> first | exact hl | cases hdx
         rw [hl']
         simp only [hbs st' 0 lo (fun z hz => he z (by simp [ho, Op.operands, hz])), hp, hbs st' _ hi (fun z hz => he z (by simp [ho, Op.operands, hz])), hq, h2]
  ·cases h
 ·cases h
theorem gR (h : m4 o = true) : o.guard = none := by
 unfold m4 at h
 split at h
 ·rename_i hg ho; exact hg
 ·cases h
theorem xu {e : Nat} {d : Tmp} (hg : o.guard = none) (ho : o.op = .move (.tmp e)) (hd : o.dst = some d) : gK E all o st = match Nat.blt d st.n with | true => some (st.set d (st.get e)) | false => none := by
 simp only [gK, hg, opK, ho, hd]
 rfl
theorem JR (pr : Bool) (hg : o.guard = none) {e : Nat} (ho : o.op = .move (.tmp e)) : da E all pr o st := by
 simp only [da, hg]
 left
 simp [calm, ho]
theorem jM (h : m4 o = true) : gK E all o st = opK E o st some := by
 simp only [gK, gR h]
theorem fu (hg : o.guard = none) : dv all o = slotsOf o := by
 simp only [dv, hg]
theorem apart_spec {x y : Oper} (ap : gQ all x y = true) : ∃ d1 d2, x.dst = some d1 ∧ y.dst = some d2 ∧ d1 ∉ dv all y ∧ d2 ∉ dv all x ∧ d1 ≠ d2 := by
 unfold gQ at ap
 split at ap
 ·rename_i d1 d2 hd1 hd2
  simp only [Bool.and_eq_true, Bool.not_eq_true', Bool.eq_false_iff, ne_eq, any_beq] at ap
  obtain ⟨⟨a1, a2⟩, a3⟩ := ap
  exact ⟨d1, d2, hd1, hd2, a1, a2, fun e => a3 (by rw [e]; exact Nat.beq_refl d2)⟩
 ·cases ap
theorem NA {x y : Oper} {s1 s2 : St} (hx : gK E all x st = some s1) (hy : gK E all y s1 = some s2) (mx : mvO E x = true) (ay : m4 y = true) (ap : gQ all x y = true) :
  ∃ s', gK E all y st = some s' ∧ gK E all x s' = some s2 := by
 obtain ⟨d1, d2, hd1, hd2, a1, a2, a3⟩ := apart_spec ap
 obtain ⟨gx, ⟨e, ox⟩ | ⟨t, xx, lo, hi, ox, hbm⟩⟩ := kl mx
 rotate_left
 ·simp only [gK, gx] at hx
  obtain ⟨hop, v, hv, hput, hre⟩ := pE ox hbm hx
  rw [hd1] at hput
  obtain ⟨hlt, rfl⟩ := dk hput
  rw [jM ay] at hy
  obtain ⟨κ, k1, k2, k3, k4, k5⟩ := kD ay hy
  rw [fu (gR ay)] at a1
  rw [fu gx] at a2
  have hne : y.dst ≠ some d1 := by rw [hd2]; intro e'; exact a3 (by injection e' with e'; exact e'.symm)
  have h1 := k5 d1 (st.get d1) a1 hne
  rw [St.set_set, St.oZ (s := st) rfl] at h1
  refine ⟨_, by rw [jM ay]; exact h1, ?_⟩
  simp only [gK, gx]
  rw [hre _ (cK fun d hd => ?_), hd1]
  ·show St.put _ (some d1) v some = some s2
   have hn : (s2.set d1 ((st.get d1).ren κ)).n = st.n := k2
   have hlt' : Nat.blt d1 (s2.set d1 ((st.get d1).ren κ)).n = true := by rw [hn, Nat.blt_eq]; exact hlt
   simp only [St.put, hlt']
   rw [St.set_set]
   congr 1
   refine St.oZ ?_
   rw [k4 d1 hne, St.cH, if_pos rfl, lF hv]
  ·have hdat : jt (st.get d) = true := by
    obtain ⟨z, hz, he⟩ := List.mem_filterMap.1 hd
    cases z with
    | tmp q => simp only [Option.some.injEq] at he; subst he; exact hop _ (by simpa using hz)
    | _ => cases he
   rw [St.cH]
   split
   ·rename_i e'; rw [e', lF (by rw [← e']; exact hdat)]
   ·rename_i e'
    have hne2 : y.dst ≠ some d := by
     rw [hd2]; intro e2; injection e2 with e2
     exact a2 (by rw [e2]; exact hd)
    rw [k4 d hne2, St.cH, if_neg e', lF hdat]
 rw [xu gx ox hd1] at hx
 split at hx
 ·rename_i hlt
  cases hx
  rw [jM ay] at hy
  obtain ⟨κ, k1, k2, k3, k4, k5⟩ := kD ay hy
  rw [fu (gR ay)] at a1
  rw [fu gx] at a2
  have hne : y.dst ≠ some d1 := by rw [hd2]; intro e'; exact a3 (by injection e' with e'; exact e'.symm)
  have h1 := k5 d1 (st.get d1) a1 hne
  rw [St.set_set, St.oZ (s := st) rfl] at h1
  refine ⟨_, by rw [jM ay]; exact h1, ?_⟩
  rw [xu gx ox hd1]
  have hn : (s2.set d1 ((st.get d1).ren κ)).n = st.n := k2
  rw [hn, hlt]
  simp only
  congr 1
  rw [St.set_set]
  refine St.oZ ?_
  rw [k4 d1 hne, St.cH, if_pos rfl, St.cH]
  split
  ·rename_i e'; rw [e']
  ·rename_i e'
   have hne2 : y.dst ≠ some e := by
    rw [hd2]; intro e2; injection e2 with e2
    exact a2 (by rw [e2]; simp [slotsOf, ox, Op.operands])
   rw [k4 e hne2, St.cH, if_neg e']
 ·cases hx
theorem NB {x y : Oper} {s1 s2 : St} (hx : gK E all x st = some s1) (hy : gK E all y s1 = some s2) (ax : m4 x = true) (my : mvO E y = true) (ap : gQ all x y = true) :
  ∃ s', gK E all y st = some s' ∧ gK E all x s' = some s2 := by
 obtain ⟨d1, d2, hd1, hd2, a1, a2, a3⟩ := apart_spec ap
 obtain ⟨gy, oy'⟩ := kl my
 rw [jM ax] at hx
 obtain ⟨κ, k1, k2, k3, k4, k5⟩ := kD ax hx
 rcases oy' with ⟨e, oy⟩ | ⟨t, xx, lo, hi, oy, hbm⟩
 rotate_left
 ·simp only [gK, gy] at hy
  obtain ⟨hop, v, hv, hput, hre⟩ := pE oy hbm hy
  rw [hd2] at hput
  obtain ⟨hlt, rfl⟩ := dk hput
  rw [k2] at hlt
  rw [fu gy] at a1
  rw [fu (gR ax)] at a2
  have hne : x.dst ≠ some d2 := by rw [hd1]; intro e'; injection e' with e'; exact a3 e'
  refine ⟨st.set d2 v, ?_, ?_⟩
  ·simp only [gK, gy]
   rw [hre st (cK fun d hd => ?_), hd2]
   ·have hlt' : Nat.blt d2 st.n = true := by rw [Nat.blt_eq]; exact hlt
    simp only [St.put, hlt']
   ·have hdat : jt (s1.get d) = true := by
     obtain ⟨z, hz, he⟩ := List.mem_filterMap.1 hd
     cases z with
     | tmp q => simp only [Option.some.injEq] at he; subst he; exact hop _ (by simpa using hz)
     | _ => cases he
    have hne2 : x.dst ≠ some d := by
     rw [hd1]; intro e2; injection e2 with e2
     exact a1 (by rw [e2]; exact hd)
    rw [k4 d hne2] at hdat ⊢
    exact (lF (zp hdat)).symm
  ·rw [jM ax, k5 d2 v a2 hne, lF hv]
 rw [xu gy oy hd2] at hy
 split at hy
 ·rename_i hlt
  cases hy
  rw [k2] at hlt
  rw [fu gy] at a1
  rw [fu (gR ax)] at a2
  have hne : x.dst ≠ some d2 := by rw [hd1]; intro e'; injection e' with e'; exact a3 e'
  have hne2 : x.dst ≠ some e := by
   rw [hd1]; intro e2; injection e2 with e2
   exact a1 (by rw [e2]; simp [slotsOf, oy, Op.operands])
  refine ⟨st.set d2 (st.get e), by rw [xu gy oy hd2, hlt], ?_⟩
  rw [jM ax, k5 d2 (st.get e) a2 hne, k4 e hne2]
 ·cases hy
theorem g4 {ws : Nat → Bool} (h1 : ∀ d ∈ slotsOf o, st'.get d = st.get d) (h2 : ∀ d ∈ slotsOf o, ∀ b ∈ ah (st.get d), st'.find b = st.find b) : eu ws o st' = eu ws o st := by
 have e : ((slotsOf o).flatMap fun d => ah (st'.get d)) = (slotsOf o).flatMap fun d => ah (st.get d) := by
  have : ∀ l : List Nat, (∀ d ∈ l, st'.get d = st.get d) → (l.flatMap fun d => ah (st'.get d)) = l.flatMap fun d => ah (st.get d) := by
   intro l
   induction l with
   | nil => intro _; rfl
   | cons d l ih => intro h; rw [List.flatMap_cons, List.flatMap_cons, h d (by simp), ih fun d hd => h d (by simp [hd])]
  exact this _ h1
 unfold eu
 rw [e, kG (cK h1)]
 congr 2
 rw [Bool.eq_iff_iff, List.all_eq_true, List.all_eq_true]
 have key : ∀ b ∈ (slotsOf o).flatMap fun d => ah (st.get d), st'.find b = st.find b := fun b hb => by
  obtain ⟨d, hd, hb⟩ := List.mem_flatMap.1 hb
  exact h2 d hd b hb
 exact ⟨fun h b hb => by rw [← key b hb]; exact h b hb, fun h b hb => by rw [key b hb]; exact h b hb⟩
theorem jA {ws : Nat → Bool} (h : eu ws o st = true) (hp : c7 o = true) : ey o = true ∨ (calm o st = true ∧ ∀ d ∈ slotsOf o, ∀ b ∈ ah (st.get d), st.find b ≠ none ∧ ws b = false) := by
 unfold eu at h
 simp only [hp, Bool.not_true, Bool.false_or, Bool.or_eq_true, Bool.and_eq_true] at h
 rcases h with h | ⟨hc, h⟩
 ·exact .inl h
 ·refine .inr ⟨hc, fun d hd b hb => ?_⟩
  have := List.all_eq_true.1 h b (List.mem_flatMap.2 ⟨d, hd, hb⟩)
  simp only [Bool.and_eq_true, Bool.not_eq_true'] at this
  obtain ⟨h1, h2⟩ := this
  exact ⟨fun e => (by rw [e] at h1; cases h1), h2⟩
theorem FB {ns : List (Nat × Blk)} (h : ∀ b, look ns b = none) (st : St) : st.bm ns = st := by
 unfold St.bm
 simp only [h]
theorem kK (hp : er o = true) (h : gK E all o st = some s) : ∃ v, st.put o.dst v some = some s ∧ ∀ st' : St, st'.n = st.n → (∀ d ∈ dv all o, st'.get d = st.get d) →
  (ey o = true ∨ ∀ d ∈ slotsOf o, ∀ b ∈ ah (st.get d), ∀ blk, st.find b = some blk → st'.find b = some blk) → gK E all o st' = st'.put o.dst v some := by
 have hcalm : calm o st = true := by unfold er at hp; unfold calm; split at hp <;> simp_all
 have main : ∀ {s : St}, opK E o st some = some s → ∃ v, st.put o.dst v some = some s ∧ ∀ st' : St, st'.n = st.n → (∀ d ∈ slotsOf o, st'.get d = st.get d) →
   (ey o = true ∨ ∀ d ∈ slotsOf o, ∀ b ∈ ah (st.get d), ∀ blk, st.find b = some blk → st'.find b = some blk) → opK E o st' some = st'.put o.dst v some := by
  intro s h
  cases hs : ey o with
  | true =>
   obtain ⟨v, h1, h2⟩ := F2 hs h
   exact ⟨v, h1, fun st' _ h3 _ => h2 st' (cK h3)⟩
  | false =>
   obtain ⟨v, ns, q1, q2, q3⟩ := vz h hcalm
   have hfind := pW h hp
   have hz : ∀ b, look ns b = none := by
    intro b
    cases hl : look ns b with
    | none => rfl
    | some blk =>
     have e := dq q1
     rw [hfind] at e
     have e : st.find b = (match look ns b with | some c => some c | none => st.find b) := congrFun e b
     rw [hl, q2 b blk hl] at e
     cases e
   have e0 := FB hz
   rw [e0] at q1
   refine ⟨v, q1, fun st' h0 h1 h2 => ?_⟩
   rcases h2 with h2 | h2
   ·cases h2
   ·have := q3 st' h0 (cK h1) (fun x hx b hb => jw (P := fun b => ∀ blk, st.find b = some blk → st'.find b = some blk) h2 x hx b hb) (fun b blk hb => by rw [hz] at hb; cases hb)
    rwa [e0] at this
 cases hg : o.guard with
 | none =>
  simp only [gK, hg] at h
  obtain ⟨v, h1, h2⟩ := main h
  refine ⟨v, h1, fun st' h0 h3 h4 => ?_⟩
  simp only [gK, hg]
  exact h2 st' h0 (by simpa only [dv, hg] using h3) h4
 | some g =>
  obtain ⟨j, want⟩ := g
  simp only [gK, hg] at h
  split at h
  ·cases h
  ·rename_i d hd
   split at h
   ·cases h
   ·rename_i ht
    refine ⟨.gone, h, fun st' h0 h3 h4 => ?_⟩
    have hdd : st'.get d = st.get d := h3 d (by simp [dv, hg, hd])
    simp only [gK, hg, hd, hdd, ht]
   ·rename_i ht
    obtain ⟨v, h1, h2⟩ := main h
    refine ⟨v, h1, fun st' h0 h3 h4 => ?_⟩
    have hdd : st'.get d = st.get d := h3 d (by simp [dv, hg, hd])
    have := h2 st' h0 (fun d' hd' => h3 d' (by simp [dv, hg, hd, hd'])) h4
    simp only [gK, hg, hd, hdd, ht]
    exact this
theorem kR (hp : er o = true) (pr : Bool) (st : St) : da E all pr o st := by
 have hcalm : calm o st = true := by unfold er at hp; unfold calm; split at hp <;> simp_all
 unfold da
 cases o.guard with
 | none => exact .inl hcalm
 | some g => exact fun _ _ _ => .inl hcalm
theorem jX (h : g7 o = true) : o.guard = none := by
 unfold g7 at h
 split at h
 ·rename_i hg _; exact hg
 ·cases h
theorem ux (h : g7 o = true) : c7 o = false := by
 unfold g7 at h
 split at h
 ·rename_i ho
  split at h
  ·rename_i hc; unfold c7 er; rw [ho]; simp only [hc, Bool.false_or]
  ·cases h
 ·cases h
theorem uy {ws : Nat → Bool} (h : g7 o = true) (st : St) : eu ws o st = true := by
 unfold eu; rw [ux h]; rfl
theorem F5 {ws : Nat → Bool} (h : ∀ x ∈ o.op.operands, st'.ev x = st.ev x) (hf : st'.find = st.find) : wOK ws o st' = wOK ws o st := by
 unfold wOK
 rw [hf]
 cases ho : o.op with
 | call c =>
  simp only
  cases hcal : c.callee with
  | value f =>
   cases f with
   | func f =>
    simp only
    rw [show c.args.toList.map st'.ev = c.args.toList.map st.ev from List.map_congr_left fun x hx => h x (by simp only [ho, Op.operands, Call.operands, hcal, Array.mem_append]; exact .inr (by simpa using hx))]
   | _ => rfl
  | _ => rfl
 | _ => rfl
theorem AA {ws : Nat → Bool} (h : wOK ws o st = true) (he : ∀ x ∈ o.op.operands, st'.ev x = st.ev x) (hf : ∀ x ∈ o.op.operands, ∀ b ∈ ah (st.ev x), st'.find b = st.find b) : wOK ws o st' = true := by
 unfold wOK at h ⊢
 cases ho : o.op with
 | call c =>
  rw [ho] at h
  simp only at h ⊢
  cases hcal : c.callee with
  | value f =>
   rw [hcal] at h
   cases f with
   | func f =>
    simp only at h ⊢
    have ham : ∀ x ∈ c.args.toList, x ∈ o.op.operands := fun x hx => by
     simp only [ho, Op.operands, Call.operands, hcal, Array.mem_append]
     exact .inr (by simpa using hx)
    have e : c.args.toList.map st'.ev = c.args.toList.map st.ev := List.map_congr_left fun x hx => he x (ham x hx)
    rw [e]
    refine List.all_eq_true.2 fun b hb => ?_
    obtain ⟨u, hu, hm⟩ := bu.1 hb
    obtain ⟨z, hz, rfl⟩ := List.mem_map.1 hu
    rw [hf z (ham z hz) b hm]
    exact List.all_eq_true.1 h b hb
   | _ => cases h
  | _ => rw [hcal] at h; cases h
 | _ => rw [ho] at h; cases h
theorem ng.congr {ws : Nat → Bool} {pr sl : Bool} (h : ng E ws pr sl o st) (h1 : ∀ x ∈ o.op.operands, st'.ev x = st.ev x) (hf : st'.find = st.find) : ng E ws pr sl o st' := by
 refine ⟨h.1, h.2.imp id fun h => ⟨h.1, h.2.1, ?_⟩⟩
 rw [F5 h1 hf]; exact h.2.2
theorem Dx {L : List (Nat × Blk)} {d1 d2 : Nat} {v1 v2 : AV} (h : d1 ≠ d2) : ((st.bm L).set d1 v1).set d2 v2 = ((st.set d2 v2).bm L).set d1 v1 := by
 unfold St.set St.bm
 congr 1
 funext d
 simp only [jF]
 by_cases e1 : d = d1
 ·by_cases e2 : d = d2
  ·exact absurd (e1.symm.trans e2) h
  ·simp [e1, h]
 ·by_cases e2 : d = d2 <;> simp [e1, e2, Ne.symm h]
theorem ku (h : ey o = true) : er o = true := by
 unfold ey at h; unfold er; split at h <;> simp_all
theorem n9 (h : calm o st = true) (pr : Bool) : da E all pr o st := by
 unfold da
 cases o.guard with
 | none => exact .inl h
 | some g => exact fun _ _ _ => .inl h
theorem zo {L M : List (Nat × Blk)} {d1 d2 : Nat} {v1 v2 : AV} (h : d1 ≠ d2) (hd : ∀ b blk, look M b = some blk → look L b = none) : (((st.bm L).set d1 v1).bm M).set d2 v2 = (((st.bm M).set d2 v2).bm L).set d1 v1 := by
 unfold St.set St.bm
 congr 1
 ·funext d
  simp only [jF]
  by_cases e1 : d = d1
  ·by_cases e2 : d = d2
   ·exact absurd (e1.symm.trans e2) h
   ·simp [e1, h]
  ·by_cases e2 : d = d2 <;> simp [e1, e2, Ne.symm h]
 ·funext b
  simp only
  cases h2 : look M b with
  | none => rfl
  | some c => rw [hd b c h2]
theorem Nv {x y : Oper} {f : Fg} {bx : Bool} {px : Bool} {s1 s2 : St} (hx : gK E all x st = some s1) (hy : gK E all y s1 = some s2) (cy : ng E f.ws f.gn f.sl y s1) (rx : bx = true → eu f.ws x st = true) (ap : gQ all x y = true)
  (hs : f.sl = true → ey x = true) (hg : f.gn = true → c7 x = true) (hb : dW E y = true → bx = true) (wf : nf y st) :
  ∃ s', gK E all y st = some s' ∧ gK E all x s' = some s2 ∧ ng E f.ws f.gn f.sl y st ∧ da E all px x s' ∧ (bx = true → eu f.ws x s' = true) := by
 obtain ⟨d1, d2, hd1, hd2, a1, a2, a3⟩ := apart_spec ap
 obtain ⟨hw, hc⟩ := id cy
 have gy := jX hw
 simp only [gK, gy] at hy
 obtain ⟨v2, L, p2, q2, q3⟩ := nZ (ws := f.ws) hw hy
 rw [hd2] at p2
 -- x sees o0 alone, or blocks that stay
 have hcase : ey x = true ∨ ((f.gn = true ∧ dW E y = true ∧ wOK f.ws y s1 = true) ∧ calm x st = true ∧ ∀ d ∈ slotsOf x, ∀ b ∈ ah (st.get d), st.find b ≠ none ∧ f.ws b = false) := by
  rcases hc with hc | hc
  ·exact .inl (hs hc)
  ·exact (jA (rx (hb hc.2.1)) (hg hc.1)).imp id fun h => ⟨hc, h⟩
 rcases hcase with hsl | ⟨⟨hgn, hwr, hok⟩, hcalm, hnm⟩
 ·have px' := ku hsl
  obtain ⟨v1, p1, m1⟩ := kK px' hx
  have hfind := kJ hx px'
  rw [hd1] at p1
  obtain ⟨l1, rfl⟩ := dk p1
  obtain ⟨l2, rfl⟩ := dk p2
  have get1 : ∀ d, d ≠ d1 → (st.set d1 v1).get d = st.get d := fun d hne => by rw [St.cH, if_neg hne]
  have evy : ∀ z ∈ y.op.operands, st.ev z = (st.set d1 v1).ev z := cK fun d hd => (get1 d fun e => a1 (e ▸ dh hd)).symm
  have g1 := q3 st rfl evy hfind.symm
  rw [hd2] at g1
  have l2' : d2 < (st.bm L).n := l2
  rw [iJ l2'] at g1
  have slotx : ∀ d ∈ dv all x, ((st.bm L).set d2 v2).get d = st.get d := fun d hd => by rw [St.cH, if_neg (fun (e : d = d2) => a2 (e ▸ hd))]; rfl
  have g2 := m1 ((st.bm L).set d2 v2) rfl slotx (.inl hsl)
  rw [hd1] at g2
  have l1' : d1 < ((st.bm L).set d2 v2).n := l1
  rw [iJ l1'] at g2
  refine ⟨_, by simp only [gK, gy]; exact g1, ?_, cy.congr evy hfind.symm, kR px' _ _, fun hbx => by unfold eu; simp [hsl]⟩
  rw [g2]
  congr 1
  exact Dx (Ne.symm a3)
 ·obtain ⟨v1, ns1, rt1, p1, f1, sd1, m1⟩ := s9 hx (n9 (E := E) (all := all) hcalm false)
  have hrt : rt1 = false := by cases rt1 with | false => rfl | true => exact absurd (sd1 rfl) (by simp)
  rw [hd1] at p1
  obtain ⟨l1, rfl⟩ := dk p1
  obtain ⟨l2, rfl⟩ := dk p2
  obtain ⟨w1, w0, w2⟩ := q2 hok
  have get1 : ∀ d, d ≠ d1 → ((st.bm ns1).set d1 v1).get d = st.get d := fun d hne => by rw [St.cH, if_neg hne]; rfl
  have evy : ∀ z ∈ y.op.operands, st.ev z = ((st.bm ns1).set d1 v1).ev z := cK fun d hd => (get1 d fun e => a1 (e ▸ dh hd)).symm
  have find1 : ∀ b, ((st.bm ns1).set d1 v1).find b = match look ns1 b with | some c => some c | none => st.find b := fun b => rfl
  -- what y names is there already
  have yold : ∀ z ∈ y.op.operands, ∀ b ∈ ah (((st.bm ns1).set d1 v1).ev z), st.find b ≠ none ∧ look ns1 b = none := by
   intro z hz b hb'
   rw [← evy z hz] at hb'
   have hn : st.find b ≠ none := jw (P := fun b => st.find b ≠ none) wf z hz b hb'
   refine ⟨hn, ?_⟩
   cases hl : look ns1 b with
   | none => rfl
   | some c => exact absurd (f1 b c hl) hn
  have hdis : ∀ b blk, look ns1 b = some blk → look L b = none := by
   intro b blk hb'
   cases hl : look L b with
   | none => rfl
   | some c =>
    rcases w1 b c hl with h | ⟨_, z, hz, h⟩
    ·rw [find1, hb'] at h; cases h
    ·have := (yold z hz b h).2; rw [hb'] at this; cases this
  have g1 := w2 st rfl evy (fun z hz b hb' => by rw [find1, (yold z hz b hb').2]) (fun b blk hl hn => by
   rw [find1] at hn
   cases h1 : look ns1 b with
   | none => rw [h1] at hn; exact hn
   | some c => rw [h1] at hn; cases hn)
  rw [hd2] at g1
  have l2' : d2 < (st.bm L).n := l2
  rw [iJ l2'] at g1
  have slotx : ∀ d ∈ dv all x, ((st.bm L).set d2 v2).get d = st.get d := fun d hd => by rw [St.cH, if_neg (fun (e : d = d2) => a2 (e ▸ hd))]; rfl
  have same : ∀ d ∈ slotsOf x, ∀ b ∈ ah (st.get d), ((st.bm L).set d2 v2).find b = st.find b := by
   intro d hd b hb'
   obtain ⟨e1, e3⟩ := hnm d hd b hb'
   show (match look L b with | some c => some c | none => st.find b) = st.find b
   cases hl : look L b with
   | none => rfl
   | some k =>
    exfalso
    rcases w1 b k hl with h1 | h1
    ·rw [find1] at h1
     cases h2 : look ns1 b with
     | none => rw [h2] at h1; exact e1 h1
     | some c => rw [h2] at h1; cases h1
    ·rw [e3] at h1; cases h1.1
  have g2 := m1 ((st.bm L).set d2 v2) rfl slotx (.inl ⟨hrt, fun d hd b hb' blk hf => by rw [same d hd b hb']; exact hf⟩) (fun b blk hl => by
   show (match look L b with | some c => some c | none => st.find b) = none
   rw [hdis b blk hl]; exact f1 b blk hl)
  have g2 := g2.1
  rw [hd1] at g2
  have l1' : d1 < (((st.bm L).set d2 v2).bm ns1).n := l1
  rw [iJ l1'] at g2
  have slx : ∀ d ∈ slotsOf x, ((st.bm L).set d2 v2).get d = st.get d := fun d hd => slotx d (dh hd)
  refine ⟨_, by simp only [gK, gy]; exact g1, ?_, ?_, n9 (by rw [kG (cK slx)]; exact hcalm) _, fun hbx => by rw [g4 slx same]; exact rx hbx⟩
  ·rw [g2]
   congr 1
   exact zo (Ne.symm a3) hdis
  ·refine ⟨hw, .inr ⟨hgn, hwr, ?_⟩⟩
   exact AA hok evy fun z hz b hb' => by rw [find1, (yold z hz b hb').2]
theorem Nw {x y : Oper} {f : Fg} {bY : Bool} {py : Bool} {s1 s2 : St} (hx : gK E all x st = some s1) (hy : gK E all y s1 = some s2) (cx : ng E f.ws f.gn f.sl x st) (ry : bY = true → eu f.ws y s1 = true) (ap : gQ all x y = true)
  (hs : f.sl = true → ey y = true) (hg : f.gn = true → c7 y = true) (hb : dW E x = true → bY = true) (wf : nf y st) :
  ∃ s', gK E all y st = some s' ∧ gK E all x s' = some s2 ∧ ng E f.ws f.gn f.sl x s' ∧ da E all py y st ∧ (bY = true → eu f.ws y st = true) := by
 obtain ⟨d1, d2, hd1, hd2, a1, a2, a3⟩ := apart_spec ap
 obtain ⟨hw, hc⟩ := id cx
 have gx := jX hw
 simp only [gK, gx] at hx
 obtain ⟨v1, L, p1, q2, q3⟩ := nZ (ws := f.ws) hw hx
 rw [hd1] at p1
 have hcase : ey y = true ∨ ((f.gn = true ∧ dW E x = true ∧ wOK f.ws x st = true) ∧ calm y s1 = true ∧ ∀ d ∈ slotsOf y, ∀ b ∈ ah (s1.get d), s1.find b ≠ none ∧ f.ws b = false) := by
  rcases hc with hc | hc
  ·exact .inl (hs hc)
  ·exact (jA (ry (hb hc.2.1)) (hg hc.1)).imp id fun h => ⟨hc, h⟩
 rcases hcase with hsl | ⟨⟨hgn, hwr, hok⟩, hcalm, hnm⟩
 ·have py' := ku hsl
  obtain ⟨v2, p2, m2⟩ := kK py' hy
  rw [hd2] at p2
  obtain ⟨l1, rfl⟩ := dk p1
  obtain ⟨l2, rfl⟩ := dk p2
  have get1 : ∀ d, d ≠ d1 → ((st.bm L).set d1 v1).get d = st.get d := fun d hne => by rw [St.cH, if_neg hne]; rfl
  have sloty : ∀ d ∈ dv all y, st.get d = ((st.bm L).set d1 v1).get d := fun d hd => (get1 d fun e => a1 (e ▸ hd)).symm
  have g1 := m2 st rfl sloty (.inl hsl)
  rw [hd2] at g1
  have l2' : d2 < st.n := l2
  rw [iJ l2'] at g1
  have hfind : (st.set d2 v2).find = st.find := rfl
  have evx : ∀ z ∈ x.op.operands, (st.set d2 v2).ev z = st.ev z := cK fun d hd => by rw [St.cH, if_neg (fun (e : d = d2) => a2 (e ▸ dh hd))]
  have g2 := q3 (st.set d2 v2) rfl evx hfind
  rw [hd1] at g2
  have l1' : d1 < ((st.set d2 v2).bm L).n := l1
  rw [iJ l1'] at g2
  refine ⟨_, g1, ?_, cx.congr evx hfind, kR py' _ _, fun hby => by unfold eu; simp [hsl]⟩
  simp only [gK, gx]
  rw [g2, Dx a3]
 ·obtain ⟨v2, ns2, rt2, p2, f2, sd2, m2⟩ := s9 hy (n9 (E := E) (all := all) hcalm false)
  have hrt : rt2 = false := by cases rt2 with | false => rfl | true => exact absurd (sd2 rfl) (by simp)
  rw [hd2] at p2
  obtain ⟨l1, rfl⟩ := dk p1
  obtain ⟨l2, rfl⟩ := dk p2
  obtain ⟨w1, w0, w2⟩ := q2 hok
  have get1 : ∀ d, d ≠ d1 → ((st.bm L).set d1 v1).get d = st.get d := fun d hne => by rw [St.cH, if_neg hne]; rfl
  have find1 : ∀ b, ((st.bm L).set d1 v1).find b = match look L b with | some c => some c | none => st.find b := fun b => rfl
  have sloty : ∀ d ∈ dv all y, st.get d = ((st.bm L).set d1 v1).get d := fun d hd => (get1 d fun e => a1 (e ▸ hd)).symm
  have sly : ∀ d ∈ slotsOf y, st.get d = ((st.bm L).set d1 v1).get d := fun d hd => sloty d (dh hd)
  have same : ∀ d ∈ slotsOf y, ∀ b ∈ ah (((st.bm L).set d1 v1).get d), st.find b = ((st.bm L).set d1 v1).find b := by
   intro d hd b hb'
   obtain ⟨e1, e3⟩ := hnm d hd b hb'
   have hth := wf d hd b (by rw [sly d hd]; exact hb')
   rw [find1]
   cases hl : look L b with
   | none => rfl
   | some k =>
    exfalso
    rcases w1 b k hl with h1 | h1
    ·exact hth h1
    ·rw [e3] at h1; cases h1.1
  have fr : ∀ b blk, look ns2 b = some blk → look L b = none ∧ st.find b = none := by
   intro b blk hl
   have := f2 b blk hl
   rw [find1] at this
   cases h1 : look L b with
   | none => rw [h1] at this; exact ⟨rfl, this⟩
   | some c => rw [h1] at this; cases this
  have g1 := m2 st rfl sloty (.inl ⟨hrt, fun d hd b hb' blk hf => by rw [same d hd b hb']; exact hf⟩) (fun b blk hl => (fr b blk hl).2)
  have g1 := g1.1
  rw [hd2] at g1
  have l2' : d2 < (st.bm ns2).n := l2
  rw [iJ l2'] at g1
  have evx : ∀ z ∈ x.op.operands, ((st.bm ns2).set d2 v2).ev z = st.ev z := cK fun d hd => by rw [St.cH, if_neg (fun (e : d = d2) => a2 (e ▸ dh hd))]; rfl
  have find2 : ∀ b, ((st.bm ns2).set d2 v2).find b = match look ns2 b with | some c => some c | none => st.find b := fun b => rfl
  have xold : ∀ z ∈ x.op.operands, ∀ b ∈ ah (st.ev z), ((st.bm ns2).set d2 v2).find b = st.find b := by
   intro z hz b hb'
   rw [find2]
   cases hl : look ns2 b with
   | none => rfl
   | some c => exact absurd (fr b c hl).2 (w0 z hz b hb')
  have g2 := w2 ((st.bm ns2).set d2 v2) rfl evx xold (fun b blk hl hn => by
   rw [find2]
   cases h1 : look ns2 b with
   | none => exact hn
   | some c => rw [(fr b c h1).1] at hl; cases hl)
  rw [hd1] at g2
  have l1' : d1 < (((st.bm ns2).set d2 v2).bm L).n := l1
  rw [iJ l1'] at g2
  refine ⟨_, g1, ?_, ?_, n9 (by rw [kG (cK sly)]; exact hcalm) _, fun hby => by rw [g4 sly same]; exact ry hby⟩
  ·simp only [gK, gx]
   rw [g2]
   congr 1
   exact (zo a3 (fun b blk hl => (fr b blk hl).1)).symm
  ·refine ⟨hw, .inr ⟨hgn, hwr, ?_⟩⟩
   exact AA hok evx xold
theorem Nu {ws : Nat → Bool} {x y : Oper} {px py bx bY : Bool} {s1 s2 : St} (hx : gK E all x st = some s1) (hy : gK E all y s1 = some s2) (cx : da E all px x st) (cy : da E all py y s1) (ap : gQ all x y = true) (hpx : px = true → er y = true) (hpy : py = true → er x = true) (wf : nf y st)
  (rx : bx = true → eu ws x st = true) (ry : bY = true → eu ws y s1 = true) :
  ∃ s', gK E all y st = some s' ∧ gK E all x s' = some s2 ∧ da E all py y st ∧ da E all px x s' ∧ (bY = true → eu ws y st = true) ∧ (bx = true → eu ws x s' = true) := by
 obtain ⟨s', h1, h2, h3, h4⟩ := Px hx hy cx cy ap hpx hpy wf
 obtain ⟨d1, d2, hd1, hd2, a1, a2, a3⟩ := apart_spec ap
 refine ⟨s', h1, h2, h3, h4, fun hb => ?_, fun hb => ?_⟩
 ·obtain ⟨v1, ns1, rt1, p1, f1, _, _⟩ := s9 hx cx
  rw [hd1] at p1
  obtain ⟨l1, rfl⟩ := dk p1
  have sl : ∀ d ∈ slotsOf y, st.get d = ((st.bm ns1).set d1 v1).get d := fun d hd => by rw [St.cH, if_neg (fun (e : d = d1) => a1 (e ▸ dh hd))]; rfl
  rw [g4 sl (fun d hd b hb => by
   have hth := wf d hd b (by rw [sl d hd]; exact hb)
   show st.find b = (match look ns1 b with | some c => some c | none => st.find b)
   cases hl : look ns1 b with
   | none => rfl
   | some k => exact absurd (f1 b k hl) hth)]
  exact ry hb
 ·obtain ⟨v2, ns2, rt2, p2, f2, _, _⟩ := s9 h1 h3
  rw [hd2] at p2
  obtain ⟨l2, rfl⟩ := dk p2
  have sl : ∀ d ∈ slotsOf x, ((st.bm ns2).set d2 v2).get d = st.get d := fun d hd => by rw [St.cH, if_neg (fun (e : d = d2) => a2 (e ▸ dh hd))]; rfl
  cases hpx' : c7 x with
  | false => unfold eu; rw [hpx']; rfl
  | true =>
   rcases jA (rx hb) hpx' with h | ⟨_, h⟩
   ·unfold eu; simp [h]
   ·rw [g4 sl (fun d hd b hb => by
     obtain ⟨e1, _⟩ := h d hd b hb
     show (match look ns2 b with | some c => some c | none => st.find b) = st.find b
     cases hl : look ns2 b with
     | none => rfl
     | some k => exact absurd (f2 b k hl) e1)]
    exact rx hb
theorem sH (h : m4 o = true) : c7 o = false := by
 unfold m4 at h
 split at h
 ·rename_i ho
  split at h
  ·rename_i hc; unfold c7 er; rw [ho]; simp only [hc, Bool.false_or]
  ·cases h
 ·cases h
theorem p7 {ws : Nat → Bool} (h : ey o = true) (st : St) : eu ws o st = true := by unfold eu; simp [h]
theorem iy {ws : Nat → Bool} (h : c7 o = false) (st : St) : eu ws o st = true := by unfold eu; simp [h]
theorem DW {ws : Nat → Bool} (h : mvO E o = true) (st : St) : eu ws o st = true := by
 obtain ⟨g, ⟨e, ho⟩ | ⟨t, x, lo, hi, ho, _⟩⟩ := kl h
 ·exact p7 (by unfold ey; rw [ho]) st
 ·exact iy (by unfold c7 er; rw [ho]; rfl) st
theorem LI (h : mvO E o = true) (ha : m4 o = true) : False := by
 obtain ⟨g, ⟨e, ho⟩ | ⟨t, x, lo, hi, ho, _⟩⟩ := kl h
 ·unfold m4 at ha; rw [g, ho] at ha; cases ha
 ·unfold m4 at ha; rw [g, ho] at ha; cases ha
theorem G8 (h : mvO E o = true) (ha : g7 o = true) : False := by
 obtain ⟨g, ⟨e, ho⟩ | ⟨t, x, lo, hi, ho, _⟩⟩ := kl h
 ·unfold g7 at ha; rw [g, ho] at ha; cases ha
 ·unfold g7 at ha; rw [g, ho] at ha; cases ha
theorem zQ (pr : Bool) (h : mvO E o = true) (hr : gK E all o st = some s) : da E all pr o st := by
 obtain ⟨g, ⟨e, ho⟩ | ⟨t, x, lo, hi, ho, hbm⟩⟩ := kl h
 ·exact JR pr g ho
 ·simp only [gK, g] at hr
  have hd := (pE ho hbm hr).1 x (by simp [ho, Op.operands])
  simp only [da, g]
  left
  simp [calm, ho, nF hd]
theorem Aq (h : ey o = true) : c7 o = true := by
 unfold c7; rw [ku h]; rfl
theorem iB (h : stO o = true) : o.guard = none ∧ o.dst = none ∧ ∃ t p x, o.op = .store t p x := by
 unfold stO at h
 split at h
 ·rename_i t p x hg hd ho; exact ⟨hg, hd, _, _, _, ho⟩
 ·cases h
theorem wE (h : stO o = true) : c7 o = false := by
 obtain ⟨_, _, t, p, x, ho⟩ := iB h
 unfold c7 er; rw [ho]; rfl
theorem Ey {f : Fg} (hs : stO o = true) (h : im E all f o st) : Gj f.ws f.pr f.sl o st := by
 obtain ⟨hg, hd, t, p, x, ho⟩ := iB hs
 rcases h.1 with h | ⟨_, h⟩ | h | h
 ·simp only [da, hg] at h
  rcases h with h | ⟨_, h⟩
  ·unfold calm at h; rw [ho] at h; cases h
  ·unfold kW at h; rw [ho] at h; cases h
 ·unfold m4 at h; rw [hg, ho] at h; cases h
 ·have := h.1; unfold g7 at this; rw [hg, ho] at this; cases this
 ·exact h
theorem fY {x y : Oper} (h : eD all x y = true) : stO x = true ∧ stO y = false ∧ ∃ e, y.dst = some e ∧ e ∉ dv all x := by
 unfold eD at h
 split at h
 ·cases h
 ·rename_i e hs hd hne
  refine ⟨hs, ?_, e, hd, ?_⟩
  ·unfold stO; split
   ·rename_i t p z _ h1 h2; rw [hd] at h1; cases h1
   ·rfl
  ·simp only [Bool.not_eq_true', Bool.eq_false_iff, ne_eq, any_beq] at h
   exact h
 ·cases h
theorem uq {ws : Nat → Bool} (h : ∀ x ∈ o.op.operands, st'.ev x = st.ev x) (hf : st'.find = st.find) : yI ws o st' = yI ws o st := by
 unfold yI
 rw [hf, show o.op.operands.toList.map st'.ev = o.op.operands.toList.map st.ev from List.map_congr_left fun x hx => h x (by simpa using hx)]
theorem Ny {x y : Oper} {fx fy : Fg} {s1 s2 : St} (hx : gK E all x st = some s1) (hy : gK E all y s1 = some s2) (hs : stO y = true) (cx : im E all fx x st) (cy : im E all fy y s1) (ap : eD all y x = true)
  (hpy : fy.pr = true → er x = true) (hsy : fy.sl = true → ey x = true) (hbx : dW E y = true → fx.bw = true) (hw : fx.ws = fy.ws) :
  ∃ s', gK E all y st = some s' ∧ gK E all x s' = some s2 ∧ im E all fy y st ∧ im E all fx x s' := by
 obtain ⟨_, _, d1, hd1, a1⟩ := fY ap
 obtain ⟨gy, hdy, ty, py', xy, oy⟩ := iB hs
 obtain ⟨_, hc⟩ := Ey hs cy
 have px : er x = true := by
  rcases hc with h | h
  ·exact ku (hsy h)
  ·exact hpy h.1
 have hwr : dW E y = true := by unfold dW; rw [oy]
 obtain ⟨v1, p1, m1⟩ := kK px hx
 have hfind := kJ hx px
 rw [hd1] at p1
 obtain ⟨l1, rfl⟩ := dk p1
 simp only [gK, gy] at hy
 obtain ⟨L, rfl, q1, q2⟩ := nX (ws := fy.ws) hs hy
 have evy : ∀ z ∈ y.op.operands, st.ev z = (st.set d1 v1).ev z := cK fun d hd => by rw [St.cH, if_neg (fun (e : d = d1) => a1 (e ▸ dh hd))]
 have g1 := q2 st evy hfind.symm
 have same : ey x = true ∨ ∀ d ∈ slotsOf x, ∀ b ∈ ah (st.get d), (st.bm L).find b = st.find b := by
  rcases hc with h | h
  ·exact .inl (hsy h)
  ·refine (jA (cx.2 (hbx hwr)) (by unfold c7; rw [px]; rfl)).imp id fun ⟨_, hn⟩ d hd b hb => ?_
   obtain ⟨_, e3⟩ := hn d hd b hb
   show (match look L b with | some c => some c | none => st.find b) = st.find b
   cases hl : look L b with
   | none => rfl
   | some k => have := q1 h.2 b k hl; rw [← hw, e3] at this; cases this
 have g2 := m1 (st.bm L) rfl (fun d _ => rfl) (same.imp id fun h d hd b hb blk hf => by rw [h d hd b hb]; exact hf)
 rw [hd1, iJ (show d1 < (st.bm L).n from l1)] at g2
 refine ⟨st.bm L, by simp only [gK, gy]; exact g1, g2, ⟨.inr (.inr (.inr ⟨hs, hc.imp id fun h => ⟨h.1, ?_⟩⟩)), fun _ => iy (wE hs) _⟩, .inl (kR px _ _), fun hb => ?_⟩
 ·rw [uq evy hfind.symm]; exact h.2
 ·rcases same with h | h
  ·exact p7 h _
  ·rw [g4 (st := st) (st' := st.bm L) (fun d _ => rfl) h]; exact cx.2 hb
theorem Nz {x y : Oper} {fx fy : Fg} {s1 s2 : St} (hx : gK E all x st = some s1) (hy : gK E all y s1 = some s2) (hs : stO x = true) (cx : im E all fx x st) (cy : im E all fy y s1) (ap : eD all x y = true)
  (hpx : fx.pr = true → er y = true) (hsx : fx.sl = true → ey y = true) (hby : dW E x = true → fy.bw = true) (hw : fx.ws = fy.ws) :
  ∃ s', gK E all y st = some s' ∧ gK E all x s' = some s2 ∧ im E all fy y st ∧ im E all fx x s' := by
 obtain ⟨_, _, d2, hd2, a2⟩ := fY ap
 obtain ⟨gx, hdx, tx, px', xx, ox⟩ := iB hs
 obtain ⟨_, hc⟩ := Ey hs cx
 have py : er y = true := by
  rcases hc with h | h
  ·exact ku (hsx h)
  ·exact hpx h.1
 have hwr : dW E x = true := by unfold dW; rw [ox]
 simp only [gK, gx] at hx
 obtain ⟨L, rfl, q1, q2⟩ := nX (ws := fx.ws) hs hx
 obtain ⟨v2, p2, m2⟩ := kK py hy
 rw [hd2] at p2
 obtain ⟨l2, rfl⟩ := dk p2
 have same : ey y = true ∨ ∀ d ∈ slotsOf y, ∀ b ∈ ah ((st.bm L).get d), st.find b = (st.bm L).find b := by
  rcases hc with h | h
  ·exact .inl (hsx h)
  ·refine (jA (cy.2 (hby hwr)) (by unfold c7; rw [py]; rfl)).imp id fun ⟨_, hn⟩ d hd b hb => ?_
   obtain ⟨_, e3⟩ := hn d hd b hb
   show st.find b = (match look L b with | some c => some c | none => st.find b)
   cases hl : look L b with
   | none => rfl
   | some k => have := q1 h.2 b k hl; rw [hw, e3] at this; cases this
 have g1 := m2 st rfl (fun d _ => rfl) (same.imp id fun h d hd b hb blk hf => by rw [h d hd b hb]; exact hf)
 rw [hd2, iJ (show d2 < st.n from l2)] at g1
 have evx : ∀ z ∈ x.op.operands, (st.set d2 v2).ev z = st.ev z := cK fun d hd => by rw [St.cH, if_neg (fun (e : d = d2) => a2 (e ▸ dh hd))]
 have g2 := q2 (st.set d2 v2) evx rfl
 refine ⟨_, g1, by simp only [gK, gx]; exact g2, ⟨.inl (kR py _ _), fun hb => ?_⟩, .inr (.inr (.inr ⟨hs, hc.imp id fun h => ⟨h.1, ?_⟩⟩)), fun _ => iy (wE hs) _⟩
 ·rcases same with h | h
  ·exact p7 h _
  ·rw [g4 (st := st.bm L) (st' := st) (fun d _ => rfl) h]; exact cy.2 hb
 ·rw [uq evx rfl]; exact h.2
theorem swap {x y : Oper} {fx fy : Fg} {s1 s2 : St} (hx : gK E all x st = some s1) (hy : gK E all y s1 = some s2) (cx : im E all fx x st) (cy : im E all fy y s1) (ap : gQ all x y = true ∨ eD all x y = true ∨ eD all y x = true) (hpx : fx.pr = true → er y = true) (hpy : fy.pr = true → er x = true)
  (hmx : fx.mv = true → mvO E y = true) (hmy : fy.mv = true → mvO E x = true) (hsx : fx.sl = true → ey y = true) (hsy : fy.sl = true → ey x = true) (hgx : fx.gn = true → c7 y = true) (hgy : fy.gn = true → c7 x = true) (hbx : dW E y = true → fx.bw = true) (hby : dW E x = true → fy.bw = true) (hw : fx.ws = fy.ws) (wf : nf y st) :
  ∃ s', gK E all y st = some s' ∧ gK E all x s' = some s2 ∧ im E all fy y st ∧ im E all fx x s' := by
 rcases ap with ap | ap | ap
 rotate_left
 ·exact Nz hx hy (fY ap).1 cx cy ap hpx hsx hby hw
 ·exact Ny hx hy (fY ap).1 cx cy ap hpy hsy hbx hw
 have nost : ∀ {z : Oper} {d : Tmp}, z.dst = some d → stO z = true → False := by
  intro z d h1 h2
  have := (iB h2).2.1
  rw [h1] at this; cases this
 obtain ⟨e1, e2, hd1, hd2, _, _, _⟩ := apart_spec ap
 obtain ⟨cx, rx⟩ := cx
 obtain ⟨cy, ry⟩ := cy
 rw [← hw] at cy ry
 unfold im
 rw [← hw]
 have wgen : ∀ {ws : Nat → Bool} {o : Oper} {f : Fg} {z : Oper} {st : St}, ng E ws f.gn f.sl o st → (f.gn = true → c7 z = true) → (f.sl = true → ey z = true) → c7 z = true := by
  intro ws o f z st h h1 h2
  rcases h.2 with h | h
  ·exact Aq (h2 h)
  ·exact h1 h.1
 rcases cx with cx | ⟨m1, ax⟩ | wx | sx
 rotate_left 3
 ·exact (nost hd1 sx.1).elim
 ·rcases cy with cy | ⟨m2, ay⟩ | wy | sy
  rotate_left 3
  ·exact (nost hd2 sy.1).elim
  ·obtain ⟨s', h1, h2, h3, h4, h5, h6⟩ := Nu hx hy cx cy ap hpx hpy wf rx ry
   exact ⟨s', h1, h2, ⟨.inl h3, h5⟩, .inl h4, h6⟩
  ·obtain ⟨s', h1, h2⟩ := NA hx hy (hmy m2) ay ap
   exact ⟨s', h1, h2, ⟨.inr (.inl ⟨m2, ay⟩), fun _ => iy (sH ay) _⟩, .inl (zQ fx.pr (hmy m2) h2), fun _ => DW (hmy m2) _⟩
  ·obtain ⟨s', h1, h2, h3, h5, h4⟩ := Nv (f := ⟨fy.pr, fy.mv, fy.sl, fy.gn, fy.bw, fx.ws⟩) (px := fx.pr) hx hy wy rx ap hsy hgy hbx wf
   exact ⟨s', h1, h2, ⟨.inr (.inr (.inl h3)), fun _ => uy wy.1 _⟩, .inl h5, h4⟩
 ·rcases cy with cy | ⟨m2, ay⟩ | wy | sy
  rotate_left 3
  ·exact (nost hd2 sy.1).elim
  ·obtain ⟨s', h1, h2⟩ := NB hx hy ax (hmx m1) ap
   exact ⟨s', h1, h2, ⟨.inl (zQ fy.pr (hmx m1) h1), fun _ => DW (hmx m1) _⟩, .inr (.inl ⟨m1, ax⟩), fun _ => iy (sH ax) _⟩
  ·exact (LI (hmx m1) ay).elim
  ·exact (G8 (hmx m1) wy.1).elim
 ·have py := wgen wx hgx hsx
  rcases cy with cy | ⟨m2, ay⟩ | wy | sy
  rotate_left 3
  ·exact (nost hd2 sy.1).elim
  ·obtain ⟨s', h1, h2, h3, h5, h4⟩ := Nw (py := fy.pr) hx hy wx ry ap hsx hgx hby wf
   exact ⟨s', h1, h2, ⟨.inl h5, h4⟩, .inr (.inr (.inl h3)), fun _ => uy wx.1 _⟩
  ·rw [sH ay] at py; cases py
  ·rw [ux wy.1] at py; cases py
theorem oC {κ : Nat → Option Nat} (hk : ∀ b c, κ b = some c → c = b) {f : Nat → AV} (hf : ∀ c, ah (f c) = [c]) {c b : Nat} (hb : b ∈ ah (match κ c with | some c' => f c' | none => .undef)) : b = c := by
 split at hb
 ·rename_i c' hc
  rw [hf, hk _ _ hc] at hb
  simpa using hb
 ·simp [ah] at hb
mutual
theorem wi {κ : Nat → Option Nat} (hk : ∀ b c, κ b = some c → c = b) : ∀ (v : AV) (b : Nat), b ∈ ah (v.ren κ) → b ∈ ah v
 | .undef, b, hb => hb
 | .gone, b, hb => hb
 | .dat .., b, hb => hb
 | .test .., b, hb => hb
 | .nil, b, hb => hb
 | .pnil, b, hb => hb
 | .dne _, b, hb => hb
 | .dp .., b, hb => hb
 | .own c, b, hb => by rw [oC hk (f := .own) (fun _ => rfl) hb]; simp [ah]
 | .om c, b, hb => by rw [oC hk (f := .om) (fun _ => rfl) hb]; simp [ah]
 | .box c i, b, hb => by rw [oC hk (f := fun c => .box c i) (fun _ => rfl) hb]; simp [ah]
 | .ep c i, b, hb => by rw [oC hk (f := fun c => .ep c i) (fun _ => rfl) hb]; simp [ah]
 | .clo f caps, b, hb => kT hk caps b hb
 | .agg cs, b, hb => kT hk cs b hb
 | .tup vs, b, hb => kT hk vs b hb
theorem kT {κ : Nat → Option Nat} (hk : ∀ b c, κ b = some c → c = b) : ∀ (l : List AV) (b : Nat), b ∈ ah.namesL (AV.ren.ld κ l) → b ∈ ah.namesL l
 | [], b, hb => hb
 | v :: l, b, hb => by
  simp only [AV.ren.ld, ah.namesL, List.mem_append] at hb ⊢
  rcases hb with hb | hb
  ·exact .inl (wi hk v b hb)
  ·exact .inr (kT hk l b hb)
end
theorem CY {x y : Oper} {fx : Fg} {s1 : St} (hx : gK E all x st = some s1) (cx : im E all fx x st) (ap : gQ all x y = true ∨ eD all x y = true ∨ eD all y x = true) (wf : nf y st) : nf y s1 := by
 have sc : ∀ {d1 : Tmp}, x.dst = some d1 → stO x = true → False := by
  intro d1 h1 h2
  have := (iB h2).2.1
  rw [h1] at this; cases this
 have ap' : (∃ d1, x.dst = some d1 ∧ d1 ∉ dv all y) ∨ stO x = true := by
  rcases ap with ap | ap | ap
  ·obtain ⟨d1, d2, hd1, hd2, a1, a2, a3⟩ := apart_spec ap
   exact .inl ⟨d1, hd1, a1⟩
  ·exact .inr (fY ap).1
  ·obtain ⟨_, _, d1, hd1, a1⟩ := fY ap
   exact .inl ⟨d1, hd1, a1⟩
 rcases ap' with ⟨d1, hd1, a1⟩ | hst
 rotate_left
 ·have gx := (iB hst).1
  simp only [gK, gx] at hx
  obtain ⟨L, rfl, _, _⟩ := nX (ws := fx.ws) hst hx
  intro d hd b hb
  show (match look L b with | some c => some c | none => st.find b) ≠ none
  cases look L b with
  | none => exact wf d hd b hb
  | some c => simp
 rcases cx.1 with cx | ⟨m1, ax⟩ | wx | sx
 rotate_left 3
 ·exact (sc hd1 sx.1).elim
 rotate_left 2
 ·have gx := jX wx.1
  simp only [gK, gx] at hx
  obtain ⟨v1, ns1, p1, _, _⟩ := nZ (ws := fx.ws) wx.1 hx
  rw [hd1] at p1
  obtain ⟨l1, rfl⟩ := dk p1
  intro d hd b hb
  rw [St.cH, if_neg (fun (e : d = d1) => a1 (e ▸ dh hd))] at hb
  show (match look ns1 b with | some c => some c | none => st.find b) ≠ none
  cases look ns1 b with
  | none => exact wf d hd b hb
  | some c => simp
 ·obtain ⟨v1, ns1, rt1, p1, f1, _, _⟩ := s9 hx cx
  rw [hd1] at p1
  obtain ⟨l1, rfl⟩ := dk p1
  intro d hd b hb
  rw [St.cH, if_neg (fun (e : d = d1) => a1 (e ▸ dh hd))] at hb
  show (match look ns1 b with | some c => some c | none => st.find b) ≠ none
  cases look ns1 b with
  | none => exact wf d hd b hb
  | some c => simp
 ·rw [jM ax] at hx
  obtain ⟨κ, k1, k2, k3, k4, k5⟩ := kD ax hx
  intro d hd b hb hn
  rw [k4 d (by rw [hd1]; intro e; injection e with e; exact a1 (e ▸ dh hd))] at hb
  exact wf d hd b (wi k1 _ b hb) (k3 b hn)
def Run (E : En) (fl : Fl) (all : List Oper) : List Nat → St → St → Prop
 | [], st, sf => st = sf
 | i :: l, st, sf => ∃ o s, all[i]? = some o ∧ (fl.free i = true → im E all (OP fl i) o st) ∧ gK E all o st = some s ∧ Run E fl all l s sf
structure F7 (E : En) (fl : Fl) (all : List Oper) (j i : Nat) (x o : Oper) : Prop where
 ap : gQ all x o = true ∨ eD all x o = true ∨ eD all o x = true
 pj : fl.prs j = true → er o = true
 pi : fl.prs i = true → er x = true
 mj : fl.mvs j = true → mvO E o = true
 mi : fl.mvs i = true → mvO E x = true
 sj : fl.sls j = true → ey o = true
 si : fl.sls i = true → ey x = true
 gj : fl.gns j = true → c7 o = true
 gi : fl.gns i = true → c7 x = true
 bj : dW E o = true → fl.bws j = true
 bi : dW E x = true → fl.bws i = true
theorem Run.pull {fl : Fl} {i : Nat} {o : Oper} (ho : all[i]? = some o) : ∀ {L1 L2 : List Nat} {st sf : St}, Run E fl all (L1 ++ i :: L2) st sf → (∀ j ∈ L1, fl.free j = true ∧ fl.free i = true ∧ ∀ x, all[j]? = some x → F7 E fl all j i x o) → nf o st →
  ∃ s, gK E all o st = some s ∧ (fl.free i = true → im E all (OP fl i) o st) ∧ Run E fl all (L1 ++ L2) s sf
 | [], L2, st, sf, h, _, _ => by
  obtain ⟨o', s, ho', hc, hg, hr⟩ := h
  rw [ho] at ho'
  cases ho'
  exact ⟨s, hg, hc, hr⟩
 | j :: L1, L2, st, sf, h, hap, wf => by
  obtain ⟨x, s1, hx, hc, hg, hr⟩ := h
  obtain ⟨fj, fi, hapx⟩ := hap j (by simp)
  have B := hapx x hx
  -- x is calm: the names that o sees are still there behind it
  have cx := hc fj
  have wf1 : nf o s1 := CY hg cx B.ap wf
  obtain ⟨s2, hg2, hc2, hr2⟩ := Run.pull ho hr (fun j' hj' => hap j' (by simp [hj'])) wf1
  obtain ⟨s', q1, q2, q3, q4⟩ := swap hg hg2 cx (hc2 fi) B.ap B.pj B.pi B.mj B.mi B.sj B.si B.gj B.gi B.bj B.bi rfl wf
  exact ⟨s', q1, fun _ => q3, x, s2, hx, fun _ => q4, q2, hr2⟩
def jY (fs : List (Nat × Bool)) (st : St) : Prop := ∀ d b, look fs d = some b → fZ (st.get d) = some b
theorem jY.drop {fs : List (Nat × Bool)} (h : jY fs st) (hk : vq o st s) : jY (cX o.dst fs) s := by
 cases hd : o.dst with
 | none => intro d b hb; rw [hk d (by rw [hd]; simp)]; exact h d b hb
 | some e =>
  intro d b hb
  have key : ∀ (fs : List (Nat × Bool)) (b : Bool), look (fs.filter fun p => !Nat.beq p.1 e) d = some b → d ≠ e ∧ look fs d = some b := by
   intro fs
   induction fs with
   | nil => intro b h; cases h
   | cons p fs ih =>
    intro b h
    obtain ⟨q, c⟩ := p
    rw [List.filter_cons] at h
    by_cases e' : q = e
    ·subst e'
     simp only [Nat.beq_refl, Bool.not_true, Bool.false_eq_true, if_false] at h
     obtain ⟨h1, h2⟩ := ih b h
     exact ⟨h1, by rw [bg, if_neg h1]; exact h2⟩
    ·have : Nat.beq q e = false := by rw [Bool.eq_false_iff]; intro hh; exact e' (Nat.eq_of_beq_eq_true hh)
     rw [this] at h
     simp only [Bool.not_false, if_true] at h
     rw [bg] at h ⊢
     split at h
     ·rename_i e2
      cases h
      exact ⟨fun e3 => e' (e2.symm.trans e3), by rw [if_pos e2]⟩
     ·rename_i e2
      obtain ⟨h1, h2⟩ := ih b h
      exact ⟨h1, by rw [if_neg e2]; exact h2⟩
  obtain ⟨h1, h2⟩ := key fs b hb
  rw [hk d (by rw [hd]; simp; exact fun e' => h1 e'.symm)]
  exact h d b h2
theorem Gw {fs : List (Nat × Bool)} {d : Nat} {k : Bool → List (Nat × Bool) → Option R} {r : R} (hf : jY fs st) (h : uU fs st d k = some r) : ∃ b fs', fZ (st.get d) = some b ∧ jY fs' st ∧ k b fs' = some r := by
 unfold uU at h
 split at h
 ·rename_i b hb
  exact ⟨b, fs, hf d b hb, hf, h⟩
 ·rw [kI] at h
  obtain ⟨b, hb, h⟩ := Option.bind_eq_some_iff.1 h
  refine ⟨b, _, hb, ?_, h⟩
  intro d' b' hl
  rw [bg] at hl
  split at hl
  ·rename_i e; cases hl; rw [e]; exact hb
  ·exact hf d' b' hl
theorem uW {v : AV} {b : Bool} (h : fZ v = some b) : DM v = false := by
 cases v <;> first | rfl | cases h
theorem Gu {fs : List (Nat × Bool)} {d : Nat} {want : Bool} {k : Bool → List (Nat × Bool) → Option R} {r : R} (hf : jY fs st) (h : Fj fs st d want k = some r) : ∃ x fs', qI want (st.get d) = some x ∧ jY fs' st ∧ k x fs' = some r := by
 have hb' : ∀ b, fZ (st.get d) = some b → qI want (st.get d) = some (Bool.xor b want) := by
  intro b hb
  unfold qI
  rw [uW hb, hb]; rfl
 unfold Fj at h
 split at h
 ·rename_i b hb
  exact ⟨_, fs, hb' b (hf d b hb), hf, h⟩
 ·split at h
  ·rename_i hg
   exact ⟨true, fs, by unfold qI; rw [hg], hf, h⟩
  ·rw [kI] at h
   obtain ⟨b, hb, h⟩ := Option.bind_eq_some_iff.1 h
   refine ⟨_, _, hb' b hb, ?_, h⟩
   intro d' b' hl
   rw [bg] at hl
   split at hl
   ·rename_i e; cases hl; rw [e]; exact hb
   ·exact hf d' b' hl
theorem tO {fs : List (Nat × Bool)} {k : List (Nat × Bool) → St → Option R} {r : R} (hf : jY fs st)
  (h : (match o.op with
   | .pick (.tmp c) x y => uU fs st c fun t fs => st.put o.dst (st.ev (me t x y)) fun st => k (cX o.dst fs) st
   | _ => opK E o st fun st => k (cX o.dst fs) st) = some r) : ∃ s fs', opK E o st some = some s ∧ jY fs' s ∧ k fs' s = some r := by
 split at h
 ·rename_i c x y ho
  obtain ⟨t, fs', hb, hf', h⟩ := Gw hf h
  obtain ⟨s, h1, h2, h3⟩ := b8 (o := o) (st0 := st) (fun _ => rfl) h
  refine ⟨s, _, ?_, hf'.drop h3, h2⟩
  simp only [opK, ho]
  rw [kI, show st.ev (.tmp c) = st.get c from rfl, hb]
  exact h1
 ·obtain ⟨s, h1, h2, h3⟩ := JX h
  exact ⟨s, _, h1, hf.drop h3, h2⟩
theorem qx {fl : Fl} {i : Nat} (h : yu E fl i o st = true) : (calm o st = true ∨ (fl.prs i = true ∧ kW E o st = true)) ∨ (fl.mvs i = true ∧ m4 o = true) ∨ ng E fl.ws (fl.gns i) (fl.sls i) o st ∨ Gj fl.ws (fl.prs i) (fl.sls i) o st := by
 unfold yu at h
 simp only [Bool.or_eq_true, Bool.and_eq_true] at h
 rcases h with (((h | h) | h) | ⟨h1, h2⟩) | ⟨h1, h2⟩
 ·exact .inl (.inl h)
 ·exact .inl (.inr h)
 ·exact .inr (.inl h)
 ·exact .inr (.inr (.inl ⟨h1, h2.imp id fun h => ⟨h.1.1, h.1.2, h.2⟩⟩))
 ·exact .inr (.inr (.inr ⟨h1, h2⟩))
theorem oH {fl : Fl} {k : St → Option R} {r : R} : ∀ {ops : List Oper} {i : Nat} {fs : List (Nat × Bool)} {st : St}, all.drop i = ops → jY fs st → qS E fl all ops i fs st k = some r →
  ∃ sf, Run E fl all (List.range' i ops.length) st sf ∧ k sf = some r
 | [], i, fs, st, _, hf, h => ⟨st, rfl, h⟩
 | o :: ops, i, fs, st, hd, hf, h => by
  have ho : all[i]? = some o := by
   have : (all.drop i)[0]? = some o := by rw [hd]; rfl
   rw [List.getElem?_drop] at this
   simpa using this
  have hd' : all.drop (i + 1) = ops := by
   rw [← List.drop_drop, hd]; rfl
  unfold qS at h
  split at h
  ·cases h
  ·rename_i hrow
   have hrow' : fl.free i = true → fl.bws i = true → eu fl.ws o st = true := by
    intro h1 h2
    simpa [h1, h2] using hrow
   split at h
   ·rename_i hg
    split at h
    ·cases h
    ·rename_i hc
     obtain ⟨s, fs', h1, h2, h3⟩ := tO (k := fun fs st => qS E fl all ops (i + 1) fs st k) hf h
     obtain ⟨sf, h4, h5⟩ := oH hd' h2 h3
     refine ⟨sf, ⟨o, s, ho, ?_, ?_, h4⟩, h5⟩
     ·intro hfr
      rw [hfr] at hc
      simp only [Bool.not_true, Bool.false_or] at hc
      refine ⟨?_, hrow' hfr⟩
      rcases qx hc with hc | hc
      ·left
       simp only [da, hg]
       exact hc
      ·exact .inr hc
     ·simp only [gK, hg]; exact h1
   ·rename_i j want hg
    split at h
    ·cases h
    ·rename_i d hdst
     obtain ⟨x, fs', hx, hf', h⟩ := Gu hf h
     cases x with
     | true =>
      obtain ⟨s, h1, h2, h3⟩ := b8 (o := o) (st0 := st) (fun _ => rfl) h
      obtain ⟨sf, h4, h5⟩ := oH hd' (hf'.drop h3) h2
      refine ⟨sf, ⟨o, s, ho, ?_, ?_, h4⟩, h5⟩
      ·intro hfr
       refine ⟨?_, hrow' hfr⟩
       left
       simp only [da, hg]
       intro d' e1 e2
       rw [hdst] at e1; cases e1
       rw [hx] at e2; cases e2
      ·simp only [gK, hg, hdst, hx]; exact h1
     | false =>
      simp only at h
      split at h
      ·cases h
      ·rename_i hc
       obtain ⟨s, fs'', h1, h2, h3⟩ := tO (k := fun fs st => qS E fl all ops (i + 1) fs st k) hf' h
       obtain ⟨sf, h4, h5⟩ := oH hd' h2 h3
       refine ⟨sf, ⟨o, s, ho, ?_, ?_, h4⟩, h5⟩
       ·intro hfr
        rw [hfr] at hc
        simp only [Bool.not_true, Bool.false_or] at hc
        refine ⟨?_, hrow' hfr⟩
        rcases qx hc with hc | hc | hc | hc
        ·left
         simp only [da, hg]
         intro _ _ _
         exact hc
        ·have := gR hc.2
         rw [hg] at this; cases this
        ·have := jX hc.1
         rw [hg] at this; cases this
        ·have := (iB hc.1).1
         rw [hg] at this; cases this
       ·simp only [gK, hg, hdst, hx]; exact h1
end
end Go.V
end
section
namespace Go.V
open Go Go.RowKit
set_option linter.unusedVariables false
set_option linter.unusedSimpArgs false
section
variable {P : Program} {E : En} {R : Type} {w0 : World} {M : Mo} {X : Nat → Prop} {hd : Nat → Value} {st s : St} {a : Act} {w w' : World}
variable {k : St → Option R} {r : R} {Q : Exit → Act → World → Prop} {o : Oper}
theorem Jt {c : Cx} {v : AV} {x : Value} {b : Bool} (h : Rt c v x) (hb : fZ v = some b) : x = .bool b := by
 obtain ⟨b', h1, h2⟩ := oq (k := fun b => some b) (r := b) h (by rw [kI, hb]; rfl)
 cases h2
 exact h1
theorem Ap {all : Array Oper} {j d : Nat} {want x : Bool} {v : AV} {c : Cx} (hd' : lG all.toList j = some d) (h : Rt c v (a.tmps.getD d undef)) (hx : qI want v = some x) : (yielded all a.tmps j == some want) = !x := by
 unfold qI at hx
 split at hx
 ·rename_i hg
  cases hx
  rw [pa hd' (zC h hg)]; rfl
 ·cases hb : fZ v with
  | none => rw [hb] at hx; cases hx
  | some b =>
   rw [hb] at hx
   cases hx
   rw [uD hd' (Jt h hb)]
   cases b <;> cases want <;> rfl
theorem JD {K : Act → World → Prop} {all : Array Oper} (hnp : M.np ≤ E.pin) (ht : ek P E.tb) (hoc : fX P E.orc) {i : Nat} (ho : all[i]? = some o) (h : Rel w0 M X hd st a w) (hg : gK E all.toList o st = some s)
  (hk : ∀ hd a w, Rel w0 M X hd s a w → K a w) : wpOp P all Q i K a w := by
 have hop : ∀ {st : St} {a : Act}, Rel w0 M X hd st a w → opK E o st some = some s → o.wp P a w K Q := fun h e =>
  KT (r := s) hnp ht hoc h (fun st' hd a w hrel e => by cases e; exact hk _ _ _ hrel) e
 unfold wpOp
 rw [ho]
 simp only
 unfold gK at hg
 split at hg
 ·rename_i hgd
  rw [if_pos (show Region.wanted o (yielded all a.tmps) = true by unfold Region.wanted; rw [hgd])]
  exact .inl (hop h hg)
 ·rename_i j want hgd
  split at hg
  ·cases hg
  ·rename_i d hdst
   split at hg
   ·cases hg
   ·rename_i hb
    have hw : Region.wanted o (yielded all a.tmps) = false := by
     unfold Region.wanted; rw [hgd]; exact Ap hdst (h.tmps d) hb
    rw [hw, if_neg (by simp)]
    exact ct (r := s) h (show Rt (st.cx X hd w) .gone undef from rfl) (fun st' hd a w hrel e => by cases e; exact hk _ _ _ hrel) hg
   ·rename_i hb
    have hw : Region.wanted o (yielded all a.tmps) = true := by
     unfold Region.wanted; rw [hgd]; exact Ap hdst (h.tmps d) hb
    rw [hw, if_pos rfl]
    exact .inl (hop h hg)
theorem JU {c : Cx} {v : AV} {u : Value} (h : Rt c v u) : ∀ b ∈ ah v, ∃ blk, c.find b = some blk := by
 have l1 : ∀ {l : List AV} {m : List Value}, bH (Ra c) l m → (∀ v u, Ra c v u → ∀ b ∈ ah v, ∃ blk, c.find b = some blk) → ∀ b ∈ ah.namesL l, ∃ blk, c.find b = some blk := by
  intro l
  induction l with
  | nil => intro m _ _ b hb; simp [ah.namesL] at hb
  | cons v l ih =>
   intro m hm hr b hb
   cases m with
   | nil => exact hm.elim
   | cons u m =>
    simp only [ah.namesL, List.mem_append] at hb
    exact hb.elim (hr _ _ hm.1 b) (ih hm.2 hr b)
 have ra : ∀ v u, Ra c v u → ∀ b ∈ ah v, ∃ blk, c.find b = some blk := by
  intro v u h
  cases v with
  | agg cs =>
   obtain ⟨vs, _, ha⟩ := h
   intro b hb
   exact rA ha b (by simpa [ah] using hb)
  | _ => exact BV (u := u) (show R1 c _ u from h)
 cases v with
 | tup vs =>
  obtain ⟨us, _, ha⟩ := h
  intro b hb
  exact l1 ha ra b (by simpa [ah] using hb)
 | _ => exact ra _ u (show Ra c _ u from h)
theorem Rel.there (h : Rel w0 M X hd st a w) (o : Oper) : nf o st := by
 intro d _ b hb e
 obtain ⟨blk, hf⟩ := JU (h.tmps d) b hb
 rw [show st.find b = some blk from hf] at e
 cases e
theorem vg {ops : List Oper} {i j : Nat} {y : Oper} (hij : i < j) (hj : ops[j]? = some y) (h : before ops i j = false) : (i, j) ∈ fA ops := by
 obtain ⟨hl, _⟩ := List.getElem?_eq_some_iff.1 hj
 simp only [fA, List.mem_filter, List.mem_flatMap, List.mem_range, List.mem_map]
 exact ⟨⟨j, hl, i, hij, rfl⟩, by simp [hj, h]⟩
theorem nM {ms : List Nat} {i : Nat} : ∀ {l : List Edge}, (oD ms l).testBit i = true → ∃ e ∈ l, iu e = true ∧ (e.on = i ∨ (ms.getD e.on 0).testBit i = true)
 | [], h => by simp [oD] at h
 | e :: l, h => by
  unfold oD at h
  split at h
  ·rename_i hb
   rw [Nat.testBit_or, Nat.testBit_or, Bool.or_eq_true, Bool.or_eq_true] at h
   rcases h with (h | h) | h
   ·obtain ⟨e', h1, h2⟩ := nM h
    exact ⟨e', List.mem_cons_of_mem _ h1, h2⟩
   ·rw [Nat.one_shiftLeft, Nat.testBit_two_pow] at h
    exact ⟨e, by simp, hb, .inl (by simpa using h)⟩
   ·exact ⟨e, by simp, hb, .inr h⟩
  ·obtain ⟨e', h1, h2⟩ := nM h
   exact ⟨e', List.mem_cons_of_mem _ h1, h2⟩
theorem oE : ∀ (l : List Oper) (ms : List Nat), (∃ r, iT l ms = ms ++ r) ∧ ∀ j o, l[j]? = some o → (iT l ms).getD (ms.length + j) 0 = oD ((iT l ms).take (ms.length + j)) o.after.toList
 | [], ms => ⟨⟨[], by simp [iT]⟩, fun j o h => by simp at h⟩
 | o :: l, ms => by
  obtain ⟨⟨r, hr⟩, h2⟩ := oE l (ms ++ [oD ms o.after.toList])
  refine ⟨⟨oD ms o.after.toList :: r, by rw [iT, hr]; simp⟩, fun j o' h => ?_⟩
  cases j with
  | zero =>
   simp at h
   subst h
   rw [iT, hr, List.append_assoc, Nat.add_zero, List.take_left]
   simp [List.getD_eq_getElem?_getD]
  | succ j =>
   have := h2 j o' (by simpa using h)
   rw [List.length_append, List.length_singleton] at this
   rw [iT, show ms.length + (j + 1) = ms.length + 1 + j by omega]
   exact this
theorem uV {ops : Array Oper} {listed : Array Bool} (hcl : ∀ x o, ops[x]? = some o → listed.getD x false = true → ∀ e ∈ o.after.toList, iu e = true → listed.getD e.on false = true) :
  ∀ (n i : Nat) (o : Oper), i < n → ops[i]? = some o → (∀ e ∈ o.after.toList, iu e = true → listed.getD e.on false = true) → ∀ j, before ops.toList j i = true → listed.getD j false = true := by
 intro n
 induction n with
 | zero => intro i o hi; exact absurd hi (Nat.not_lt_zero _)
 | succ n ih =>
  intro i o hi ho hp j hj
  unfold before at hj
  have h2 := (oE ops.toList []).2 i o (by simpa using ho)
  simp only [List.length_nil, Nat.zero_add] at h2
  rw [h2] at hj
  obtain ⟨e, he, hb, h⟩ := nM hj
  rcases h with rfl | h
  ·exact hp e he hb
  ·by_cases hlt : e.on < i
   ·have hio := (Array.getElem?_eq_some_iff.1 ho).1
    have hlt' : e.on < ops.size := by omega
    refine ih e.on ops[e.on] (by omega) (Array.getElem?_eq_getElem hlt') ?_ j ?_
    ·exact hcl e.on _ (Array.getElem?_eq_getElem hlt') (hp e he hb)
    ·unfold before
     rw [List.getD_eq_getElem?_getD, List.getElem?_take_of_lt hlt, ← List.getD_eq_getElem?_getD] at h
     exact h
   ·rw [List.getD_eq_getElem?_getD, List.getElem?_eq_none (by simp; omega)] at h
    simp at h
theorem JA (hnp : M.np ≤ E.pin) (ht : ek P E.tb) (hoc : fX P E.orc) (hmix : P.follows .mixedOrders = true) {id : Nat} {ops : Array Oper} (h : Rel w0 M X hd st a w) (hk : Next w0 M X k r fun a w => Q .normal a w) (hok : xa ops.toList = true)
  (hr : qS E (BF E id ops.toList) ops.toList ops.toList 0 [] st k = some r) : (Code.region id ops true).wp P Q a w := by
 obtain ⟨sf, hrun, hkr⟩ := oH (all := ops.toList) (ops := ops.toList) (i := 0) (by simp) (fs := []) (fun d b hb => by simp [look] at hb) hr
 unfold xa at hok
 rw [Bool.and_eq_true] at hok
 obtain ⟨hok1, hok2⟩ := hok
 refine wp_region_any hmix ?_
 have h0 : Rel w0 M X hd st a { w with drawn := w.drawn + 1 } := h.HV rfl rfl rfl rfl
 -- the ones that are left, in order
 have main : ∀ (n : Nat) (L : List Nat) (listed : Array Bool) (hd : Nat → Value) (st : St) (a : Act) (w : World), L.length = n → listed.size = ops.size → L.Pairwise (· < ·) → (∀ i, i < ops.size → (listed.getD i true = false ↔ i ∈ L)) → (∀ i ∈ L, i < ops.size) →
   (∀ x o, ops[x]? = some o → listed.getD x false = true → ∀ e ∈ o.after.toList, iu e = true → listed.getD e.on false = true) → Rel w0 M X hd st a w → Run E (BF E id ops.toList) ops.toList L st sf → wpAny P .any ops Q n listed a w := by
  intro n
  induction n with
  | zero =>
   intro L listed hd st a w hn hs _ hl _ _ hrel hrun
   have : L = [] := List.eq_nil_of_length_eq_zero hn
   subst this
   have e : st = sf := hrun
   subst e
   refine ⟨?_, hk _ _ _ _ hrel hkr⟩
   refine List.eq_nil_iff_forall_not_mem.2 fun i hi => ?_
   simp only [Region.ready, List.mem_filter, List.mem_range, Bool.and_eq_true, Bool.not_eq_true'] at hi
   have := (hl i hi.1).1 hi.2.1
   cases this
  | succ n ih =>
   intro L listed hd st a w hn hs hp hl hlt hcl hrel hrun
   have ready_iff : ∀ i, i ∈ Region.ready .any ops listed → i ∈ L ∧ i < ops.size ∧ ∃ o, ops[i]? = some o ∧ ∀ e ∈ o.after.toList, iu e = true → listed.getD e.on false = true := by
    intro i hi
    simp only [Region.ready, List.mem_filter, List.mem_range, Bool.and_eq_true, Bool.not_eq_true'] at hi
    obtain ⟨h1, h2, h3⟩ := hi
    refine ⟨(hl i h1).1 h2, h1, ?_⟩
    cases ho : ops[i]? with
    | none => rw [ho] at h3; simp at h3
    | some o =>
     rw [ho] at h3
     refine ⟨o, rfl, fun e he hb => ?_⟩
     simp only [Option.map_some, Option.getD_some, Array.all_eq_true_iff_forall_mem] at h3
     have := h3 e (by simpa using he)
     unfold iu at hb
     rw [hb] at this
     simpa using this
   refine ⟨fun hnil => ?_, fun i hi => ?_⟩
   ·-- the first one that is left is ready
    exfalso
    match L, hn with
    | i :: L', _ =>
     have hi : i < ops.size := hlt i (by simp)
     have : i ∈ Region.ready .any ops listed := by
      simp only [Region.ready, List.mem_filter, List.mem_range, Bool.and_eq_true, Bool.not_eq_true']
      refine ⟨hi, (hl i hi).2 (by simp), ?_⟩
      have ho : ops[i]? = some ops[i] := by simp [hi]
      rw [ho]
      simp only [Option.map_some, Option.getD_some, Array.all_eq_true_iff_forall_mem]
      intro e he
      have hz := List.all_eq_true.1 hok2 (ops[i], i) (by
       rw [List.mem_zipIdx_iff_getElem?]
       simp [hi])
      have hb := List.all_eq_true.1 hz e (by simpa using he)
      simp only [Bool.or_eq_true, Bool.not_eq_true'] at hb ⊢
      rcases hb with hb | hb
      ·exact .inl hb
      ·right
       have hon : e.on < i := by simpa [Nat.blt_eq] using hb
       cases hlist : listed.getD e.on true with
       | false =>
        have := (hl e.on (by omega)).1 hlist
        rcases List.mem_cons.1 this with h1 | h1
        ·omega
        ·have := (List.pairwise_cons.1 hp).1 e.on h1; omega
       | true =>
        have hlt' : e.on < listed.size := by rw [hs]; omega
        simp only [Array.getD_eq_getD_getElem?] at hlist ⊢
        rw [Array.getElem?_eq_getElem hlt'] at hlist ⊢
        simpa using hlist
     rw [hnil] at this
     cases this
   ·obtain ⟨hiL, hi', o, ho, hafter⟩ := ready_iff i hi
    obtain ⟨L1, L2, rfl⟩ := List.append_of_mem hiL
    have hlist : ops.toList[i]? = some o := by simpa using ho
    have hap : ∀ j ∈ L1, (BF E id ops.toList).free j = true ∧ (BF E id ops.toList).free i = true ∧ ∀ x, ops.toList[j]? = some x → F7 E (BF E id ops.toList) ops.toList j i x o := by
     intro j hj
     have hji : j < i := by
      have := (List.pairwise_append.1 hp).2.2 j hj i (by simp)
      exact this
     have hnl : listed.getD j true = false := (hl j (by omega)).2 (List.mem_append_left _ hj)
     have hna : before ops.toList j i = false := by
      rw [Bool.eq_false_iff]
      intro hc
      have := uV hcl (i + 1) i o (Nat.lt_succ_self i) ho hafter j hc
      have hlt' : j < listed.size := by rw [hs]; omega
      simp only [Array.getD_eq_getD_getElem?] at this hnl
      rw [Array.getElem?_eq_getElem hlt'] at this hnl
      simp only [Option.getD_some] at this hnl
      rw [this] at hnl; cases hnl
     have hpair := vg hji hlist hna
     refine ⟨?_, ?_, fun x hx => ?_⟩
     ·exact List.any_eq_true.2 ⟨_, hpair, by simp⟩
     ·exact List.any_eq_true.2 ⟨_, hpair, by simp⟩
     ·have := List.all_eq_true.1 hok1 _ hpair
      simp only [hx, hlist] at this
      simp only [Bool.or_eq_true] at this
      refine ⟨(or_assoc.1 this), fun hb => ?_, fun hb => ?_, fun hb => ?_, fun hb => ?_, fun hb => ?_, fun hb => ?_, fun hb => ?_, fun hb => ?_, fun hb => ?_, fun hb => ?_⟩
      ·have h2 := List.all_eq_true.1 hb _ hpair
       simp only [xj, hlist, Nat.beq_refl, Bool.not_true, Bool.false_or, Bool.and_eq_true] at h2
       exact h2.1
      ·have h2 := List.all_eq_true.1 hb _ hpair
       simp only [xj, hx, Nat.beq_refl, Bool.not_true, Bool.false_or, Bool.and_eq_true] at h2
       exact h2.2
      ·have h2 := List.all_eq_true.1 hb _ hpair
       simp only [xi, hlist, Nat.beq_refl, Bool.not_true, Bool.false_or, Bool.and_eq_true] at h2
       exact h2.1
      ·have h2 := List.all_eq_true.1 hb _ hpair
       simp only [xi, hx, Nat.beq_refl, Bool.not_true, Bool.false_or, Bool.and_eq_true] at h2
       exact h2.2
      ·have h2 := List.all_eq_true.1 hb _ hpair
       simp only [rz, hlist, Nat.beq_refl, Bool.not_true, Bool.false_or, Bool.and_eq_true] at h2
       exact h2.1
      ·have h2 := List.all_eq_true.1 hb _ hpair
       simp only [rz, hx, Nat.beq_refl, Bool.not_true, Bool.false_or, Bool.and_eq_true] at h2
       exact h2.2
      ·have h2 := List.all_eq_true.1 hb _ hpair
       simp only [ov, hlist, Nat.beq_refl, Bool.not_true, Bool.false_or, Bool.and_eq_true] at h2
       exact h2.1
      ·have h2 := List.all_eq_true.1 hb _ hpair
       simp only [ov, hx, Nat.beq_refl, Bool.not_true, Bool.false_or, Bool.and_eq_true] at h2
       exact h2.2
      ·refine List.any_eq_true.2 ⟨_, hpair, ?_⟩
       simp [ow, hlist, hb]
      ·refine List.any_eq_true.2 ⟨_, hpair, ?_⟩
       simp [ow, hx, hb]
    obtain ⟨s1, hg, _, hrun'⟩ := Run.pull hlist hrun hap (hrel.there o)
    refine JD hnp ht hoc ho hrel hg fun hd' a' w' hrel' => ?_
    have hlen : (L1 ++ L2).length = n := by simp only [List.length_append, List.length_cons] at hn ⊢; omega
    refine ih (L1 ++ L2) _ hd' s1 a' w' hlen (by simp [hs]) ?_ ?_ ?_ ?_ hrel' hrun'
    ·rw [List.pairwise_append] at hp ⊢
     refine ⟨hp.1, (List.pairwise_cons.1 hp.2.1).2, fun x hx y hy => hp.2.2 x hx y (by simp [hy])⟩
    ·intro j hj
     have hij : i ∉ L1 ∧ i ∉ L2 := by
      rw [List.pairwise_append] at hp
      refine ⟨fun hm => ?_, fun hm => ?_⟩
      ·exact absurd (hp.2.2 i hm i (by simp)) (Nat.lt_irrefl _)
      ·exact absurd ((List.pairwise_cons.1 hp.2.1).1 i hm) (Nat.lt_irrefl _)
     have hlj := hl j hj
     by_cases e : j = i
     ·subst e
      constructor
      ·intro hc
       rw [Array.getD_eq_getD_getElem?, Array.getElem?_setIfInBounds] at hc
       simp [hs, hi'] at hc
      ·intro hm
       rcases List.mem_append.1 hm with h1 | h1
       ·exact absurd h1 hij.1
       ·exact absurd h1 hij.2
     ·rw [Array.getD_eq_getD_getElem?, Array.getElem?_setIfInBounds, if_neg (fun h => e h.symm), ← Array.getD_eq_getD_getElem?, hlj]
      simp [e]
    ·intro j hj
     refine hlt j ?_
     rcases List.mem_append.1 hj with h1 | h1
     ·exact List.mem_append_left _ h1
     ·exact List.mem_append_right _ (List.mem_cons_of_mem _ h1)
    ·have up : ∀ y, listed.getD y false = true → (listed.setIfInBounds i true).getD y false = true := by
      intro y hy
      rw [Array.getD_eq_getD_getElem?] at hy ⊢
      rw [Array.getElem?_setIfInBounds]
      split
      ·rename_i e
       split
       ·rfl
       ·rename_i hge
        rw [← e] at hy
        rw [Array.getElem?_eq_none (by omega)] at hy
        exact hy
      ·exact hy
     intro x o' hx hlx e he hb
     by_cases e1 : x = i
     ·subst e1
      rw [ho] at hx; cases hx
      exact up _ (hafter e he hb)
     ·refine up _ (hcl x o' hx ?_ e he hb)
      rw [Array.getD_eq_getD_getElem?, Array.getElem?_setIfInBounds, if_neg (fun h => e1 h.symm), ← Array.getD_eq_getD_getElem?] at hlx
      exact hlx
 refine main ops.size (List.range' 0 ops.size) _ hd st a _ (by simp) (by simp) (by rw [← List.range_eq_range']; exact List.pairwise_lt_range) ?_ (by simp) ?_ h0 (by simpa using hrun)
 ·intro i hi
  rw [Array.getD_eq_getD_getElem?, Array.getElem?_replicate]
  simp [hi]
 ·intro x o _ hx
  rw [Array.getD_eq_getD_getElem?, Array.getElem?_replicate] at hx
  split at hx <;> simp at hx
end
end Go.V
end
section
namespace Go.V
open Go Go.RowKit
set_option linter.unusedVariables false
set_option linter.unusedSimpArgs false
def QS : Ex → Exit
 | .normal => .normal
 | .exit id => .exit id
 | .ret => .ret
section
variable {P : Program} {E : En} {R : Type} {w0 : World} {M : Mo} {X : Nat → Prop} {hd : Nat → Value} {st s : St} {a : Act} {w w' : World} {r : R}
def Oq (w0 : World) (M : Mo) (X : Nat → Prop) (k : Ex → St → Option R) (r : R) (Q : Exit → Act → World → Prop) : Prop :=
 ∀ e st hd a w, Rel w0 M X hd st a w → k e st = some r → Q (QS e) a w
theorem Jx (hnp : M.np ≤ E.pin) (ht : ek P E.tb) (hoc : fX P E.orc) (hmix : P.follows .mixedOrders = true) : ∀ (c : Code) (cur : Nat) {hd : Nat → Value} {st : St} {a : Act} {w : World} {k : Ex → St → Option R} {Q : Exit → Act → World → Prop},
  Rel w0 M X hd st a w → Oq w0 M X k r Q → ga E c cur st k = some r → c.wp P Q a w := by
 intro c
 induction c with
 | skip => intro cur hd st a w k Q h hk hr; exact wp_skip (hk .normal _ _ _ _ h hr)
 | region id ops draw =>
  intro cur hd st a w k Q h hk hr
  have hk' : Next w0 M X (fun st => k .normal st) r fun a w => Q .normal a w := fun st hd a w h e => hk .normal _ _ _ _ h e
  cases draw with
  | false => exact FP hnp ht hoc h hk' hr
  | true =>
   have hr : (match xa ops.toList, we (E.dr id) st with
    | true, some st => qS E (BF E id ops.toList) ops.toList ops.toList 0 [] st fun st => k .normal st
    | _, _ => none) = some r := hr
   split at hr
   ·rename_i st1 hok hp
    obtain ⟨hd1, h1⟩ := tU h hp
    exact JA hnp ht hoc hmix h1 hk' hok hr
   ·cases hr
 | seq x y ihx ihy =>
  intro cur hd st a w k Q h hk hr
  refine wp_seq (ihx cur h ?_ hr)
  intro e st hd a w h hr
  cases e with
  | normal => exact ihy cur h hk hr
  | exit id => exact hk (.exit id) _ _ _ _ h hr
  | ret => exact hk .ret _ _ _ _ h hr
 | cond c x y ihx ihy =>
  intro cur hd st a w k Q h hk hr
  obtain ⟨t, hc, hr⟩ := oq (de h c) hr
  refine wp_cond hc ?_
  cases t with
  | true => exact ihx cur h hk hr
  | false => exact ihy cur h hk hr
 | block id c ih =>
  intro cur hd st a w k Q h hk hr
  refine wp_block (ih id h ?_ hr)
  intro e st hd a w h hr
  cases e with
  | normal => exact hk .normal _ _ _ _ h hr
  | exit id' =>
   have hr : (match Nat.beq id' id with | true => k .normal st | false => k (.exit id') st) = some r := hr
   show (if id' = id then Q .normal a w else Q (.exit id') a w)
   split at hr
   ·rename_i he
    rw [if_pos (Nat.eq_of_beq_eq_true he)]
    exact hk .normal _ _ _ _ h hr
   ·rename_i he
    rw [if_neg (fun e => by rw [e, Nat.beq_refl] at he; cases he)]
    exact hk (.exit id') _ _ _ _ h hr
  | ret => exact hk .ret _ _ _ _ h hr
 | loop c ih =>
  intro cur hd st a w k Q h hk hr
  have hr : (match norm E.pin (E.lv cur) st with
   | none => none
   | some st => qs (norm E.pin (E.lv cur)) (ga E c cur) k E.K st) = some r := hr
  split at hr
  ·cases hr
  ·rename_i st1 hn
   obtain ⟨hd1, h1⟩ := Ed hnp h hn
   refine wp_loop_rounds E.K ?_
   have key : ∀ (n : Nat) (hd : Nat → Value) (st : St) (a : Act) (w : World), Rel w0 M X hd st a w → qs (norm E.pin (E.lv cur)) (ga E c cur) k n st = some r → Code.rounds P c Q n a w := by
    intro n
    induction n with
    | zero => intro hd st a w _ hr; cases hr
    | succ n ihn =>
     intro hd st a w h hr
     rw [rounds_succ]
     refine ih cur h ?_ (show ga E c cur st (yy (norm E.pin (E.lv cur)) k (qs (norm E.pin (E.lv cur)) (ga E c cur) k n)) = some r from hr)
     intro e st hd a w h hr
     cases e with
     | normal =>
      have hr : (match norm E.pin (E.lv cur) st with | none => none | some st => qs (norm E.pin (E.lv cur)) (ga E c cur) k n st) = some r := hr
      split at hr
      ·cases hr
      ·rename_i st2 hn2
       obtain ⟨hd2, h2⟩ := Ed hnp h hn2
       exact ihn hd2 st2 a w h2 hr
     | exit id => exact hk (.exit id) _ _ _ _ h hr
     | ret => exact hk .ret _ _ _ _ h hr
   exact key E.K hd1 st1 a w h1 hr
 | exit id => intro cur hd st a w k Q h hk hr; exact wp_exit (hk (.exit id) _ _ _ _ h hr)
 | ret => intro cur hd st a w k Q h hk hr; exact wp_ret (hk .ret _ _ _ _ h hr)
 | _ => intro cur hd st a w k Q h hk hr; cases hr
def OQ (us : List Value) (b : Nat) (j : Nat) : Value := if b ≤ j then us.getD (j - b) (.slice none 0 0) else .slice none 0 0
def cg : List D1 → Nat
 | [] => 0
 | .own .. :: ds => cg ds + 1
 | .cel _ :: ds => cg ds + 1
 | .dat _ :: ds => cg ds
theorem kO : ∀ ds : List D1, (ds.filter (·.cM)).length = cg ds
 | [] => rfl
 | .own e t :: ds => by rw [List.filter_cons_of_pos (by rfl), List.length_cons, kO ds]; rfl
 | .cel t :: ds => by rw [List.filter_cons_of_pos (by rfl), List.length_cons, kO ds]; rfl
 | .dat t :: ds => by rw [List.filter_cons_of_neg (by simp [D1.cM]), kO ds]; rfl
theorem J0 : ∀ {ds : List D1} {x : cO ds} {b : Nat} {cells : List AV} {heap : List (Nat × Blk)}, CL b ds x = some (cells, heap) → ∀ j blk, look heap j = some blk → b ≤ j := by
 have one : ∀ {d : D1} {x : d.den} {b : Nat} {c : AV} {heap : List (Nat × Blk)}, z6 b d x = some (c, heap) → ∀ j blk, look heap j = some blk → b ≤ j := by
  intro d x b c heap h j blk hl
  cases d with
  | dat t =>
   have h : (match cj t x with | [v] => some (v, []) | _ => none) = some (c, heap) := h
   split at h
   ·cases h; cases hl
   ·cases h
  | own e t =>
   have h : some (AV.own b, [(b, Blk.flat e t x)]) = some (c, heap) := h
   cases h
   rw [bg] at hl
   split at hl
   ·rename_i e'; omega
   ·cases hl
  | cel t =>
   have h : some (AV.box b 0, [(b, Blk.cells (cj t x))]) = some (c, heap) := h
   cases h
   rw [bg] at hl
   split at hl
   ·rename_i e'; omega
   ·cases hl
 intro ds
 induction ds with
 | nil => intro x b cells heap h j blk hl; cases (show some ([], []) = some (cells, heap) from h); cases hl
 | cons d ds ih =>
  intro x b cells heap h j blk hl
  cases ds with
  | nil =>
   have h : (match z6 b d x with | some (v, h) => some ([v], h) | none => none) = some (cells, heap) := h
   split at h
   ·rename_i c h1 h2
    cases h
    exact one h2 j blk hl
   ·cases h
  | cons d' ds =>
   have h : (match z6 b d x.1 with
    | some (v, h) => match CL (match d.cM with | true => b + 1 | false => b) (d' :: ds) x.2 with
     | some (vs, h') => some (v :: vs, h ++ h')
     | none => none
    | none => none) = some (cells, heap) := h
   split at h
   ·rename_i c h1 hp1
    split at h
    ·rename_i cs h2 hp2
     cases h
     rw [bZ] at hl
     split at hl
     ·rename_i v hv; exact one hp1 j v hv
     ·have := ih hp2 j blk hl
      split at this <;> omega
    ·cases h
   ·cases h
theorem yp {N : Nat → Prop} {f : Nat → Option Blk} {hd : Nat → Value} : ∀ {ds : List D1} {x : cO ds} {vs : List Value} {b : Nat} {cells : List AV} {heap : List (Nat × Blk)}, PL w N ds x vs → CL b ds x = some (cells, heap) →
  (∀ i u, (dB ds vs)[i]? = some u → hd (b + i) = u) → (∀ j blk, look heap j = some blk → f j = some blk) →
  bH (R1 ⟨w, N, hd, f⟩) cells vs ∧ (∀ j blk, look heap j = some blk → b ≤ j ∧ j < b + cg ds ∧ RB ⟨w, N, hd, f⟩ j blk) ∧ (∀ i, i < cg ds → ∃ blk, look heap (b + i) = some blk) ∧ (dB ds vs).length = cg ds := by
 have one : ∀ {d : D1} {x : d.den} {v : Value} {b : Nat} {c : AV} {heap : List (Nat × Blk)}, P1 w N d x v → z6 b d x = some (c, heap) → (∀ i u, (dB [d] [v])[i]? = some u → hd (b + i) = u) → (∀ j blk, look heap j = some blk → f j = some blk) →
   R1 ⟨w, N, hd, f⟩ c v ∧ (∀ j blk, look heap j = some blk → b ≤ j ∧ j < b + cg [d] ∧ RB ⟨w, N, hd, f⟩ j blk) ∧ (∀ i, i < cg [d] → ∃ blk, look heap (b + i) = some blk) := by
  intro d x v b c heap hp hpar hhd hf
  cases d with
  | dat t =>
   have hpar : (match cj t x with | [v] => some (v, []) | _ => none) = some (c, heap) := hpar
   split at hpar
   ·rename_i u hu
    cases hpar
    have hc := cU (c := ⟨w, N, hd, f⟩) (show Rc w N t x [v] from hp)
    rw [hu] at hc
    exact ⟨R1.of0 hc.1, (fun j blk h => by cases h), fun i hi => absurd hi (Nat.not_lt_zero _)⟩
   ·cases hpar
  | own e t =>
   have hpar : some (AV.own b, [(b, Blk.flat e t x)]) = some (c, heap) := hpar
   cases hpar
   obtain ⟨xs, ho, hE⟩ := hp
   have h0 : hd b = v := by simpa using hhd 0 v rfl
   have hlook : look [(b, Blk.flat e t x)] b = some (.flat e t x) := by rw [bg, if_pos rfl]
   refine ⟨⟨h0.symm, mb ho, .flat e t x, e, t, _, hf b _ hlook, rfl⟩, ?_, ?_⟩
   ·intro j blk hl
    rw [bg] at hl
    split at hl
    ·rename_i e'
     cases hl
     subst e'
     exact ⟨Nat.le_refl _, by simp [cg], xs, by show w.ownsRow 0 e t.size (hd j) _ _; rw [h0]; exact ho, hE⟩
    ·cases hl
   ·intro i hi
    simp [cg] at hi
    subst hi
    exact ⟨_, hlook⟩
  | cel t =>
   have hpar : some (AV.box b 0, [(b, Blk.cells (cj t x))]) = some (c, heap) := hpar
   cases hpar
   obtain ⟨r, vs, e, hv, hheap, hpos, hrc⟩ := hp
   have h0 : hd b = v := by simpa using hhd 0 v rfl
   have hlook : look [(b, Blk.cells (cj t x))] b = some (.cells (cj t x)) := by rw [bg, if_pos rfl]
   have hc := cU (c := ⟨w, N, hd, f⟩) hrc
   have hlen := hc.length
   refine ⟨⟨.cells (cj t x), _, r, hf b _ hlook, rfl, by rw [hlen, hrc.length]; exact hpos, h0.trans hv, hv⟩, ?_, ?_⟩
   ·intro j blk hl
    rw [bg] at hl
    split at hl
    ·rename_i e'
     cases hl
     subst e'
     exact ⟨Nat.le_refl _, by simp [cg], r, vs, e, h0.trans hv, hheap, hc.mono fun _ _ => R1.of0⟩
    ·cases hl
   ·intro i hi
    simp [cg] at hi
    subst hi
    exact ⟨_, hlook⟩
 intro ds
 induction ds with
 | nil =>
  intro x vs b cells heap hp hpar hhd hf
  have hp : vs = [] := hp
  subst hp
  have hpar : some ([], []) = some (cells, heap) := hpar
  cases hpar
  exact ⟨trivial, (fun j blk h => by cases h), (fun i hi => absurd hi (Nat.not_lt_zero _)), rfl⟩
 | cons d ds ih =>
  intro x vs b cells heap hp hpar hhd hf
  cases ds with
  | nil =>
   obtain ⟨v, rfl, hp⟩ := hp
   have hpar : (match z6 b d x with | some (v, h) => some ([v], h) | none => none) = some (cells, heap) := hpar
   split at hpar
   ·rename_i c h hpar1
    cases hpar
    obtain ⟨q1, q2, q3⟩ := one hp hpar1 hhd hf
    exact ⟨⟨q1, trivial⟩, q2, q3, by cases d <;> rfl⟩
   ·cases hpar
  | cons d' ds =>
   obtain ⟨v, us, rfl, hp1, hp2⟩ := hp
   have hpar : (match z6 b d x.1 with
    | some (v, h) => match CL (match d.cM with | true => b + 1 | false => b) (d' :: ds) x.2 with
     | some (vs, h') => some (v :: vs, h ++ h')
     | none => none
    | none => none) = some (cells, heap) := hpar
   split at hpar
   ·rename_i c h1 hpar1
    split at hpar
    ·rename_i cs h2 hpar2
     cases hpar
     have e1 : dB (d :: d' :: ds) (v :: us) = dB [d] [v] ++ dB (d' :: ds) us := by cases d <;> rfl
     have e2 : (match d.cM with | true => b + 1 | false => b) = b + cg [d] := by cases d <;> rfl
     have e3 : cg (d :: d' :: ds) = cg [d] + cg (d' :: ds) := by cases d <;> simp [cg] <;> omega
     have e4 : (dB [d] [v]).length = cg [d] := by cases d <;> rfl
     rw [e2] at hpar2
     obtain ⟨q1, q2, q3⟩ := one hp1 hpar1 (fun i u hu => hhd i u (by rw [e1, List.getElem?_append_left (by obtain ⟨h, _⟩ := List.getElem?_eq_some_iff.1 hu; exact h)]; exact hu))
      (fun j blk hl => hf j blk (by rw [bZ, hl]))
     have hlk : ∀ j blk, look h2 j = some blk → b + cg [d] ≤ j → look (h1 ++ h2) j = some blk := by
      intro j blk hl hj
      rw [bZ]
      split
      ·rename_i v hv
       have := (q2 j v hv).2.1
       omega
      ·exact hl
     -- rows of the rest lie behind
     have hge : ∀ j blk, look h2 j = some blk → b + cg [d] ≤ j := J0 hpar2
     obtain ⟨p1, p2, p3, p4⟩ := ih (b := b + cg [d]) hp2 hpar2 (fun i u hu => by
       have := hhd (cg [d] + i) u (by rw [e1, List.getElem?_append_right (by omega), e4, Nat.add_sub_cancel_left]; exact hu)
       rw [Nat.add_assoc]; exact this) (fun j blk hl => hf j blk (hlk j blk hl (hge j blk hl)))
     refine ⟨⟨q1, p1⟩, ?_, ?_, by rw [e1, List.length_append, e4, p4, e3]⟩
     ·intro j blk hl
      rw [bZ] at hl
      split at hl
      ·rename_i v hv
       cases hl
       obtain ⟨r1, r2, r3⟩ := q2 j _ hv
       exact ⟨r1, by rw [e3]; omega, r3⟩
      ·obtain ⟨r1, r2, r3⟩ := p2 j blk hl
       exact ⟨by omega, by rw [e3]; omega, r3⟩
     ·intro i hi
      rw [e3] at hi
      by_cases hlt : i < cg [d]
      ·obtain ⟨blk, hb⟩ := q3 i hlt
       exact ⟨blk, by rw [bZ, hb]⟩
      ·obtain ⟨blk, hb⟩ := p3 (i - cg [d]) (by omega)
       rw [show b + cg [d] + (i - cg [d]) = b + i by omega] at hb
       exact ⟨blk, hlk _ _ hb (by omega)⟩
    ·cases hpar
   ·cases hpar
end
end Go.V
end
section
namespace Go.V
open Go Go.RowKit
set_option linter.unusedVariables false
set_option linter.unusedSimpArgs false
section
variable {P : Program} {E : En} {w0 : World} {M : Mo} {X : Nat → Prop} {hd : Nat → Value} {st s : St} {a : Act} {w w' : World}
def ud (tmps : Array Value) : ResultVar → Sem Value
 | .tmp t => pure (tmps.getD t undef)
 | .cell a t => do loadVar t (← asAddr (tmps.getD a undef))
theorem CS (ht : ek P E.tb) (h : Rel w0 M X hd st a w) {rv : ResultVar} {v : AV} (hr : yx E st rv = some v) : ∃ u, (ud a.tmps rv).run P w = .ok u w ∧ Rt (st.cx X hd w) v u := by
 cases rv with
 | tmp t =>
  cases (show some (st.get t).settle = some v from hr)
  exact ⟨_, rfl, (h.tmps t).settle⟩
 | cell b t =>
  have hr : (match E.tb t with
   | some i => match lR st i.size (st.get b) with
    | some cs => valOf i cs
    | none => none
   | none => none) = some v := hr
  split at hr
  ·rename_i i hi
   obtain ⟨en⟩ := ht.entry hi
   split at hr
   ·rename_i cs hcs
    obtain ⟨ad, vs, hp, hlen, hc, ha⟩ := zM h (h.tmps b) hcs
    obtain ⟨x, hx, hxr⟩ := oS (P := P) en hlen hc ha hr
    refine ⟨x, ?_, hxr⟩
    unfold ud
    simp [hp, asAddr, hx]
   ·cases hr
  ·cases hr
theorem qC (ht : ek P E.tb) (h : Rel w0 M X hd st a w) : ∀ {rs : List ResultVar} {vs : List AV}, mh E st rs = some vs → ∃ us, (rs.mapM (ud a.tmps)).run P w = .ok us w ∧ bH (Rt (st.cx X hd w)) vs us
 | [], vs, hr => by cases (show some [] = some vs from hr); exact ⟨[], rfl, trivial⟩
 | rv :: rs, vs, hr => by
  have hr : (match yx E st rv with
   | some v => match mh E st rs with
    | some vs => some (v :: vs)
    | none => none
   | none => none) = some vs := hr
  split at hr
  ·rename_i v hv
   split at hr
   ·rename_i vs' hvs
    cases hr
    obtain ⟨u, h1, h2⟩ := CS ht h hv
    obtain ⟨us, h3, h4⟩ := qC ht h hvs
    exact ⟨u :: us, by simp [List.mapM_cons, h1, h3], h2, h4⟩
   ·cases hr
  ·cases hr
theorem CT (fn : Func) (tmps : Array Value) : results fn tmps = (do let vs ← fn.results.mapM (ud tmps); pure (if h : vs.size = 1 then vs[0] else .tuple vs)) := by
 unfold results
 congr 1
theorem Ai {fn : Func} {us : List Value} (h : (fn.results.toList.mapM (ud a.tmps)).run P w = .ok us w) : ∃ v, (results fn a.tmps).run P w = .ok v w ∧ Da v us := by
 rw [CT, Array.mapM_eq_mapM_toList]
 simp only [Sem.run_bind, Sem.run_map, h, Result.andThen_ok, Sem.run_pure]
 match us with
 | [] => exact ⟨_, rfl, rfl⟩
 | [u] => exact ⟨_, rfl, rfl⟩
 | u :: u' :: us => exact ⟨_, by simp, rfl⟩
theorem uk : ∀ (vs : List AV) (i t : Nat), bX (o0 i vs) t = if i ≤ t then vs.getD (t - i) .undef else .undef
 | [], i, t => by simp [o0, bX, look]
 | v :: vs, i, t => by
  have := uk vs (i + 1) t
  unfold bX at this ⊢
  rw [o0, bg]
  by_cases e : t = i
  ·subst e; simp
  ·rw [if_neg e, this]
   by_cases h1 : i ≤ t
   ·rw [if_pos (by omega), if_pos h1, show t - i = (t - (i + 1)) + 1 by omega]
    simp
   ·rw [if_neg (by omega), if_neg h1]
theorem ja : ∀ {ds : List D1} {vs : List Value} {r : Nat}, r ∈ bo ds vs ↔ ∃ v ∈ dB ds vs, az v = some r
 | [], vs, r => by simp [bo, dB]
 | .own e t :: ds, [], r => by simp [bo, dB]
 | .dat t :: ds, [], r => by simp [bo, dB]
 | .dat t :: ds, v :: vs, r => by
  show r ∈ bo ds vs ↔ ∃ u ∈ dB ds vs, az u = some r
  exact ja
 | .own e t :: ds, v :: vs, r => by
  have ih := ja (ds := ds) (vs := vs) (r := r)
  cases hb : az v with
  | none =>
   simp only [bo, hb, dB, List.mem_cons]
   rw [ih]
   constructor
   ·rintro ⟨u, hu, h⟩; exact ⟨u, .inr hu, h⟩
   ·rintro ⟨u, rfl | hu, h⟩
    ·rw [hb] at h; cases h
    ·exact ⟨u, hu, h⟩
  | some q =>
   simp only [bo, hb, dB, List.mem_cons]
   rw [ih]
   constructor
   ·rintro (rfl | ⟨u, hu, h⟩)
    ·exact ⟨v, .inl rfl, hb⟩
    ·exact ⟨u, .inr hu, h⟩
   ·rintro ⟨u, rfl | hu, h⟩
    ·rw [hb] at h; cases h; exact .inl rfl
    ·exact .inr ⟨u, hu, h⟩
 | .cel t :: ds, [], r => by simp [bo, dB]
 | .cel t :: ds, v :: vs, r => by
  have ih := ja (ds := ds) (vs := vs) (r := r)
  cases hb : az v with
  | none =>
   simp only [bo, hb, dB, List.mem_cons]
   rw [ih]
   constructor
   ·rintro ⟨u, hu, h⟩; exact ⟨u, .inr hu, h⟩
   ·rintro ⟨u, rfl | hu, h⟩
    ·rw [hb] at h; cases h
    ·exact ⟨u, hu, h⟩
  | some q =>
   simp only [bo, hb, dB, List.mem_cons]
   rw [ih]
   constructor
   ·rintro (rfl | ⟨u, hu, h⟩)
    ·exact ⟨v, .inl rfl, hb⟩
    ·exact ⟨u, .inr hu, h⟩
   ·rintro ⟨u, rfl | hu, h⟩
    ·rw [hb] at h; cases h; exact .inl rfl
    ·exact .inr ⟨u, hu, h⟩
theorem oI : ∀ {ds : List D1} {vs : List Value} {i j : Nat} {u v : Value} {r : Nat}, (bo ds vs).Nodup → (dB ds vs)[i]? = some u → (dB ds vs)[j]? = some v → az u = some r → az v = some r → i = j
 | [], vs, i, j, u, v, r, _, h, _, _, _ => by simp [dB] at h
 | .own e t :: ds, [], i, j, u, v, r, _, h, _, _, _ => by simp [dB] at h
 | .dat t :: ds, [], i, j, u, v, r, _, h, _, _, _ => by simp [dB] at h
 | .dat t :: ds, x :: vs, i, j, u, v, r, hn, h1, h2, h3, h4 => oI (ds := ds) hn h1 h2 h3 h4
 | .own e t :: ds, x :: vs, i, j, u, v, r, hn, h1, h2, h3, h4 => by
  have hn' : (bo ds vs).Nodup := by
   cases hb : az x with
   | none => simpa only [bo, hb] using hn
   | some q => simp only [bo, hb] at hn; exact (List.nodup_cons.1 hn).2
  have far : ∀ {k : Nat} {y : Value}, (dB ds vs)[k]? = some y → az y = some r → az x = some r → False := by
   intro k y hk hy hx
   simp only [bo, hx] at hn
   exact (List.nodup_cons.1 hn).1 (ja.2 ⟨y, List.mem_of_getElem? hk, hy⟩)
  simp only [dB] at h1 h2
  cases i with
  | zero => cases j with
   | zero => rfl
   | succ j =>
    simp at h1 h2
    subst h1
    exact (far h2 h4 h3).elim
  | succ i => cases j with
   | zero =>
    simp at h1 h2
    subst h2
    exact (far h1 h3 h4).elim
   | succ j =>
    simp at h1 h2
    rw [oI hn' h1 h2 h3 h4]
 | .cel t :: ds, [], i, j, u, v, r, _, h, _, _, _ => by simp [dB] at h
 | .cel t :: ds, x :: vs, i, j, u, v, r, hn, h1, h2, h3, h4 => by
  have hn' : (bo ds vs).Nodup := by
   cases hb : az x with
   | none => simpa only [bo, hb] using hn
   | some q => simp only [bo, hb] at hn; exact (List.nodup_cons.1 hn).2
  have far : ∀ {k : Nat} {y : Value}, (dB ds vs)[k]? = some y → az y = some r → az x = some r → False := by
   intro k y hk hy hx
   simp only [bo, hx] at hn
   exact (List.nodup_cons.1 hn).1 (ja.2 ⟨y, List.mem_of_getElem? hk, hy⟩)
  simp only [dB] at h1 h2
  cases i with
  | zero => cases j with
   | zero => rfl
   | succ j =>
    simp at h1 h2
    subst h1
    exact (far h2 h4 h3).elim
  | succ i => cases j with
   | zero =>
    simp at h1 h2
    subst h2
    exact (far h1 h3 h4).elim
   | succ j =>
    simp at h1 h2
    rw [oI hn' h1 h2 h3 h4]
def yi : D1 → Nat → AV
 | .own .., i => .own i
 | .cel _, i => .box i 0
 | .dat _, _ => .undef
theorem kP {c : Cx} : ∀ {ds : List D1} {i : Nat} {vs : List Value}, (∀ j d u, (ds.filter (·.cM))[j]? = some d → (dB ds vs)[j]? = some u → R1 c (yi d (i + j)) u) → vs.length = ds.length → bH (R1 c) (bp ds (jS i ds)) (dB ds vs)
 | [], _, _, _, _ => trivial
 | .own e t :: ds, i, [], _, hl => by simp at hl
 | .cel t :: ds, i, [], _, hl => by simp at hl
 | .dat t :: ds, i, [], _, hl => by simp at hl
 | .own e t :: ds, i, v :: vs, h, hl => ⟨h 0 (.own e t) v (by simp [D1.cM]) rfl, kP (i := i + 1) (fun j d u hd hu => by have := h (j + 1) d u (by simpa [D1.cM] using hd) hu; rw [show i + 1 + j = i + (j + 1) by omega]; exact this) (by simpa using hl)⟩
 | .cel t :: ds, i, v :: vs, h, hl => ⟨h 0 (.cel t) v (by simp [D1.cM]) rfl, kP (i := i + 1) (fun j d u hd hu => by have := h (j + 1) d u (by simpa [D1.cM] using hd) hu; rw [show i + 1 + j = i + (j + 1) by omega]; exact this) (by simpa using hl)⟩
 | .dat t :: ds, i, v :: vs, h, hl => kP (ds := ds) (i := i) (fun j d u hd hu => h j d u (by simpa [D1.cM] using hd) hu) (by simpa using hl)
theorem mS : ∀ {ds : List D1} {i j : Nat} {d : D1}, (ds.filter (·.cM))[j]? = some d → (bp ds (jS i ds))[j]? = some (yi d (i + j))
 | [], _, _, _, h => by simp at h
 | .own e t :: ds, i, 0, d, h => by simp [D1.cM] at h; subst h; rfl
 | .cel t :: ds, i, 0, d, h => by simp [D1.cM] at h; subst h; rfl
 | .own e t :: ds, i, j + 1, d, h => by
  have := mS (ds := ds) (i := i + 1) (j := j) (d := d) (by simpa [D1.cM] using h)
  rw [show i + (j + 1) = i + 1 + j by omega]
  exact this
 | .cel t :: ds, i, j + 1, d, h => by
  have := mS (ds := ds) (i := i + 1) (j := j) (d := d) (by simpa [D1.cM] using h)
  rw [show i + (j + 1) = i + 1 + j by omega]
  exact this
 | .dat t :: ds, i, j, d, h => mS (ds := ds) (i := i) (by simpa [D1.cM] using h)
theorem qv : ∀ {ds es : List D1} {vs us : List Value}, vs.length = ds.length → bo (ds ++ es) (vs ++ us) = bo ds vs ++ bo es us
 | [], es, [], us, _ => by simp [bo]
 | [], _, _ :: _, _, h => by simp at h
 | _ :: _, _, [], _, h => by simp at h
 | d :: ds, es, v :: vs, us, h => by
  rw [List.cons_append, List.cons_append, gh, qv (by simpa using h), gh d ds, List.append_assoc]
theorem mT : ∀ {ds : List D1} {vs : List Value}, bo (ds.filter (·.cM)) (dB ds vs) = bo ds vs
 | [], _ => by simp [bo]
 | .own e t :: ds, [] => by simp [bo, dB, List.filter_cons_of_pos, D1.cM]
 | .cel t :: ds, [] => by simp [bo, dB, List.filter_cons_of_pos, D1.cM]
 | .cel t :: ds, v :: vs => by
  rw [List.filter_cons_of_pos (by simp [D1.cM])]
  show bo (.cel t :: ds.filter (·.cM)) (v :: dB ds vs) = _
  rw [gh, mT, gh _ ds]
 | .dat t :: ds, [] => by
  rw [List.filter_cons_of_neg (by simp [D1.cM])]
  show bo _ [] = _
  simp only [bo]
  cases (ds.filter (·.cM)) with
  | nil => simp [bo]
  | cons d _ => cases d <;> simp [bo]
 | .dat t :: ds, v :: vs => by
  rw [List.filter_cons_of_neg (by simp [D1.cM])]
  exact mT (ds := ds)
 | .own e t :: ds, v :: vs => by
  rw [List.filter_cons_of_pos (by simp [D1.cM])]
  show bo (.own e t :: ds.filter (·.cM)) (v :: dB ds vs) = _
  rw [gh, mT, gh _ ds]
def Qd (E : En) (S : bD) (fn : Func) (Rf : List AV → List AV → Prop) (x : cO (flatC S.ps)) (y : cO (flatC S.rs ++ outsC S.ps)) : Prop :=
 ∃ c cells heap vs, fn.body = some c ∧ CL 0 (flatC S.ps) x = some (cells, heap) ∧ dK S.ps cells = some vs ∧ vs.length ≤ fn.ntmps ∧ E.pin = (outsC S.ps).length ∧
  ∀ vs', Rf vs vs' → ga E c 0 ⟨fn.ntmps, bX (o0 0 vs'), look heap⟩ (nH E S fn (jS 0 (flatC S.ps))) = some y
theorem vP {Rf : List AV → List AV → Prop} (hRf : ∀ {cx : Cx} {vs : List AV} {us : List Value}, bH (Ra cx) vs us → ∃ vs', Rf vs vs' ∧ bH (Ra cx) vs' us) {f : FuncId} {fn : Func} {S : bD} (hf : P.funcs[f]? = some fn) (hname : (fn.name == "runtime.NumGoroutine") = false) (ht : ek P E.tb) (hoc : fX P E.orc) (hmix : P.follows .mixedOrders = true)
  (hS : ∀ x y, S.fn x = some y → Qd E S fn Rf x y) (hb : fn.body.isSome = true) : bf P f S := by
 refine ⟨?_, ?_⟩
 ·intro args w
  have h1 : fn.name ≠ "runtime.NumGoroutine" := by simpa using hname
  obtain ⟨c, hc⟩ := Option.isSome_iff_exists.1 hb
  simp [callFunc, hf, h1, hc, mark]
 ·intro w X args cells x y hcomps hX hp hn hy
  obtain ⟨c, cellsa, heap, vs0, hc, hpar, hvs, hle1, hle2, hy⟩ := hS x y hy
  have hcl := hcomps.length
  obtain ⟨hd, hhd⟩ : ∃ hd, hd = OQ (dB (flatC S.ps) cells) 0 := ⟨_, rfl⟩
  have hdi : ∀ i u, (dB (flatC S.ps) cells)[i]? = some u → hd i = u := by
   intro i u hu
   rw [hhd]
   simp [OQ, List.getD_eq_getElem?_getD, hu]
  have held : ∀ b blk, look heap b = some blk → b < cg (flatC S.ps) := by
   intro b blk hl
   exact (Nat.zero_add (cg (flatC S.ps))) ▸ ((yp (N := fun _ => False) (f := look heap) (hd := hd) (w := w) (hp.weaken fun _ h => h.elim) hpar (fun i u hu => by rw [Nat.zero_add]; exact hdi i u hu) (fun _ _ h => h)).2.1 b blk hl).2.1
  have hlen : (dB (flatC S.ps) cells).length = cg (flatC S.ps) := (yp (N := fun _ => False) (f := look heap) (hd := hd) (w := w) (hp.weaken fun _ h => h.elim) hpar (fun i u hu => by rw [Nat.zero_add]; exact hdi i u hu) (fun _ _ h => h)).2.2.2
  have hheldB : ∀ r, je (look heap) hd r → r ∈ bo (flatC S.ps) cells := by
   rintro r ⟨b, blk, hl, hr⟩
   have hlt : b < (dB (flatC S.ps) cells).length := by rw [hlen]; exact held b blk hl
   have hbv := hdi b _ (List.getElem?_eq_getElem hlt)
   exact ja.2 ⟨_, List.getElem_mem hlt, by rw [← hbv]; exact hr⟩
  obtain ⟨q1, q2, q3, _⟩ := yp (N := fun r => X r ∨ eg (look heap) hd r) (f := look heap) (hd := hd) (w := w) (hp.weaken fun r hr => hr.imp id fun hm => hheldB r hm.held) hpar (fun i u hu => by rw [Nat.zero_add]; exact hdi i u hu) (fun _ _ h => h)
  obtain ⟨vs, hRf, q1'⟩ := hRf (iZ q1 hcomps hvs)
  have hle1 : vs.length ≤ fn.ntmps := by have := q1'.length; have := (iZ q1 hcomps hvs).length; omega
  have hy := hy vs hRf
  have h0 : Rel w ⟨(· ∈ bo (flatC S.ps) cells), (outsC S.ps).length, hd⟩ X hd ⟨fn.ntmps, bX (o0 0 vs), look heap⟩ { tmps := args.toArray ++ Array.replicate (fn.ntmps - args.toArray.size) undef, defers := [] } w := by
   have hal := q1'.length
   refine ⟨?_, rfl, ?_, fun b blk hb => (q2 b blk hb).2.2, ?_, dX.refl _ _, fun r hr => .inl (hheldB r hr), ?_, ?_⟩
   ·simp; omega
   ·intro t
    show Rt _ (bX (o0 0 vs) t) _
    rw [uk, if_pos (Nat.zero_le t), Nat.sub_zero]
    by_cases hlt : t < vs.length
    ·obtain ⟨u, hu, hr⟩ := q1'.get (i := t) (List.getElem?_eq_getElem hlt)
     have e1 : vs.getD t .undef = vs[t] := by simp [List.getD_eq_getElem?_getD, hlt]
     have e2 : (args.toArray ++ Array.replicate (fn.ntmps - args.toArray.size) undef).getD t undef = u := by
      have hlt' : t < args.length := by omega
      rw [Array.getD_eq_getD_getElem?, Array.getElem?_append_left (by simpa using hlt')]
      simp [hu]
     show Rt _ _ ((args.toArray ++ Array.replicate (fn.ntmps - args.toArray.size) undef).getD t undef)
     rw [e1, e2]
     exact Rt.ofa hr
    ·have e1 : vs.getD t .undef = .undef := by rw [List.getD_eq_getElem?_getD, List.getElem?_eq_none (by omega)]; rfl
     rw [e1]; trivial
   ·intro b b' blk blk' r hb1 hb2 hr1 hr2
    have hlt1 : b < (dB (flatC S.ps) cells).length := by rw [hlen]; exact held b blk hb1
    have hlt2 : b' < (dB (flatC S.ps) cells).length := by rw [hlen]; exact held b' blk' hb2
    have e1 := hdi b _ (List.getElem?_eq_getElem hlt1)
    have e2 := hdi b' _ (List.getElem?_eq_getElem hlt2)
    exact oI hn (List.getElem?_eq_getElem hlt1) (List.getElem?_eq_getElem hlt2) (by rw [← e1]; exact hr1) (by rw [← e2]; exact hr2)
   ·intro i hi
    refine ⟨rfl, ?_⟩
    have := q3 i (by rw [← kO]; exact hi)
    rwa [Nat.zero_add] at this
   ·intro r hr
    exact ⟨(hX r hr).1, fun hh => (hX r hr).2 (hheldB r hh)⟩
  refine calls_of_wp hf hc ?_
  refine Jx (by show (outsC S.ps).length ≤ _; omega) ht hoc hmix c 0 h0 ?_ hy
  intro e st hd' a w' h hr
  have key : ∀ fnl, (match mh E st fn.results.toList with
    | none => none
    | some vs => match nk S.rs vs with
     | none => none
     | some cs => match nT st (flatC S.rs ++ outsC S.ps) (cs ++ bp (flatC S.ps) (jS 0 (flatC S.ps))) with
      | some _ => dM st (flatC S.rs ++ outsC S.ps) (cs ++ bp (flatC S.ps) (jS 0 (flatC S.ps)))
      | none => none) = some y → (fnl = Exit.normal ∨ fnl = Exit.ret) → bodyPost P fn (fun e w' => ∃ v vs rcells, e = .returned v ∧ Da v vs ∧ gu S.rs vs rcells ∧ dX w w' (· ∈ bo (flatC S.ps) cells) ∧
   PL w' (fun r => X r ∨ r ∈ bo (flatC S.ps) cells ∨ r ∈ bo (flatC S.rs) rcells) (flatC S.rs ++ outsC S.ps) y (rcells ++ dB (flatC S.ps) cells) ∧
   (bo (flatC S.rs) rcells).Nodup ∧ ∀ r ∈ bo (flatC S.rs) rcells, w.heap.size ≤ r) fnl a w' := by
   intro fnl hr hfnl
   split at hr
   ·cases hr
   ·rename_i vs1 hvs1
    split at hr
    ·cases hr
    ·rename_i cs hcs
     split at hr
     ·rename_i rch hsep
      obtain ⟨us, hus, hra⟩ := qC ht h hvs1
      obtain ⟨v, hv, hg⟩ := Ai hus
      obtain ⟨vcells, hcv, hcr⟩ := sZ hra hcs
      have hown : bH (R1 (st.cx X hd' w')) (bp (flatC S.ps) (jS 0 (flatC S.ps))) (dB (flatC S.ps) cells) := by
       refine kP ?_ hcl
       intro j d u hdj hu
       rw [Nat.zero_add]
       have hj : j < (outsC S.ps).length := (List.getElem?_eq_some_iff.1 hdj).1
       obtain ⟨p1, blk, p2⟩ := h.pins j hj
       have p1 : hd' j = u := p1.trans (hdi j u hu)
       have hn0 : (bp (flatC S.ps) (jS 0 (flatC S.ps)))[j]? = some (yi d j) := by have := mS (i := 0) hdj; rwa [Nat.zero_add] at this
       have hisown : d.cM = true := (List.mem_filter.1 (List.mem_of_getElem? hdj)).2
       have hlen2 : cs.length = (flatC S.rs).length := (hcr.length).trans hcv.length
       have hz : (d, yi d j) ∈ (flatC S.rs ++ outsC S.ps).zip (cs ++ bp (flatC S.ps) (jS 0 (flatC S.ps))) := by
        rw [List.zip_append hlen2.symm]
        refine List.mem_append_right _ ?_
        exact List.mem_of_getElem? (i := j) (by rw [List.getElem?_zip_eq_some]; exact ⟨hdj, hn0⟩)
       obtain ⟨_, blk', q1, q2⟩ := Hm (d := d) hr hz hisown (c := j) (by cases d <;> first | rfl | cases hisown)
       rw [p2] at q1
       cases q1
       have hrb := h.blocks j blk p2
       cases d with
       | dat t => cases hisown
       | own e t =>
        obtain ⟨l, rfl⟩ := q2
        obtain ⟨xs, ho, _⟩ := hrb
        exact ⟨p1.symm, by rw [← p1]; exact mb ho, _, e, t, _, p2, rfl⟩
       | cel t =>
        obtain ⟨cs', rfl, hl', hpos⟩ := q2
        obtain ⟨r, vs', e, hh, _, _⟩ := hrb
        exact ⟨_, _, r, p2, rfl, by rw [hl']; exact hpos, hh, p1.symm.trans hh⟩
      have ha := hcr.append hown
      obtain ⟨s1, s2, s3, s4⟩ := Eu hsep
      have hin := rE h ha hr
      have hnd := tL h ha hr s3
      have eB : bo (flatC S.rs ++ outsC S.ps) (vcells ++ dB (flatC S.ps) cells) = bo (flatC S.rs) vcells ++ bo (flatC S.ps) cells := by
       rw [qv hcv.length]
       congr 1
       exact mT
      rw [eB] at hin hnd
      have hclear : Clear st X hd' w' (fun r => X r ∨ r ∈ bo (flatC S.ps) cells ∨ r ∈ bo (flatC S.rs) vcells) (fun b => b ∈ rch ∧ ∃ blk, st.find b = some blk) := by
       have hmem : ∀ q, (q ∈ bo (flatC S.ps) cells ∨ q ∈ bo (flatC S.rs) vcells) → q ∈ bo (flatC S.rs) vcells ++ bo (flatC S.ps) cells := fun q hq => List.mem_append.2 hq.symm
       refine ⟨?_, ?_, ?_⟩
       ·rintro q (hq | hq)
        ·exact .inl hq
        ·obtain ⟨b, _, ⟨blk, hf, hlv⟩, hb⟩ := hin q (hmem q hq)
         exact .inr ⟨b, _, hf, hlv, hb⟩
       ·rintro b q ⟨hb, blk, hf⟩ hq (hx' | hx')
        ·exact (h.m7 q hx').2 ⟨b, blk, hf, hq⟩
        ·obtain ⟨b', hb', ⟨blk', hf', _⟩, hq'⟩ := hin q (hmem q hx')
         have := h.inj b b' _ _ q hf hf' hq hq'
         subst this
         exact s4 b hb hb'
       ·rintro b cs ⟨hb, _⟩ hf c hc
        refine ⟨s2 b hb c (by rw [hf]; exact hc), ?_⟩
        obtain ⟨r', vs', e', _, _, hcs⟩ := h.blocks b _ hf
        exact rA hcs c hc
      have hpl := tX h hclear ha (fun b hb => ⟨s1 b hb, ff ha b hb⟩) hr
      rw [List.nodup_append] at hnd
      have hR : ∃ v' vs rcells, Ending.returned v = .returned v' ∧ Da v' vs ∧ gu S.rs vs rcells ∧ dX w w' (· ∈ bo (flatC S.ps) cells) ∧
        PL w' (fun r => X r ∨ r ∈ bo (flatC S.ps) cells ∨ r ∈ bo (flatC S.rs) rcells) (flatC S.rs ++ outsC S.ps) y (rcells ++ dB (flatC S.ps) cells) ∧
        (bo (flatC S.rs) rcells).Nodup ∧ ∀ r ∈ bo (flatC S.rs) rcells, w.heap.size ≤ r := by
       refine ⟨v, us, vcells, rfl, hg, hcv, h.frame, hpl, hnd.1, ?_⟩
       intro r hr'
       obtain ⟨b, _, ⟨blk, hf, hlv⟩, hb⟩ := hin r (List.mem_append_left _ hr')
       rcases h.BR r ⟨b, _, hf, hb⟩ with hm | hm
       ·exact absurd rfl (hnd.2.2 r hr' r hm)
       ·exact hm
      rcases hfnl with rfl | rfl <;> exact ⟨h.defers, v, hv, hR⟩
     ·cases hr
  cases e with
  | exit id => cases hr
  | normal => exact key .normal hr (.inl rfl)
  | ret => exact key .ret hr (.inr rfl)
theorem G6 {f : FuncId} {fn : Func} {S : bD} (hf : P.funcs[f]? = some fn) (hname : (fn.name == "runtime.NumGoroutine") = false) (ht : ek P E.tb) (hoc : fX P E.orc) (hmix : P.follows .mixedOrders = true)
  (hS : ∀ x y, S.fn x = some y → cc E S fn x = some y) (hb : fn.body.isSome = true) : bf P f S := by
 refine vP (Rf := Eq) (fun h => ⟨_, rfl, h⟩) hf hname ht hoc hmix ?_ hb
 intro x y hy
 have hy := hS x y hy
 unfold cc at hy
 split at hy
 ·cases hy
 ·rename_i c hc
  split at hy
  ·cases hy
  ·rename_i cellsa heap hpar
   split at hy
   ·cases hy
   ·rename_i vs hvs
    split at hy
    ·rename_i hle
     rw [Bool.and_eq_true] at hle
     refine ⟨c, cellsa, heap, vs, hc, hpar, hvs, Nat.le_of_ble_eq_true hle.1, Nat.eq_of_beq_eq_true hle.2, ?_⟩
     rintro vs' rfl
     exact hy
    ·cases hy
def KE (v v' : AV) : Prop := (v' = v ∧ ∀ t, v ≠ .dat (.list t) []) ∨ ∃ t, v = .dat (.list t) [] ∧ (v' = .nil ∨ v' = .dne t)
def Ot (vs vs' : List AV) : Prop := bH KE vs vs'
theorem Hc {cx : Cx} {v : AV} {u : Value} (h : Ra cx v u) : ∃ v', KE v v' ∧ Ra cx v' u := by
 by_cases hv : ∃ t, v = .dat (.list t) []
 ·obtain ⟨t, rfl⟩ := hv
  obtain ⟨A, cap, e, hc, hn, _⟩ := (show Rc cx.w cx.N (.list t) [] [u] from h)
  have e : u = .slice A 0 cap := by simpa using e
  cases A with
  | none =>
   have := hn rfl
   subst this
   exact ⟨.nil, .inr ⟨t, rfl, .inl rfl⟩, e⟩
  | some ad => exact ⟨.dne t, .inr ⟨t, rfl, .inr rfl⟩, ⟨ad, cap, e⟩⟩
 ·exact ⟨v, .inl ⟨rfl, fun t e => hv ⟨t, e⟩⟩, h⟩
theorem zV {cx : Cx} : ∀ {vs : List AV} {us : List Value}, bH (Ra cx) vs us → ∃ vs', Ot vs vs' ∧ bH (Ra cx) vs' us
 | [], [], _ => ⟨[], trivial, trivial⟩
 | [], _ :: _, h => h.elim
 | _ :: _, [], h => h.elim
 | v :: vs, u :: us, h => by
  obtain ⟨v', h1, h2⟩ := Hc h.1
  obtain ⟨vs', h3, h4⟩ := zV h.2
  exact ⟨v' :: vs', ⟨h1, h3⟩, ⟨h2, h4⟩⟩
theorem Jy {t t' : Ty} {l : List t.den} (e : AV.dat (.list t) l = AV.dat (.list t') []) : t' = t ∧ l = [] := by
 injection e with e1 e2
 injection e1 with e1
 subst e1
 exact ⟨rfl, eq_of_heq e2⟩
theorem FF {f : FuncId} {fn : Func} {t : Ty} {rs : List (Bool × List D1)} {F : List t.den → Option (cO (flatC rs ++ []))} {c : Code} (hf : P.funcs[f]? = some fn) (hname : (fn.name == "runtime.NumGoroutine") = false) (ht : ek P E.tb) (hoc : fX P E.orc) (hmix : P.follows .mixedOrders = true)
  (hc : fn.body = some c) (hnt : Nat.ble 1 fn.ntmps = true) (hpin : E.pin = 0)
  (h1 : ∀ l : List t.den, List.length l ≠ 0 → ga E c 0 ⟨fn.ntmps, bX [(0, .dat (.list t) l)], look []⟩ (nH E ⟨[(false, [.dat (.list t)])], rs, F⟩ fn [.undef]) = F l)
  (h2 : ga E c 0 ⟨fn.ntmps, bX [(0, .nil)], look []⟩ (nH E ⟨[(false, [.dat (.list t)])], rs, F⟩ fn [.undef]) = F [])
  (h3 : ga E c 0 ⟨fn.ntmps, bX [(0, .dne t)], look []⟩ (nH E ⟨[(false, [.dat (.list t)])], rs, F⟩ fn [.undef]) = F []) :
  bf P f ⟨[(false, [.dat (.list t)])], rs, F⟩ := by
 refine vP (Rf := Ot) zV hf hname ht hoc hmix ?_ (by rw [hc]; rfl)
 intro l y hy
 have hy : F l = some y := hy
 refine ⟨c, [.dat (.list t) l], [], [.dat (.list t) l], hc, rfl, rfl, Nat.le_of_ble_eq_true hnt, hpin, ?_⟩
 intro vs' hv
 match vs', hv with
 | [v'], hv =>
  rcases hv.1 with ⟨rfl, hne⟩ | ⟨t', e, hv'⟩
  ·have hl : List.length l ≠ 0 := by
    intro h0
    have : l = [] := List.eq_nil_of_length_eq_zero h0
    subst this
    exact hne t rfl
   exact (h1 l hl).trans hy
  ·have hh : t' = t ∧ l = [] := Jy e
   obtain ⟨rfl, e⟩ := hh
   subst e
   rcases hv' with rfl | rfl
   ·exact h2.trans hy
   ·exact h3.trans hy
end
end Go.V
end
section
namespace Go.V
open Go Go.RowKit
def rd (l : List Int) (i : Int) : Int := l.getD i.toNat 0
def cP {α : Type} (d : α) (l : List α) (i : Int) : α := l.getD i.toNat d
def bn : List (Nat × bD) → FuncId → List bD
 | [], _ => []
 | (f, S) :: l, g => match Nat.beq g f with
  | true => S :: bn l g
  | false => bn l g
def aX : List (Nat × List (Nat × List LvK)) → Nat → List (Nat × List LvK)
 | [], _ => []
 | (c, l) :: m, d => match Nat.beq d c with
  | true => l
  | false => aX m d
theorem Ej {P : Program} : fX P (bn []) := fun _ _ h => by cases h
theorem Hl {P : Program} {f : FuncId} {S : bD} {l : List (Nat × bD)} (h : bf P f S) (hl : fX P (bn l)) : fX P (bn ((f, S) :: l)) := by
 intro g S' hm
 unfold bn at hm
 split at hm
 ·rename_i e
  have e := Nat.eq_of_beq_eq_true e
  subst e
  rcases List.mem_cons.1 hm with rfl | hm
  ·exact h
  ·exact hl _ _ hm
 ·exact hl _ _ hm
theorem KZ {P : Program} : ∀ {l : List (Nat × TI)}, l.map (fun p => rn P p.1) = l.map (fun p => some p.2) → ek P (look l)
 | [], _, t, i, h => by cases h
 | (k, v) :: l, h, t, i, hi => by
  simp only [List.map_cons, List.cons.injEq] at h
  rw [bg] at hi
  split at hi
  ·rename_i e
   cases hi
   rw [e]
   exact h.1
  ·exact KZ h.2 t i hi
end Go.V
end
section
namespace Go.V
open Go Go.RowKit Go.ChangeShapes Go.WideShapes
set_option linter.unusedVariables false
set_option linter.unusedSimpArgs false
def lH : Ty → List D1
 | .unit => []
 | .pair a b => lH a ++ lH b
 | .struct t => lH t
 | t => [.dat t]
def zG : (ds es : List D1) → cO ds → cO es → cO (ds ++ es)
 | [], _, _, y => y
 | [_], [], x, _ => x
 | [_], _ :: _, x, y => (x, y)
 | _ :: d' :: ds, es, x, y => (x.1, zG (d' :: ds) es x.2 y)
def vH : (t : Ty) → t.den → cO (lH t)
 | .unit, _ => ()
 | .pair a b, x => zG (lH a) (lH b) (vH a x.1) (vH b x.2)
 | .struct t, x => vH t x
 | .int _, x => x
 | .bool, x => x
 | .str, x => x
 | .list _, x => x
 | .ptr _, x => x
 | .clo _ _, x => x
 | .map _ _, x => x
 | .optr _, x => x
def Bnd : (t : Ty) → t.den → Prop
 | .int k, n => (Lit.int k n).wf = true
 | .str, s => ByteArray.size s ≤ maxLen
 | .list t, l => List.length l ≤ maxLen ∧ ∀ a : t.den, List.Mem a l → Bnd t a
 | .pair a b, x => Bnd a x.1 ∧ Bnd b x.2
 | .struct t, x => Bnd t x
 | _, _ => True
def NI : (d : D1) → d.den → Prop
 | .dat t, x => Bnd t x
 | _, _ => True
def BL : (ds : List D1) → cO ds → Prop
 | [], _ => True
 | [d], x => NI d x
 | d :: d' :: ds, x => NI d x.1 ∧ BL (d' :: ds) x.2
section
variable {w : World} {N : Nat → Prop}
theorem PL.join : ∀ {ds es : List D1} {x : cO ds} {y : cO es} {vs us : List Value}, PL w N ds x vs → PL w N es y us → PL w N (ds ++ es) (zG ds es x y) (vs ++ us)
 | [], es, x, y, vs, us, h, k => by
  have : vs = [] := h
  subst this
  exact k
 | [d], [], x, y, vs, us, h, k => by
  have : us = [] := k
  subst this
  obtain ⟨v, rfl, h⟩ := h
  exact ⟨v, rfl, h⟩
 | [d], e :: es, x, y, vs, us, h, k => by
  obtain ⟨v, rfl, h⟩ := h
  exact ⟨v, us, rfl, h, k⟩
 | d :: d' :: ds, es, x, y, vs, us, h, k => by
  obtain ⟨v, vs', rfl, h, h'⟩ := h
  exact ⟨v, vs' ++ us, rfl, h, PL.join (ds := d' :: ds) h' k⟩
theorem BL.join : ∀ {ds es : List D1} {x : cO ds} {y : cO es}, BL ds x → BL es y → BL (ds ++ es) (zG ds es x y)
 | [], es, x, y, h, k => k
 | [d], [], x, y, h, k => h
 | [d], e :: es, x, y, h, k => ⟨h, k⟩
 | d :: d' :: ds, es, x, y, h, k => ⟨h.1, BL.join (ds := d' :: ds) h.2 k⟩
theorem oo : ∀ {t : Ty} {x : t.den} {cs : List Value}, Rc w N t x cs → PL w N (lH t) (vH t x) cs
 | .unit, _, _, h => h
 | .pair a b, x, _, ⟨c, d, e, h, k⟩ => by rw [e]; exact (oo h).join (oo k)
 | .struct t, x, _, h => oo (t := t) h
 | .int k, x, cs, h => by cases h; exact ⟨_, rfl, (rfl : [_] = [_])⟩
 | .bool, x, cs, h => by cases h; exact ⟨_, rfl, (rfl : [_] = [_])⟩
 | .str, x, cs, h => by cases h; exact ⟨_, rfl, (rfl : [_] = [_])⟩
 | .list t, x, cs, h => by
  have h' := h
  obtain ⟨A, cap, e, _⟩ := h'
  subst e
  exact ⟨_, rfl, h⟩
 | .ptr t, x, cs, h => by
  have h' := h
  obtain ⟨A, e, _⟩ := h'
  subst e
  exact ⟨_, rfl, h⟩
 | .clo f t, x, cs, h => by
  have h' := h
  obtain ⟨v, e, _⟩ := h'
  subst e
  exact ⟨_, rfl, h⟩
 | .map a b, x, cs, h => by
  have h' := h
  obtain ⟨r, es, c, e, _⟩ := h'
  subst e
  exact ⟨_, rfl, h⟩
 | .optr t, none, cs, h => by
  have h' : cs = [.pointer none] := h
  subst h'
  exact ⟨_, rfl, h⟩
 | .optr t, some y, cs, h => by
  have h' := h
  obtain ⟨a, e, _⟩ := h'
  subst e
  exact ⟨_, rfl, h⟩
theorem rq : ∀ {t : Ty} {x : t.den}, Bnd t x → BL (lH t) (vH t x)
 | .unit, _, h => trivial
 | .pair a b, x, h => (rq h.1).join (rq h.2)
 | .struct t, x, h => rq (t := t) h
 | .int k, x, h => h
 | .bool, x, h => h
 | .str, x, h => h
 | .list t, x, h => h
 | .ptr t, x, h => h
 | .clo f t, x, h => h
 | .map a b, x, h => h
 | .optr t, x, h => h
end
def rF (tb : TypeId → Option TI) (rec : TypeId → Option Ty) : List (Nat × TypeId) → Nat → Option Ty
 | [], _ => some .unit
 | (o, t) :: l, off => match rec t, tb t with
  | some s, some j => match Nat.beq o off, Nat.beq j.size s.size with
   | true, true => match rF tb rec l (off + s.size) with
    | some r => some (.pair s r)
    | none => none
   | _, _ => none
  | _, _ => none
def CO (tb : TypeId → Option TI) : Nat → TypeId → Option Ty
 | 0, _ => none
 | n + 1, t => match tb t with
  | some i => match i.tk with
   | .int k => some (.int k)
   | .bool => some .bool
   | .str => some .str
   | .slice e => match CO tb n e, tb e with
    | some s, some j => match Nat.beq j.size s.size with
     | true => some (.list s)
     | false => none
    | _, _ => none
   | .struct _ fs => match rF tb (CO tb n) fs 0 with
    | some s => match Nat.beq i.size s.size with
     | true => some (.struct s)
     | false => none
    | none => none
   | _ => none
  | none => none
section
variable {H : Type} {enc : TypeId × Value → H} {P : Program} {tb : TypeId → Option TI} {w : World} {base : Nat} {spare : Nat → Bool} {held : Bool}
theorem ie {t : TypeId} {i : TI} (en : Entry P t i) : P.cellsOf t = i.size := by
 simp [Program.cellsOf, en.hi, en.iL]
theorem z7 {rec : TypeId → Option Ty} {tbok : ek P tb} {fuel : Nat} (ih : ∀ {t : TypeId} {ty : Ty} {cs : List Value} {y : DataW H × List MemPlace}, rec t = some ty → DataW.trod enc P w base spare held fuel t cs = some y → ∃ x : ty.den, Rc w (fun _ => False) ty x cs ∧ Bnd ty x) :
  ∀ {fs : List (Nat × TypeId)} {off : Nat} {ty : Ty} {cs : List Value}, rF tb rec fs off = some ty → (∀ p ∈ fs, ∃ y, DataW.trod enc P w base spare held fuel p.2 ((cs.drop p.1).take (P.cellsOf p.2)) = some y) → cs.length = off + ty.size →
   ∃ x : ty.den, Rc w (fun _ => False) ty x (cs.drop off) ∧ Bnd ty x
 | [], off, ty, cs, h, _, hl => by
  cases h
  refine ⟨(), ?_, trivial⟩
  show cs.drop off = []
  exact List.drop_eq_nil_of_le (by simp only [Ty.size] at hl; omega)
 | (o, t) :: l, off, ty, cs, h, hr, hl => by
  unfold rF at h
  split at h
  ·rename_i s j hs hj
   split at h
   ·rename_i e1 e2
    have e1 := Nat.eq_of_beq_eq_true e1
    have e2 := Nat.eq_of_beq_eq_true e2
    subst e1
    obtain ⟨en⟩ := tbok.entry hj
    split at h
    ·rename_i r hr'
     cases h
     simp only [Ty.size] at hl
     obtain ⟨y, hy⟩ := hr (o, t) (by simp)
     simp only [ie en, e2] at hy
     obtain ⟨x1, h1, b1⟩ := ih hs hy
     obtain ⟨x2, h2, b2⟩ := z7 (tbok := tbok) ih hr' (fun p hp => hr p (by simp [hp])) (by omega)
     refine ⟨(x1, x2), ⟨_, _, ?_, h1, h2⟩, b1, b2⟩
     rw [← List.drop_drop]
     exact (List.take_append_drop _ _).symm
    ·cases h
   ·cases h
  ·cases h
theorem yL (tbok : ek P tb) : ∀ (n : Nat) {t : TypeId} {ty : Ty} {fuel : Nat} {cs : List Value} {y : DataW H × List MemPlace}, CO tb n t = some ty → DataW.trod enc P w base spare held fuel t cs = some y → ∃ x : ty.den, Rc w (fun _ => False) ty x cs ∧ Bnd ty x
 | 0, t, ty, fuel, cs, y, h, _ => by cases h
 | n + 1, t, ty, fuel, cs, y, h, hd => by
  unfold CO at h
  split at h
  ·rename_i i hi
   obtain ⟨en⟩ := tbok.entry hi
   split at h
   ·rename_i k hk
    cases h
    obtain ⟨m, rfl, _, hw⟩ := DataW.trod_int (tf en hk) hd
    exact ⟨m, (rfl : [_] = [_]), hw⟩
   ·rename_i hk
    cases h
    have hu : P.underlying t = some .bool := by
     have hu := en.hu
     have ht := en.htk
     generalize en.d = d at hu ht
     rw [hk] at ht
     cases d <;> simp [nY] at ht
     rw [hu]
    obtain ⟨b, rfl, _⟩ := DataW.trod_bool hu hd
    exact ⟨b, (rfl : [_] = [_]), trivial⟩
   ·rename_i hk
    cases h
    obtain ⟨s, rfl, _, hs⟩ := DataW.trod_string (Ig en hk) hd
    exact ⟨s, (rfl : [_] = [_]), hs⟩
   ·rename_i e hk
    split at h
    ·rename_i s j hs hj
     split at h
     ·rename_i hsz
      have hsz := Nat.eq_of_beq_eq_true hsz
      cases h
      obtain ⟨en'⟩ := tbok.entry hj
      rcases DataW.trod_slice (iA en hk) hd with ⟨rfl, _⟩ | ⟨a, len, cap, elems, rest, m, _, rfl, _, _, hlc, hcm, hlen, hel, _, _⟩
      ·exact ⟨[], ⟨none, 0, rfl, Nat.le_refl _, fun _ => rfl, fun i hi => absurd hi (Nat.not_lt_zero _)⟩, Nat.zero_le _, fun a ha => by cases ha⟩
      ·have key : ∀ i : Fin len, ∃ x : s.den, (∃ c, c.length = s.size ∧ At w (fun _ => False) (a.add (i.1 * s.size)) c ∧ Rc w (fun _ => False) s x c) ∧ Bnd s x := by
        intro ⟨i, hi⟩
        have h1 := hel i hi
        have h2 : elems[i]? = some elems[i] := List.getElem?_eq_getElem (by omega)
        rw [h2] at h1
        obtain ⟨c, hc, h3⟩ := Option.bind_eq_some_iff.1 h1
        obtain ⟨_, hcl, hcc⟩ := World.cells?_some hc
        obtain ⟨x, hx, hb⟩ := yL tbok n hs h3
        rw [ie en', hsz] at hcl hcc
        rw [ie en', hsz] at hc
        refine ⟨x, ⟨c, hcl, ?_, hx⟩, hb⟩
        intro q hq
        refine ⟨fun h => h, ?_⟩
        rw [hcc q (by omega), List.getElem?_eq_getElem hq]
       refine ⟨List.ofFn fun i => Classical.choose (key i), ?_, ?_, ?_⟩
       ·refine ⟨some a, cap, by simp, by simpa using hlc, fun h => (Option.some_ne_none _ h).elim, fun i hi => ?_⟩
        have hi' : i < len := by simpa using hi
        obtain ⟨⟨c, h1, h2, h3⟩, _⟩ := Classical.choose_spec (key ⟨i, hi'⟩)
        refine ⟨a, rfl, c, h1, h2, ?_⟩
        simpa using h3
       ·show (List.ofFn _).length ≤ _
        simp; omega
       ·intro z hz
        obtain ⟨i, rfl⟩ := List.mem_ofFn.1 hz
        exact (Classical.choose_spec (key i)).2
     ·cases h
    ·cases h
   ·rename_i fs hk
    split at h
    ·rename_i s hs
     split at h
     ·rename_i hsz
      have hsz := Nat.eq_of_beq_eq_true hsz
      cases h
      obtain ⟨F, hu, rfl⟩ := kv en hk
      obtain ⟨xs, m, rfl, _, hl, hlen, hf⟩ := DataW.trod_struct hu hd
      rw [ie en, hsz] at hl
      have := z7 (enc := enc) (w := w) (base := base) (spare := spare) (held := held) (tbok := tbok) (fuel := m) (fun h1 h2 => yL tbok n h1 h2) hs (cs := cs) (fun p hp => by
       obtain ⟨f, hfm, rfl⟩ := List.mem_map.1 hp
       obtain ⟨i, hi, rfl⟩ := List.mem_iff_getElem.1 hfm
       have hi' : i < F.size := by simpa using hi
       refine ⟨xs[i]'(by omega), ?_⟩
       have := hf i F.toList[i] (by simp [hi'])
       rw [this, List.getElem?_eq_getElem (by omega)]) (by omega)
      rw [List.drop_zero] at this
      exact this
     ·cases h
    ·cases h
   ·cases h
  ·cases h
def nK : TK → Bool
 | .struct .. => true
 | _ => false
def J1 (tb : TypeId → Option TI) : List TypeId → Option (List (Bool × List D1))
 | [] => some []
 | t :: ts => match CO tb 8 t, tb t with
  | some ty, some i => match J1 tb ts with
   | some l => some ((nK i.tk, lH ty) :: l)
   | none => none
  | _, _ => none
theorem Jo {r : Reach} {b0 : Nat} {t : TypeId} {i : TI} {ty : Ty} {v : Value} (en : Entry P t i) (hi : tb t = some i) (h : CO tb 8 t = some ty) (hs : nK i.tk = false) (hv : Value.okWide P w r b0 t v) : v.oneCell' = true ∧ (lH ty).length = 1 := by
 unfold CO at h
 rw [hi] at h
 simp only at h
 cases hk : i.tk with
 | int k =>
  rw [hk] at h; cases h
  obtain ⟨n, rfl⟩ := okWide_int (tf en hk) hv
  exact ⟨rfl, rfl⟩
 | bool =>
  rw [hk] at h; cases h
  have hu : P.underlying t = some .bool := by
   have hu := en.hu
   have ht := en.htk
   generalize en.d = d at hu ht
   rw [hk] at ht
   cases d <;> simp [nY] at ht
   rw [hu]
  obtain ⟨n, rfl⟩ := okWide_bool hu hv
  exact ⟨rfl, rfl⟩
 | str =>
  rw [hk] at h; cases h
  obtain ⟨n, rfl⟩ := okWide_string (Ig en hk) hv
  exact ⟨rfl, rfl⟩
 | slice e =>
  rw [hk] at h
  simp only at h
  split at h
  ·split at h
   ·cases h
    obtain ⟨a, l, c, rfl⟩ := okWide_slice (iA en hk) hv
    exact ⟨rfl, rfl⟩
   ·cases h
  ·cases h
 | struct q fs => rw [hk] at hs; cases hs
 | _ => rw [hk] at h; cases h
theorem Dm (tbok : ek P tb) : ∀ {ts : List TypeId} {ps : List (Bool × List D1)} {vs : List Value} {ds : List (DataW H)} {p : List MemPlace} {r : Reach} {b0 : Nat}, J1 tb ts = some ps → DataW.TrodAll enc P w base spare held ts vs ds p →
  (∀ (j : Nat) t v, ts[j]? = some t → vs[j]? = some v → Value.okWide P w r b0 t v) → ∃ (cells : List Value) (x : cO (flatC ps)), gu ps vs cells ∧ PL w (fun _ => False) (flatC ps) x cells ∧ BL (flatC ps) x
 | [], ps, vs, ds, p, r, b0, h, ha, _ => by
  cases h
  obtain ⟨rfl, _, _⟩ := trodAll_nil ha
  exact ⟨[], (), ⟨rfl, rfl⟩, rfl, trivial⟩
 | t :: ts, ps, vs, ds, p, r, b0, h, ha, hv => by
  unfold J1 at h
  split at h
  ·rename_i ty i hty hi
   split at h
   ·rename_i l hl
    cases h
    obtain ⟨en⟩ := tbok.entry hi
    obtain ⟨v, vs', d, ds', p', q, rfl, rfl, rfl, h1, h2⟩ := trodAll_cons ha
    obtain ⟨cells, x, c1, c2, c3⟩ := Dm tbok hl h2 (fun j t' v' h1 h2 => hv (j + 1) t' v' (by simpa using h1) (by simpa using h2))
    obtain ⟨fuel, hd⟩ := h1
    obtain ⟨y, hy, hb⟩ := yL tbok 8 hty hd
    have hval := hv 0 t v rfl rfl
    refine ⟨v.cells.toList ++ cells, zG (lH ty) (flatC l) (vH ty y) x, ?_, (oo hy).join c2, (rq hb).join c3⟩
    cases hs : nK i.tk with
    | true =>
     have : ∃ q fs, i.tk = .struct q fs := by
      cases hk : i.tk <;> rw [hk] at hs <;> first | exact ⟨_, _, rfl⟩ | cases hs
     obtain ⟨q, fs, hk⟩ := this
     obtain ⟨F, hu, _⟩ := kv en hk
     obtain ⟨cs, rfl, _⟩ := okWide_struct hu hval
     exact ⟨cs.toList, vs', cells, by simp, by rw [← (oo hy).length]; rfl, rfl, c1⟩
    | false =>
     obtain ⟨o1, o2⟩ := Jo en hi hty hs hval
     have e : v.cells.toList = [v] := by rw [vB o1]
     rw [e]
     exact ⟨v, vs', cells, o2, rfl, o1, rfl, c1⟩
   ·cases h
  ·cases h
theorem vV : ∀ {ds : List D1} {vs : List Value}, ds.filter (·.cM) = [] → bo ds vs = []
 | [], vs, _ => by simp [bo]
 | .dat t :: ds, [], _ => by simp [bo]
 | .dat t :: ds, v :: vs, h => by
  rw [List.filter_cons_of_neg (by simp [D1.cM])] at h
  exact vV (ds := ds) h
 | .own e t :: ds, _, h => by rw [List.filter_cons_of_pos (by simp [D1.cM])] at h; cases h
 | .cel t :: ds, _, h => by rw [List.filter_cons_of_pos (by simp [D1.cM])] at h; cases h
theorem law_calls (tbok : ek P tb) {f : FuncId} {ts : List TypeId} {ps : List (Bool × List D1)} {F : Nat → cO (flatC ps) → Option (cO (flatC [(false, [D1.dat .bool])] ++ outsC ps))} (hps : J1 tb ts = some ps) (hout : outsC ps = [])
  (hm : ∀ k, bf P f ⟨ps, [(false, [.dat .bool])], F k⟩) (hpure : ∀ x, BL (flatC ps) x → ∃ k y, F k x = some y ∧ (splitD [D1.dat .bool] (outsC ps) y).1 = true)
  {args : Array Value} {ds : List (DataW H)} {p : List MemPlace} {r : Reach} {b0 : Nat} (ha : DataW.TrodAll enc P w base spare held ts args.toList ds p) (hv : ∀ (j : Nat) t v, ts[j]? = some t → args[j]? = some v → Value.okWide P w r b0 t v) :
  Calls P f args w fun e w' => e = .returned (.bool true) ∧ Below w.heap.size w w' := by
 obtain ⟨cells, x, c1, c2, c3⟩ := Dm tbok hps ha (fun j t v h1 h2 => hv j t v h1 (by simpa using h2))
 obtain ⟨k, y, hy, hb⟩ := hpure x c3
 have hown : bo (flatC ps) cells = [] := vV hout
 have := (hm k).calls w (fun _ => False) args.toList cells x y c1 (fun r h => h.elim) (c2.weaken fun r h => by
  rcases h with h | h
  ·exact h
  ·simp only [hown] at h; cases h) (by show (bo (flatC ps) cells).Nodup; rw [hown]; exact List.nodup_nil) hy
 rw [Array.toArray_toList] at this
 refine this.mono ?_
 rintro e w' ⟨v, vs, rcells, rfl, hg, hcv, hfr, hpl, _, _⟩
 obtain ⟨u, vs', cs', _, rfl, _, rfl, e1, e2⟩ := hcv
 subst e1; subst e2
 have hg : v = u := hg
 subst hg
 obtain ⟨h1, _⟩ := PL.split (ds := [D1.dat .bool]) (es := outsC ps) (vs := [v]) rfl hpl
 obtain ⟨v', e, h2⟩ := h1
 have h3 : [v'] = [Value.bool (splitD [D1.dat .bool] (outsC ps) y).1] := h2
 rw [hb] at h3
 refine ⟨?_, hfr.os, hfr.tape, hfr.output, hfr.size, fun k hk => hfr.block k hk (by show k ∉ bo (flatC ps) cells; rw [hown]; simp)⟩
 have : v = v' := by simpa using e
 rw [this]
 congr 1
 simpa using h3
theorem args_stay (hl : laidOutB P = true) {w' : World} (hb : Below w.heap.size w w') : ∀ {ts : List TypeId} {vs : List Value} {ds : List (DataW H)} {p : List MemPlace}, ts.all (fun t => P.readableRec t && decide (t < P.types.size)) = true → DataW.TrodAll enc P w 0 (fun _ => true) true ts vs ds p →
  DataW.TrodAll enc P w' 0 (fun b => decide (b < w.heap.size)) true ts vs ds p
 | [], vs, ds, p, _, h => by
  obtain ⟨rfl, rfl, rfl⟩ := trodAll_nil h
  exact rfl
 | t :: ts, vs, ds, p, ht, h => by
  rw [List.all_cons, Bool.and_eq_true, Bool.and_eq_true] at ht
  obtain ⟨v, vs', d, ds', p', q, rfl, rfl, rfl, h1, h2⟩ := trodAll_cons h
  have lt : ∀ x ∈ p', x.block < w.heap.size := by obtain ⟨m, hm⟩ := h1; exact DataW.trod_lt m _ _ _ hm
  exact ⟨p', q, hb.trod hl ht.1.1 (of_decide_eq_true ht.1.2) h1 lt, args_stay hl hb ht.2 h2, rfl⟩
end
end Go.V
end
