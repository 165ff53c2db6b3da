/- An evaluator of Go code over typed data, and that the model runs as it says (part 3). Conditions: as each theorem states. My own. -/
import Derived.Test.YtcbhhbkghbnljaaGreatDoorVb
import Derived.LoopN
import Derived.ChangeArms
import Derived.ChangeShapes
import Derived.Carry
section
namespace Go.V
open Go Go.RowKit
set_option linter.unusedVariables false
set_option linter.unusedSimpArgs false
section
variable {E : En} {R : Type} {st s st' : St} {o : Oper}
theorem cellsData_find (hf : st'.find = st.find) : ∀ (t : Ty) (cs : List AV), cellsData st' t cs = cellsData st t cs := by
 have row : ∀ (t : Ty) (a : AV), listOf st' t a = listOf st t a := by
  intro t a
  cases a <;> first | rfl | (show rowD t (st'.find _) = rowD t (st.find _); rw [hf])
 have mp : ∀ (k v : Ty) (a : AV), mapOf st' k v a = mapOf st k v a := by
  intro k v a
  cases a <;> first | rfl | (show mapB k v (st'.find _) = mapB k v (st.find _); rw [hf])
 intro t
 induction t with
 | pair a b iha ihb => intro cs; simp only [cellsData, iha, ihb]
 | struct t ih => intro cs; exact ih cs
 | unit => intro cs; rfl
 | ptr t ih =>
  intro cs
  simp only [cellsData]
  cases one? cs with
  | none => rfl
  | some a =>
   have e : cellsData st' t = cellsData st t := funext ih
   show ptrD st' t (cellsData st' t) a = ptrD st t (cellsData st t) a
   rw [e]
   cases a <;> first | rfl | (show boxD t _ _ (st'.find _) = boxD t _ _ (st.find _); rw [hf])
 | optr t ih =>
  intro cs
  simp only [cellsData]
  cases one? cs with
  | none => rfl
  | some a =>
   have e : cellsData st' t = cellsData st t := funext ih
   show optrD st' t (cellsData st' t) a = optrD st t (cellsData st t) a
   rw [e]
   cases a <;> first | rfl | (show someO (boxD t _ _ (st'.find _)) = someO (boxD t _ _ (st.find _)); rw [hf])
 | clo g c ih =>
  intro cs
  simp only [cellsData]
  cases one? cs with
  | none => rfl
  | some a =>
   have e : cellsData st' c = cellsData st c := funext ih
   show cloD g c (cellsData st' c) a = cloD g c (cellsData st c) a
   rw [e]
 | list t ih =>
  intro cs
  simp only [cellsData]
  cases one? cs with
  | none => rfl
  | some a => exact row t a
 | map k v ihk ihv =>
  intro cs
  simp only [cellsData]
  cases one? cs with
  | none => rfl
  | some a => exact mp k v a
 | int k => intro cs; simp only [cellsData]
 | bool => intro cs; simp only [cellsData]
 | str => intro cs; simp only [cellsData]
theorem read1_find (hf : st'.find = st.find) (d : D1) (v : AV) : read1 st' d v = read1 st d v := by
  cases d with
  | dat t => exact cellsData_find hf t [v]
  | own e t => cases v <;> first | rfl | simp only [read1, hf]
  | cel t =>
    rcases v with _ | _ | _ | _ | _ | _ | _ | _ | _ | ⟨b, _ | _⟩ | _ | _ | _ | _ | _ <;> first
      | rfl
      | (show celD st' t (st'.find _) = celD st t (st.find _)
         rw [hf]
         unfold celD
         split
         · split
           · rw [cellsData_find hf]
           · rfl
         · rfl)
theorem readL_find (hf : st'.find = st.find) : ∀ (ds : List D1) (cells : List AV), readL st' ds cells = readL st ds cells
 | [], cells => rfl
 | [d], cells => by
  simp only [readL]
  cases one? cells with
  | none => rfl
  | some v => exact read1_find hf d v
 | d :: d' :: ds, cells => by
  cases cells with
  | nil => simp only [readL]
  | cons v cells => simp only [readL, read1_find hf, readL_find hf (d' :: ds)]
theorem discover_find (hf : st'.find = st.find) : ∀ (n : Nat) (l : List Nat), discover st' n l = discover st n l
 | 0, l => rfl
 | n + 1, l => by unfold discover; rw [hf, discover_find hf n]
theorem sepK_find (hf : st'.find = st.find) (ds : List D1) (cells : List AV) : sepK st' ds cells = sepK st ds cells := by
 unfold sepK
 rw [discover_find hf, hf]
theorem setOuts_none : ∀ {ds : List D1} {x : dens ds} {vs : List AV} {st : St}, ds = [] → vs = [] → setOuts st ds x vs = some st := by
 intro ds x vs st h1 h2
 subst h1; subst h2; rfl
theorem ownCells_none : ∀ {ds : List D1} {cells : List AV}, ds.filter (·.isOwn) = [] → ownCells ds cells = []
 | [], _, _ => by simp [ownCells]
 | .dat t :: ds, [], _ => by simp [ownCells]
 | .dat t :: ds, v :: cells, h => by
  rw [List.filter_cons_of_neg (by simp [D1.isOwn])] at h
  exact ownCells_none (ds := ds) h
 | .own e t :: ds, _, h => by rw [List.filter_cons_of_pos (by simp [D1.isOwn])] at h; cases h
 | .cel t :: ds, _, h => by rw [List.filter_cons_of_pos (by simp [D1.isOwn])] at h; cases h
def readsOnly (S : Does) : Bool := (flatC S.rs ++ outsC S.ps).all (·.apart) && (outsC S.ps).isEmpty
theorem callAny_reads {nm : Nat} {dst : Option Tmp} {args : List AV} : ∀ {l : List Does}, (∀ S ∈ l, readsOnly S = true) → callAny nm st dst args some l = some s →
  ∃ v ns, (st.layL ns).put dst v some = some s ∧ (∀ b blk, look ns b = some blk → st.find b = none) ∧ (∀ b ∈ namesA v, look ns b ≠ none) ∧ ∀ st' : St, st'.find = st.find → callAny nm st' dst args some l = (st'.layL ns).put dst v some
 | [], _, h => by cases h
 | S :: l, hl, h => by
  have hS := hl S (by simp)
  unfold readsOnly at hS
  rw [Bool.and_eq_true] at hS
  have hout : outsC S.ps = [] := by simpa using hS.2
  have hoc : ∀ cells, ownCells (flatC S.ps) cells = [] := fun cells => ownCells_none hout
  unfold callAny at h
  split at h
  ·rename_i cells hfl
   split at h
   ·rename_i x hx
    unfold callK at h
    split at h
    ·cases h
    ·rename_i rch hsep
     obtain ⟨y, hy, hB⟩ := Option.bind_eq_some_iff.1 h
     clear h
     have hfz : ∀ st : St, frzIf ((flatC S.rs ++ outsC S.ps).all (·.apart)) st rch = some st := by intro st; rw [hS.1]; rfl
     have hso : ∀ st : St, setOuts st (outsC S.ps) (splitD (flatC S.rs) (outsC S.ps) y).2 (ownCells (flatC S.ps) cells) = some st := fun st => setOuts_none hout (hoc cells)
     rw [hfz] at hB
     simp only [hso] at hB
     split at hB
     ·cases hB
     ·rename_i cs st2 hpl
      obtain ⟨ns, e0, q2, q4, q3⟩ := placeL_free hpl
      subst e0
      have go : ∀ v, (∀ b ∈ namesA v, b ∈ namesA.namesL cs) → (∀ st : St, (match compsA S.rs cs with | some [v] => st.put dst v some | some vs => st.put dst (.tup vs) some | none => none) = st.put dst v some) → (st.layL ns).put dst v some = some s →
        ∃ v ns, (st.layL ns).put dst v some = some s ∧ (∀ b blk, look ns b = some blk → st.find b = none) ∧ (∀ b ∈ namesA v, look ns b ≠ none) ∧ ∀ st' : St, st'.find = st.find → callAny nm st' dst args some (S :: l) = (st'.layL ns).put dst v some := by
       intro v hnv hv hs
       refine ⟨v, ns, hs, q2, (fun b hb => q4 b (hnv b hb)), fun st' hf => ?_⟩
       unfold callAny
       simp only [hfl]
       rw [readL_find hf, hx]
       simp only
       unfold callK
       rw [sepK_find hf, hsep]
       simp only [hy, Option.bind_some]
       rw [hfz]
       simp only [hso, q3 st' (fun b blk hb => by rw [hf]; exact q2 b blk hb)]
       exact hv _
      split at hB
      ·rename_i v hv
       exact go v (fun b hb => compsA_names hv b (by rw [namesL_one]; exact hb)) (fun st => by rw [hv]) hB
      ·rename_i vs hne hv
       have e : ∀ st : St, (match compsA S.rs cs with | some [v] => st.put dst v some | some vs => st.put dst (.tup vs) some | none => none) = st.put dst (.tup vs) some := by
        intro st
        rw [hv]
        match vs, hne with
        | [], _ => rfl
        | [v], hne => exact absurd rfl (hne v)
        | _ :: _ :: _, _ => rfl
       exact go (.tup vs) (fun b hb => compsA_names hv b (by simpa [namesA] using hb)) e hB
      ·cases hB
   ·rename_i hx
    obtain ⟨v, ns, q1, q2, q4, q3⟩ := callAny_reads (fun S hS => hl S (by simp [hS])) h
    refine ⟨v, ns, q1, q2, q4, fun st' hf => ?_⟩
    rw [← q3 st' hf]
    conv => lhs; unfold callAny
    simp only [hfl]
    rw [readL_find hf, hx]
  ·rename_i hfl
   obtain ⟨v, ns, q1, q2, q4, q3⟩ := callAny_reads (fun S hS => hl S (by simp [hS])) h
   refine ⟨v, ns, q1, q2, q4, fun st' hf => ?_⟩
   rw [← q3 st' hf]
   conv => lhs; unfold callAny
   simp only [hfl]
theorem frzN_idle : ∀ {l : List Nat}, (∀ b ∈ l, isFrz (st.find b) = true) → frzN st l = some st
 | [], _ => rfl
 | b :: l, h => by
  have hb := h b (by simp)
  unfold frzN
  cases hf : st.find b with
  | none => rw [hf] at hb; cases hb
  | some blk =>
   rw [hf] at hb
   cases blk with
   | frz e t x => exact frzN_idle fun c hc => h c (List.mem_cons_of_mem _ hc)
   | fmp k v m => exact frzN_idle fun c hc => h c (List.mem_cons_of_mem _ hc)
   | _ => cases hb
theorem elemsD_find (hf : st'.find = st.find) (t : Ty) : ∀ (n : Nat) (parts : List (Nat × AV)), elemsD st' t n parts = elemsD st t n parts
 | _, [] => rfl
 | n, (j, v) :: l => by simp only [elemsD, cellsData_find hf, elemsD_find hf t (n + 1) l]
theorem calmR_spec (h : opK E o st some = some s) (hc : calmR E o st = true) : ∃ v ns, (st.layL ns).put o.dst v some = some s ∧ (∀ b blk, look ns b = some blk → st.find b = none) ∧
  ∀ st' : St, st'.n = st.n → (∀ x ∈ o.op.operands, st'.ev x = st.ev x) → st'.find = st.find → opK E o st' some = (st'.layL ns).put o.dst v some := by
 unfold calmR at hc
 split at hc
 ·rename_i c ho
  split at hc
  ·rename_i f hcal
   split at hc
   ·rename_i g caps hv
    have hall : ∀ S ∈ E.orc (funF g), readsOnly S = true := List.all_eq_true.1 hc
    have hfm : f ∈ o.op.operands := by simp [ho, Op.operands, Call.operands, hcal]
    have ham : ∀ x ∈ c.args.toList, x ∈ o.op.operands := fun x hx => by
     simp only [ho, Op.operands, Call.operands, hcal, Array.mem_append]
     exact .inr (by simpa using hx)
    simp only [opK, ho, hcal, hv] at h
    obtain ⟨l', h1, h2, h3⟩ := sureK_sel h
    obtain ⟨s0, h4, h5⟩ := callAny_ex h1
    obtain ⟨v, ns, q1, q2, q4, q3⟩ := callAny_reads hall h4
    obtain ⟨ns', r1, r2, r3⟩ := fz_step q1 q4 h5
    refine ⟨v, ns', r1, dom1 r2 q2, fun st' hn' he hf => ?_⟩
    have e : c.args.toList.map st'.ev = c.args.toList.map st.ev := List.map_congr_left fun x hx => he x (ham x hx)
    obtain ⟨s1, p1, p2⟩ := r3 st' hn'
    simp only [opK, ho, hcal]
    rw [he f hfm, hv]
    simp only [e]
    rw [h3, callAny_sel _ ((q3 st' hf).trans p1), p2]
   ·cases hc
  ·cases hc
 ·rename_i t len parts ho
  have hidle : ∀ st' : St, st'.find = st.find → frzN st' (namesA.namesL (parts.toList.map fun p => st.ev p.2)) = some st' := fun st' hf => frzN_idle fun b hb => by rw [hf]; exact List.all_eq_true.1 hc b hb
  have hidle0 := hidle st rfl
  simp only [opK, ho] at h
  split at h
  ·rename_i e n1 n2 n3 hi
   split at h
   ·rename_i i hie
    split at h
    ·rename_i ty hty
     split at h
     ·rename_i q1 q2 q3 q4
      rw [hidle0] at h
      simp only at h
      split at h
      ·rename_i l hl
       unfold rowK at h
       split at h
       ·rename_i st1 hal
        obtain ⟨hfind, rfl⟩ := alloc_find hal
        refine ⟨_, [(nameOf o.dst, .flat e ty l)], by rw [← St.lay_one]; exact h, ?_, fun st' hn' he hf => ?_⟩
        ·intro b blk hb
         rw [look_cons] at hb
         split at hb
         ·rename_i e'; rw [e']; exact hfind
         ·cases hb
        ·have e' : (parts.toList.map fun p => st'.ev p.2) = (parts.toList.map fun p => st.ev p.2) := List.map_congr_left fun p hp => he p.2 (by simp [ho, Op.operands]; exact ⟨p.1, by simpa using hp⟩)
         have e2 : (parts.toList.map fun p => (p.1, st'.ev p.2)) = (parts.toList.map fun p => (p.1, st.ev p.2)) := List.map_congr_left fun p hp => by rw [he p.2 (by simp [ho, Op.operands]; exact ⟨p.1, by simpa using hp⟩)]
         simp only [opK, ho, hi, hie, hty, q1, q2, q3, q4, e', hidle st' hf, e2, elemsD_find hf, hl]
         unfold rowK
         rw [alloc_of (by rw [hf]; exact hfind), St.lay_one]
       ·cases h
      ·cases h
     ·cases h
    ·cases h
   ·cases h
  ·cases h
 ·rename_i t x lo hi ho
  have hidle : ∀ st' : St, st'.find = st.find → frzN st' (namesA (st.ev x)) = some st' := fun st' hf => frzN_idle fun b hb => by rw [hf]; exact List.all_eq_true.1 hc b hb
  have hqB : ∀ st' : St, st'.find = st.find → queB st' (st.ev x) = none := by
   intro st' hf
   have hc' : ∀ b ∈ namesA (st.ev x), isFrz (st.find b) = true := List.all_eq_true.1 hc
   generalize st.ev x = u at hc'
   cases u with
   | own b =>
    have hb := hc' b (by simp [namesA])
    unfold queB
    simp only [hf]
    cases hfb : st.find b with
    | none => rfl
    | some blk =>
     rw [hfb] at hb
     cases blk <;> first | rfl | cases hb
   | _ => rfl
  have hlist : ∀ (t : Ty) (a : AV) (st' : St), st'.find = st.find → listOf st' t a = listOf st t a := by
   intro t a st' hf
   cases a <;> first | rfl | (show rowD t (st'.find _) = rowD t (st.find _); rw [hf])
  have hbound : ∀ (st' : St) (d : Int) (z : Option Operand), (∀ x ∈ o.op.operands, st'.ev x = st.ev x) → (∀ y, z = some y → y ∈ o.op.operands) → boundA st' d z = boundA st d z := by
   intro st' d z he hz
   cases z with
   | none => rfl
   | some y =>
    have e := he y (hz y rfl)
    unfold boundA
    simp only [e]
  simp only [opK, ho] at h
  have hbk : bareK E o (st.ev x) = true := by
   cases hb : bareK E o (st.ev x) with
   | true => rfl
   | false => simp only [hb] at h; cases h
  simp only [hbk] at h
  split at h
  ·rename_i e n1 n2 n3 hi'
   split at h
   ·rename_i sty hsty
    split at h
    ·cases h
    ·rename_i i hie
     split at h
     ·cases h
     ·rename_i hsz
      rw [hqB st rfl] at h
      simp only at h
      rw [hidle st rfl] at h
      simp only at h
      split at h
      ·cases h
      ·rename_i l hl
       split at h
       ·cases h
       ·rename_i p hp
        split at h
        ·cases h
        ·rename_i q hq
         obtain ⟨h1, h2⟩ := cutK_sel h
         refine ⟨_, [], h1, (fun b blk hb => by cases hb), fun st' hn' he hf => ?_⟩
         have hxm : x ∈ o.op.operands := by simp [ho, Op.operands]
         have hlo : ∀ y, lo = some y → y ∈ o.op.operands := fun y e' => by simp [ho, Op.operands, e']
         have hhi : ∀ y, hi = some y → y ∈ o.op.operands := fun y e' => by simp [ho, Op.operands, e']
         simp only [opK, ho]
         rw [show bareK E o (st'.ev x) = true from by rw [he x hxm]; exact hbk]
         simp only [hi', hsty, hie, hsz]
         rw [show queB st' (st'.ev x) = none from by rw [he x hxm]; exact hqB st' hf]
         simp only
         rw [show namesA (st'.ev x) = namesA (st.ev x) from by rw [he x hxm], hidle st' hf]
         simp only [he x hxm, hlist sty _ st' hf, hl, hbound st' _ lo he hlo, hp, hbound st' _ hi he hhi, hq, h2]
         rfl
   ·cases h
  ·cases h
 ·cases hc
theorem put_find {v : AV} {dst : Option Tmp} (h : st.put dst v some = some s) : s.find = st.find := by
 unfold St.put at h
 split at h
 ·cases h; rfl
 ·split at h
  ·cases h; rfl
  ·cases h
theorem pure_find (h : opK E o st some = some s) (hp : pureO o = true) : s.find = st.find := by
 unfold pureO at hp
 cases ho : o.op with
 | move x => simp only [opK, ho] at h; exact put_find h
 | assign x => simp only [opK, ho] at h; exact put_find h
 | pick c x y =>
  simp only [opK, ho] at h
  obtain ⟨t, h1, _⟩ := forkB_sel h
  exact put_find h1
 | load t p =>
  simp only [opK, ho] at h
  split at h
  ·split at h
   ·split at h
    ·exact put_find h
    ·cases h
   ·cases h
  ·cases h
 | nilCheck x =>
  simp only [opK, ho] at h
  split at h
  ·exact put_find h
  ·exact put_find h
  ·exact put_find h
  ·rename_i t y hv
   cases y with
   | none => cases h
   | some y => exact put_find (v := .dp t y) h
  ·cases h
 | binOp op t x y u =>
  simp only [opK, ho] at h
  obtain ⟨v, h1, _⟩ := bin2K_sel h
  exact put_find h1
 | unOp op t x =>
  simp only [opK, ho] at h
  split at h
  ·exact put_find h
  ·cases h
 | convert a b x =>
  simp only [opK, ho] at h
  split at h
  ·split at h
   ·split at h
    ·exact put_find h
    ·cases h
   ·cases h
  ·cases h
 | fieldAddr t p f =>
  simp only [opK, ho] at h
  repeat' split at h
  all_goals first | exact put_find h | cases h
 | field t x f =>
  simp only [opK, ho] at h
  repeat' split at h
  all_goals first | exact put_find h | cases h
 | indexAddr t x ix =>
  simp only [opK, ho] at h
  repeat' split at h
  all_goals first | exact put_find (idxK_sel h).1 | cases h
 | extract x i =>
  simp only [opK, ho] at h
  repeat' split at h
  all_goals first | exact put_find h | cases h
 | lookup t x ix ok =>
  simp only [opK, ho] at h
  repeat' split at h
  all_goals first | exact put_find h | cases h
 | _ => rw [ho] at hp; cases hp
theorem ren_none {κ : Nat → Option Nat} (v : AV) (h : ∀ b, κ b = some b) : v.ren κ = v := by
 have : κ = some := funext h
 rw [this, AV.ren_some]
theorem St.set_same {t : Nat} {v : AV} (h : s.get t = v) : s.set t v = s := by
 unfold St.set
 have : upd s.get t v = s.get := by
  funext d
  rw [upd_eq]
  split
  ·rename_i e; rw [e, h]
  ·rfl
 rw [this]
theorem St.set_set (t : Nat) (v u : AV) : (s.set t v).set t u = s.set t u := by
 unfold St.set
 congr 1
 funext d
 simp only [upd_eq]
 split <;> rfl
theorem append_nat (ha : appO o = true) (h : opK E o st some = some s) : ∃ κ : Nat → Option Nat, (∀ b c, κ b = some c → c = b) ∧ s.n = st.n ∧ (∀ b, s.find b = none → st.find b = none) ∧ (∀ e, o.dst ≠ some e → s.get e = (st.get e).ren κ) ∧
  ∀ d u, d ∉ slotsOf o → o.dst ≠ some d → opK E o (st.set d u) some = some (s.set d (u.ren κ)) := by
 unfold appO at ha
 split at ha
 ·rename_i c hg ho
  split at ha
  ·rename_i hc
   have hput : ∀ (st0 : St) (v : AV) (s0 : St), st0.put o.dst v some = some s0 → s0.n = st0.n ∧ s0.find = st0.find ∧ (∀ e, o.dst ≠ some e → s0.get e = st0.get e) ∧ ∀ d u, o.dst ≠ some d → (st0.set d u).put o.dst v some = some (s0.set d u) := by
    intro st0 v s0 hp
    cases hd : o.dst with
    | none =>
     rw [hd] at hp
     cases hp
     exact ⟨rfl, rfl, fun _ _ => rfl, fun _ _ _ => rfl⟩
    | some dd =>
     rw [hd] at hp
     unfold St.put at hp
     simp only at hp
     split at hp
     ·rename_i hlt
      cases hp
      refine ⟨rfl, rfl, fun e he => by rw [St.get_set, if_neg (fun e' => he (by rw [e']))], fun d u hne => ?_⟩
      unfold St.put
      simp only [show (st0.set d u).n = st0.n from rfl, hlt]
      congr 1
      unfold St.set
      congr 1
      funext t
      simp only [upd_eq]
      by_cases e1 : t = dd
      ·by_cases e2 : t = d
       ·exact absurd (by rw [← e1, ← e2]) hne
       ·have e3 : ¬ dd = d := fun e' => hne (by rw [e'])
        simp [e1, e3]
      ·by_cases e2 : t = d <;> simp [e1, e2]
       intro e3; exact absurd (by rw [e3]) hne
     ·cases hp
   simp only [opK, ho, hc] at h
   split at h
   ·rename_i x y t t' hargs hts
    have hxm : x ∈ o.op.operands := by
     simp only [ho, Op.operands, Call.operands, hc, Array.empty_append]
     rw [← Array.mem_toList_iff, hargs]; simp
    have hym : y ∈ o.op.operands := by
     simp only [ho, Op.operands, Call.operands, hc, Array.empty_append]
     rw [← Array.mem_toList_iff, hargs]; simp
    have hev : ∀ d u, d ∉ slotsOf o → ∀ z ∈ o.op.operands, (st.set d u).ev z = st.ev z := by
     intro d u hd z hz
     cases z with
     | tmp e =>
      show (st.set d u).get e = st.get e
      rw [St.get_set, if_neg]
      rintro rfl
      exact hd (by simp only [slotsOf, List.mem_filterMap]; exact ⟨.tmp e, by simpa using hz, rfl⟩)
     | const v => cases v <;> rfl
     | _ => rfl
    split at h
    ·rename_i he
     -- the parts
     have e0 : ∀ d u, d ∉ slotsOf o → opK E o (st.set d u) some = appendK E o.dst t (st.set d u) (st.ev x) (st.ev y) some := by
      intro d u hd
      simp only [opK, ho, hc, hargs, hts, he]
      rw [hev d u hd x hxm, hev d u hd y hym]
     have hlist : ∀ d u (ty : Ty) (a : AV), listOf (st.set d u) ty a = listOf st ty a := by
      intro d u ty a; cases a <;> rfl
     unfold appendK at h
     split at h
     ·rename_i e n1 n2 n3 hi
      split at h
      ·cases h
      ·rename_i i hie
       split at h
       ·cases h
       ·rename_i ty hty
        split at h
        ·rename_i q1 q2 q3 q4
         split at h
         ·cases h
         ·rename_i m hm
          split at h
          ·rename_i b hxb
           split at h
           ·rename_i e' t'' l hf
            split at h
            ·rename_i l' hp1 hp2
             obtain ⟨h1, h2⟩ := roomK_sel h
             obtain ⟨p1, p2, p3, p4⟩ := hput _ _ _ h1
             refine ⟨killer b, fun c d hcd => ((killer_some hcd).1).symm, p1, ?_, ?_, ?_⟩
             ·intro c hcn
              rw [p2, St.find_cons (st.killed b)] at hcn
              split at hcn
              ·cases hcn
              ·rw [St.killed_find] at hcn
               cases hfc : st.find c with
               | none => rfl
               | some z => rw [hfc] at hcn; cases hcn
             ·intro e2 he2
              rw [p3 e2 he2]
              rfl
             ·intro d u hd hne
              rw [e0 d u hd]
              unfold appendK
              simp only [hi, hie, hty, q1, q2, q3, q4, hlist, hm, hxb]
              rw [show (st.set d u).find b = some (.flat e' t'' l) from hf]
              simp only [hp1, hp2, h2]
              rw [← p4 d (u.ren (killer b)) hne]
              congr 1
              unfold St.killed St.lay St.set
              congr 1
              funext z
              simp only [upd_eq]
              split <;> rfl
            ·cases h
           ·rename_i e' t'' l hf
            split at h
            ·rename_i l' hp1 hp2
             obtain ⟨h1, h2⟩ := roomK_sel h
             obtain ⟨p1, p2, p3, p4⟩ := hput _ _ _ h1
             refine ⟨killer b, fun c d hcd => ((killer_some hcd).1).symm, p1, ?_, ?_, ?_⟩
             ·intro c hcn
              rw [p2, St.find_cons (st.killed b)] at hcn
              split at hcn
              ·cases hcn
              ·rw [St.killed_find] at hcn
               cases hfc : st.find c with
               | none => rfl
               | some z => rw [hfc] at hcn; cases hcn
             ·intro e2 he2
              rw [p3 e2 he2]
              rfl
             ·intro d u hd hne
              rw [e0 d u hd]
              unfold appendK
              simp only [hi, hie, hty, q1, q2, q3, q4, hlist, hm, hxb]
              rw [show (st.set d u).find b = some (.que e' t'' l) from hf]
              simp only [hp1, hp2, h2]
              rw [← p4 d (u.ren (killer b)) hne]
              congr 1
              unfold St.killed St.lay St.set
              congr 1
              funext z
              simp only [upd_eq]
              split <;> rfl
            ·cases h
           ·cases h
          ·rename_i hxb
           obtain ⟨h1, h2⟩ := roomK_sel h
           unfold rowK at h1
           split at h1
           ·rename_i st2 hal
            obtain ⟨hfind, rfl⟩ := alloc_find hal
            obtain ⟨p1, p2, p3, p4⟩ := hput _ _ _ h1
            refine ⟨some, fun b c hbc => by cases hbc; rfl, p1, ?_, ?_, ?_⟩
            ·intro c hcn
             rw [p2, St.find_cons] at hcn
             split at hcn
             ·cases hcn
             ·exact hcn
            ·intro e2 he2
             rw [p3 e2 he2, AV.ren_some]
             rfl
            ·intro d u hd hne
             rw [e0 d u hd]
             unfold appendK
             simp only [hi, hie, hty, q1, q2, q3, q4, hlist, hm, hxb, h2]
             unfold rowK
             rw [alloc_of (show (st.set d u).find (nameOf o.dst) = none from hfind), AV.ren_some]
             exact p4 d u hne
           ·cases h1
          ·cases h
        ·cases h
     ·cases h
    ·cases h
   ·cases h
  ·cases ha
 ·cases ha
end
end Go.V
end
section
namespace Go.V
open Go Go.RowKit
set_option linter.unusedVariables false
set_option linter.unusedSimpArgs false
section
variable {E : En} {R R' : Type} {st s st' : St} {o : Oper}
theorem slot_step (hs : slotO o = true) (h : opK E o st some = some s) : ∃ v, st.put o.dst v some = some s ∧ ∀ st' : St, (∀ x ∈ o.op.operands, st'.ev x = st.ev x) → opK E o st' some = st'.put o.dst v some := by
 cases ho : o.op with
 | move x =>
  simp only [opK, ho] at h
  exact ⟨_, h, fun st' he => by simp only [opK, ho]; rw [he x (by simp [ho, Op.operands])]⟩
 | assign x =>
  simp only [opK, ho] at h
  exact ⟨_, h, fun st' he => by simp only [opK, ho]; rw [he x (by simp [ho, Op.operands])]⟩
 | pick c x y =>
  simp only [opK, ho] at h
  obtain ⟨t, h1, h2⟩ := forkB_sel h
  refine ⟨_, h1, fun st' he => ?_⟩
  simp only [opK, ho]
  rw [he c (by simp [ho, Op.operands]), h2]
  cases t
  ·show st'.put o.dst (st'.ev y) some = st'.put o.dst (st.ev y) some
   rw [he y (by simp [ho, Op.operands])]
  ·show st'.put o.dst (st'.ev x) some = st'.put o.dst (st.ev x) some
   rw [he x (by simp [ho, Op.operands])]
 | binOp op t x y u =>
  simp only [opK, ho] at h
  obtain ⟨v, h1, h2⟩ := bin2K_sel h
  refine ⟨v, h1, fun st' he => ?_⟩
  simp only [opK, ho]
  rw [he x (by simp [ho, Op.operands]), he y (by simp [ho, Op.operands]), h2]
 | unOp op t x =>
  simp only [opK, ho] at h
  split at h
  ·rename_i v hv
   refine ⟨v, h, fun st' he => ?_⟩
   simp only [opK, ho]
   rw [he x (by simp [ho, Op.operands]), hv]
  ·cases h
 | convert src dst x =>
  simp only [opK, ho] at h
  split at h
  ·rename_i j n hv
   split at h
   ·rename_i h1
    split at h
    ·rename_i h2
     refine ⟨_, h, fun st' he => ?_⟩
     simp only [opK, ho]
     rw [he x (by simp [ho, Op.operands]), hv]
     simp only [h1, h2]
    ·cases h
   ·cases h
  ·cases h
 | extract x i =>
  simp only [opK, ho] at h
  split at h
  ·rename_i vs hv
   split at h
   ·rename_i v h1
    refine ⟨v, h, fun st' he => ?_⟩
    simp only [opK, ho]
    rw [he x (by simp [ho, Op.operands]), hv]
    simp only [h1]
   ·cases h
  ·cases h
 | nilCheck x =>
  simp only [opK, ho] at h
  split at h
  ·rename_i b i hv
   exact ⟨_, h, fun st' he => by simp only [opK, ho]; rw [he x (by simp [ho, Op.operands]), hv]⟩
  ·rename_i b i hv
   exact ⟨_, h, fun st' he => by simp only [opK, ho]; rw [he x (by simp [ho, Op.operands]), hv]⟩
  ·rename_i b i hv
   exact ⟨_, h, fun st' he => by simp only [opK, ho]; rw [he x (by simp [ho, Op.operands]), hv]⟩
  ·rename_i t y hv
   cases y with
   | none => cases h
   | some y => exact ⟨.dp t y, h, fun st' he => by simp only [opK, ho]; rw [he x (by simp [ho, Op.operands]), hv]; rfl⟩
  ·cases h
 | field t x f =>
  simp only [opK, ho] at h
  split at h
  ·rename_i fs _ _ _ hi
   split at h
   ·rename_i off ft hft
    split at h
    ·rename_i i cs hti hv
     split at h
     ·rename_i hle
      split at h
      ·rename_i v hvv
       refine ⟨v, h, fun st' he => ?_⟩
       simp only [opK, ho, hi, hft]
       rw [he x (by simp [ho, Op.operands]), hv]
       simp only [hti, hle, hvv]
      ·cases h
     ·cases h
    ·cases h
   ·cases h
  ·cases h
 | _ => simp [slotO, ho] at hs
theorem names_take {cs : List AV} {n b : Nat} (h : b ∈ namesA.namesL (cs.take n)) : b ∈ namesA.namesL cs := by
 obtain ⟨v, hv, hm⟩ := mem_namesL.1 h
 exact mem_namesL.2 ⟨v, List.mem_of_mem_take hv, hm⟩
theorem names_drop {cs : List AV} {n b : Nat} (h : b ∈ namesA.namesL (cs.drop n)) : b ∈ namesA.namesL cs := by
 obtain ⟨v, hv, hm⟩ := mem_namesL.1 h
 exact mem_namesL.2 ⟨v, List.mem_of_mem_drop hv, hm⟩
structure Same (N : Nat → Prop) (st st' : St) : Prop where
 find : ∀ b, N b → st'.find b = st.find b
 sub : ∀ b, N b → ∀ c ∈ namesB (st.find b), N c
theorem cellsData_on {N : Nat → Prop} (H : Same N st st') : ∀ (t : Ty) (cs : List AV), (∀ b ∈ namesA.namesL cs, N b) → cellsData st' t cs = cellsData st t cs := by
 have one : ∀ {a : AV} {cs : List AV}, one? cs = some a → (∀ b ∈ namesA.namesL cs, N b) → ∀ b ∈ namesA a, N b := by
  intro a cs ha h b hb
  rw [one?_some ha] at h
  exact h b (by rw [namesL_one]; exact hb)
 have row : ∀ (t : Ty) (a : AV), (∀ b ∈ namesA a, N b) → listOf st' t a = listOf st t a := by
  intro t a hn
  cases a <;> first | rfl | (show rowD t (st'.find _) = rowD t (st.find _); rw [H.find _ (hn _ (by simp [namesA]))])
 have mp : ∀ (k v : Ty) (a : AV), (∀ b ∈ namesA a, N b) → mapOf st' k v a = mapOf st k v a := by
  intro k v a hn
  cases a <;> first | rfl | (show mapB k v (st'.find _) = mapB k v (st.find _); rw [H.find _ (hn _ (by simp [namesA]))])
 have bx : ∀ (t : Ty) (i b : Nat), N b → (∀ cs : List AV, (∀ b ∈ namesA.namesL cs, N b) → cellsData st' t cs = cellsData st t cs) → boxD t i (cellsData st' t) (st'.find b) = boxD t i (cellsData st t) (st.find b) := by
  intro t i b hb ih
  rw [H.find b hb]
  cases hf : st.find b with
  | none => rfl
  | some blk =>
   cases blk with
   | cells cs =>
    show (match Nat.ble (i + t.size) cs.length with | true => cellsData st' t ((cs.drop i).take t.size) | false => none) = (match Nat.ble (i + t.size) cs.length with | true => cellsData st t ((cs.drop i).take t.size) | false => none)
    rw [ih _ fun c hc => H.sub b hb c (by rw [hf]; exact names_drop (names_take hc))]
   | _ => rfl
 intro t
 induction t with
 | pair a b iha ihb =>
  intro cs hn
  simp only [cellsData]
  rw [iha _ fun b hb => hn b (names_take hb), ihb _ fun b hb => hn b (names_drop hb)]
 | struct t ih => intro cs hn; exact ih cs hn
 | unit => intro cs _; rfl
 | ptr t ih =>
  intro cs hn
  simp only [cellsData]
  cases ho : one? cs with
  | none => rfl
  | some a =>
   have hn := one ho hn
   cases a <;> first | rfl | exact bx t _ _ (hn _ (by simp [namesA])) ih
 | optr t ih =>
  intro cs hn
  simp only [cellsData]
  cases ho : one? cs with
  | none => rfl
  | some a =>
   have hn := one ho hn
   cases a <;> first | rfl | exact congrArg someO (bx t _ _ (hn _ (by simp [namesA])) ih)
 | clo g c ih =>
  intro cs hn
  simp only [cellsData]
  cases ho : one? cs with
  | none => rfl
  | some a =>
   have hn := one ho hn
   cases a with
   | clo f caps =>
    show (match Nat.beq f g with | true => cellsData st' c caps | false => none) = (match Nat.beq f g with | true => cellsData st c caps | false => none)
    rw [ih caps hn]
   | _ => rfl
 | list t ih =>
  intro cs hn
  simp only [cellsData]
  cases ho : one? cs with
  | none => rfl
  | some a => exact row t a (one ho hn)
 | map k v ihk ihv =>
  intro cs hn
  simp only [cellsData]
  cases ho : one? cs with
  | none => rfl
  | some a => exact mp k v a (one ho hn)
 | int k => intro cs _; simp only [cellsData]
 | bool => intro cs _; simp only [cellsData]
 | str => intro cs _; simp only [cellsData]
theorem read1_on {N : Nat → Prop} (H : Same N st st') (d : D1) (v : AV) (hn : ∀ b ∈ namesA v, N b) : read1 st' d v = read1 st d v := by
  cases d with
  | dat t => exact cellsData_on H t [v] (by rw [namesL_one]; exact hn)
  | own e t => cases v <;> first | rfl | (simp only [read1]; rw [H.find _ (hn _ (by simp [namesA]))])
  | cel t =>
    rcases v with _ | _ | _ | _ | _ | _ | _ | _ | _ | ⟨b, _ | _⟩ | _ | _ | _ | _ | _ <;> first
      | rfl
      | (have hb : N b := hn _ (by simp [namesA])
         show celD st' t (st'.find b) = celD st t (st.find b)
         rw [H.find b hb]
         cases hf : st.find b with
         | none => rfl
         | some blk =>
           cases blk with
           | cells cs =>
             simp only [celD]
             rw [cellsData_on H t cs fun c hc => H.sub b hb c (by rw [hf]; exact hc)]
           | _ => rfl)
theorem readL_on {N : Nat → Prop} (H : Same N st st') : ∀ (ds : List D1) (cells : List AV), (∀ b ∈ namesA.namesL cells, N b) → readL st' ds cells = readL st ds cells
 | [], cells, _ => rfl
 | [d], cells, hn => by
  simp only [readL]
  cases ho : one? cells with
  | none => rfl
  | some v =>
   rw [one?_some ho] at hn
   exact read1_on H d v (by rw [namesL_one] at hn; exact hn)
 | d :: d' :: ds, cells, hn => by
  cases cells with
  | nil => simp only [readL]
  | cons v cells =>
   simp only [namesA.namesL, List.mem_append] at hn
   simp only [readL]
   rw [read1_on H d v fun b hb => hn b (.inl hb), readL_on H (d' :: ds) cells fun b hb => hn b (.inr hb)]
theorem frzN_dom : ∀ {l : List Nat} {st s : St}, frzN st l = some s → ∃ L, s = st.layL L ∧ (∀ b blk, look L b = some blk → b ∈ l ∧ isFrz (st.find b) = false) ∧ (∀ b cs, st.find b = some (.cells cs) → look L b = none) ∧ ∀ st' : St, (∀ b ∈ l, st'.find b = st.find b) → frzN st' l = some (st'.layL L)
 | [], st, s, h => by
  cases h
  exact ⟨[], rfl, (fun b blk h => by cases h), (fun _ _ _ => rfl), fun st' _ => rfl⟩
 | b :: l, st, s, h => by
  have go : ∀ (blk : Blk), isFrz (st.find b) = false → (∀ cs, st.find b ≠ some (.cells cs)) → isFrz (some blk) = true → frzN (st.lay b blk) l = some s → (∀ st' : St, (∀ c ∈ b :: l, st'.find c = st.find c) → frzN st' (b :: l) = frzN (st'.lay b blk) l) →
    ∃ L, s = st.layL L ∧ (∀ c blk, look L c = some blk → c ∈ b :: l ∧ isFrz (st.find c) = false) ∧ (∀ c cs, st.find c = some (.cells cs) → look L c = none) ∧ ∀ st' : St, (∀ c ∈ b :: l, st'.find c = st.find c) → frzN st' (b :: l) = some (st'.layL L) := by
   intro blk hb hc hz h1 h2
   obtain ⟨L, rfl, q1, q2, q3⟩ := frzN_dom h1
   have hfind : ∀ c, (st.lay b blk).find c = if c = b then some blk else st.find c := fun c => by
    rw [St.lay_one]
    show (match look [(b, blk)] c with | some b => some b | none => st.find c) = _
    rw [look_cons]
    by_cases e : c = b <;> simp [e, look]
   refine ⟨L ++ [(b, blk)], by rw [St.lay_one, layL_layL], ?_, ?_, fun st' hf => ?_⟩
   ·intro c blk' hl
    rw [look_append] at hl
    split at hl
    ·rename_i v hv
     obtain ⟨r1, r2⟩ := q1 c v hv
     rw [hfind] at r2
     split at r2
     ·rw [hz] at r2; cases r2
     ·exact ⟨by simp [r1], r2⟩
    ·rw [look_cons] at hl
     split at hl
     ·rename_i e; rw [e]; exact ⟨by simp, hb⟩
     ·cases hl
   ·intro c cs hcs
    have hne : c ≠ b := fun e => hc cs (by rw [← e]; exact hcs)
    rw [look_append, q2 c cs (by rw [hfind, if_neg hne]; exact hcs), look_cons, if_neg hne]
    rfl
   ·rw [h2 st' hf, q3 (st'.lay b blk) (fun c hc => by
     rw [hfind]
     have : (st'.lay b blk).find c = if c = b then some blk else st'.find c := by
      rw [St.lay_one]
      show (match look [(b, blk)] c with | some b => some b | none => st'.find c) = _
      rw [look_cons]
      by_cases e : c = b <;> simp [e, look]
     rw [this, hf c (List.mem_cons_of_mem _ hc)]), St.lay_one, layL_layL]
  unfold frzN at h
  split at h
  ·rename_i e t x hb
   refine go (.frz e t x) (by rw [hb]; rfl) (fun cs e' => by rw [hb] at e'; cases e') rfl h fun st' hf => ?_
   conv => lhs; unfold frzN
   rw [hf b (by simp), hb]
  ·rename_i e t x hb
   obtain ⟨L, q0, q1, q2, q3⟩ := frzN_dom h
   refine ⟨L, q0, fun c blk hl => ⟨List.mem_cons_of_mem _ (q1 c blk hl).1, (q1 c blk hl).2⟩, q2, fun st' hf => ?_⟩
   rw [← q3 st' (fun c hc => hf c (List.mem_cons_of_mem _ hc))]
   conv => lhs; unfold frzN
   rw [hf b (by simp), hb]
  ·rename_i k v m hb
   refine go (.fmp k v m) (by rw [hb]; rfl) (fun cs e' => by rw [hb] at e'; cases e') rfl h fun st' hf => ?_
   conv => lhs; unfold frzN
   rw [hf b (by simp), hb]
  ·rename_i k v m hb
   obtain ⟨L, q0, q1, q2, q3⟩ := frzN_dom h
   refine ⟨L, q0, fun c blk hl => ⟨List.mem_cons_of_mem _ (q1 c blk hl).1, (q1 c blk hl).2⟩, q2, fun st' hf => ?_⟩
   rw [← q3 st' (fun c hc => hf c (List.mem_cons_of_mem _ hc))]
   conv => lhs; unfold frzN
   rw [hf b (by simp), hb]
  ·cases h
theorem setOuts_dom : ∀ {ds : List D1} {x : dens ds} {vs : List AV} {st s : St}, setOuts st ds x vs = some s → ∃ L, s = st.layL L ∧ (∀ b blk, look L b = some blk → (.box b 0) ∈ vs ∨ (.own b) ∈ vs) ∧ ∀ st' : St, setOuts st' ds x vs = some (st'.layL L) := by
  have one : ∀ {d : D1} {x : d.den} {v : AV} {st s : St}, setOut1 st d x v = some s → ∃ L, s = st.layL L ∧ (∀ b blk, look L b = some blk → (.box b 0) = v ∨ (.own b) = v) ∧ ∀ st' : St, setOut1 st' d x v = some (st'.layL L) := by
    intro d x v st s h
    cases d with
    | dat t => cases h
    | own e t =>
      cases v with
      | own b =>
        have h : some (st.lay b (.flat e t x)) = some s := h
        cases h
        refine ⟨[(b, .flat e t x)], by rw [St.lay_one], fun c blk hl => ?_, fun st' => by rw [← St.lay_one]; rfl⟩
        rw [look_cons] at hl
        split at hl
        · rename_i e; exact .inr (by rw [e])
        · cases hl
      | nil =>
        have h : some st = some s := h
        cases h
        exact ⟨[], rfl, (fun b blk h => by cases h), fun st' => rfl⟩
      | _ => cases h
    | cel t =>
      rcases v with _ | _ | _ | _ | _ | _ | _ | _ | _ | ⟨b, _ | _⟩ | _ | _ | _ | _ | _ <;> first
        | (cases h; done)
        | (have h : some (st.lay b (.cells (cellsAV t x))) = some s := h
           cases h
           refine ⟨[(b, .cells (cellsAV t x))], by rw [St.lay_one], fun c blk hl => ?_, fun st' => by rw [← St.lay_one]; rfl⟩
           rw [look_cons] at hl
           split at hl
           · rename_i e; exact .inl (by rw [e])
           · cases hl)
  intro ds
  induction ds with
  | nil =>
    intro x vs st s h
    cases vs with
    | nil =>
      have h : some st = some s := h
      cases h
      exact ⟨[], rfl, (fun b blk h => by cases h), fun st' => rfl⟩
    | cons _ _ => cases h
  | cons d ds ih =>
    intro x vs st s h
    cases ds with
    | nil =>
      have h : (match one? vs with | some v => setOut1 st d x v | none => none) = some s := h
      split at h
      · rename_i v hv
        obtain ⟨L, q1, q2, q3⟩ := one h
        refine ⟨L, q1, fun b blk hl => ?_, fun st' => ?_⟩
        · rw [one?_some hv]
          exact (q2 b blk hl).imp (fun r => by rw [r]; simp) fun r => by rw [r]; simp
        · show (match one? vs with | some v => setOut1 st' d x v | none => none) = _
          rw [hv]; exact q3 st'
      · cases h
    | cons d' ds =>
      cases vs with
      | nil => cases h
      | cons v vs =>
        have h : (match setOut1 st d x.1 v with | some st => setOuts st (d' :: ds) x.2 vs | none => none) = some s := h
        split at h
        · rename_i st1 h1
          obtain ⟨L, rfl, q2, q3⟩ := one h1
          obtain ⟨M, rfl, p2, p3⟩ := ih h
          refine ⟨M ++ L, layL_layL _ _ _, fun b blk hl => ?_, fun st' => ?_⟩
          · rw [look_append] at hl
            split at hl
            · rename_i u hu
              exact (p2 b _ hu).imp (List.mem_cons_of_mem _) (List.mem_cons_of_mem _)
            · exact (q2 b blk hl).imp (fun r => by rw [r]; simp) fun r => by rw [r]; simp
          · show (match setOut1 st' d x.1 v with | some st => setOuts st (d' :: ds) x.2 vs | none => none) = _
            rw [q3 st']
            simp only
            rw [p3, layL_layL]
        · cases h
theorem readL_out : ∀ {ds : List D1} {vs : List AV} {x : dens ds}, readL st ds vs = some x → ∀ v ∈ ownCells ds vs, ∀ b, v = .box b 0 ∨ v = .own b → isFrz (st.find b) = false := by
 have one : ∀ {d : D1} {v : AV} {x : d.den}, read1 st d v = some x → d.isOwn = true → ∀ b, v = .box b 0 ∨ v = .own b → isFrz (st.find b) = false := by
  intro d v x h hc b hb
  cases d with
  | dat t => cases hc
  | own e t =>
   rcases hb with rfl | rfl
   ·cases h
   ·have h : (match st.find b with
     | some (.flat e' s l) => match Nat.beq e' e with
      | true => cast? (.list s) (.list t) l
      | false => none
     | _ => none) = some x := h
    split at h
    ·rename_i hf; rw [hf]; rfl
    ·cases h
  | cel t =>
   rcases hb with rfl | rfl
   ·have h : celD st t (st.find b) = some x := h
    unfold celD at h
    split at h
    ·rename_i cs hcs; rw [hcs]; rfl
    ·cases h
   ·cases h
 intro ds
 induction ds with
 | nil => intro vs x h v hv; cases vs <;> simp [ownCells] at hv
 | cons d ds ih =>
  intro vs x h v hv
  cases vs with
  | nil => cases d <;> simp [ownCells] at hv
  | cons u vs =>
   have hd : ∃ y, read1 st d u = some y := by
    cases ds with
    | nil =>
     have h : (match one? (u :: vs) with | some v => read1 st d v | none => none) = some x := h
     split at h
     ·rename_i w hw
      have := one?_some hw
      simp only [List.cons.injEq] at this
      rw [this.1]; exact ⟨_, h⟩
     ·cases h
    | cons d' ds =>
     have h : (match read1 st d u with
       | some x => match readL st (d' :: ds) vs with
        | some y => some (x, y)
        | none => none
       | none => none) = some x := h
     split at h
     ·rename_i y hy; exact ⟨y, hy⟩
     ·cases h
   have hr : ds = [] ∧ vs = [] ∨ ∃ y, readL st ds vs = some y := by
    cases ds with
    | nil =>
     have h : (match one? (u :: vs) with | some v => read1 st d v | none => none) = some x := h
     split at h
     ·rename_i w hw
      have := one?_some hw
      simp only [List.cons.injEq] at this
      exact .inl ⟨rfl, this.2⟩
     ·cases h
    | cons d' ds =>
     have h : (match read1 st d u with
       | some x => match readL st (d' :: ds) vs with
        | some y => some (x, y)
        | none => none
       | none => none) = some x := h
     split at h
     ·split at h
      ·rename_i y hy; exact .inr ⟨y, hy⟩
      ·cases h
     ·cases h
   have hrest : ∀ v ∈ ownCells ds vs, ∀ b, v = .box b 0 ∨ v = .own b → isFrz (st.find b) = false := by
    intro v hv
    rcases hr with ⟨rfl, rfl⟩ | ⟨y, hy⟩
    ·simp [ownCells] at hv
    ·exact ih hy v hv
   obtain ⟨y, hy⟩ := hd
   cases d with
   | dat t => exact hrest v hv
   | own e t =>
    rcases List.mem_cons.1 (show v ∈ u :: ownCells ds vs from hv) with rfl | hv
    ·exact one hy rfl
    ·exact hrest v hv
   | cel t =>
    rcases List.mem_cons.1 (show v ∈ u :: ownCells ds vs from hv) with rfl | hv
    ·exact one hy rfl
    ·exact hrest v hv
theorem addN_sub : ∀ {bs l : List Nat} {b : Nat}, b ∈ addN l bs → b ∈ l ∨ b ∈ bs
 | [], l, b, h => .inl h
 | c :: bs, l, b, h => by
  unfold addN at h
  split at h
  ·rcases addN_sub h with h | h
   ·exact .inl h
   ·exact .inr (List.mem_cons_of_mem _ h)
  ·rcases addN_sub h with h | h
   ·rcases List.mem_append.1 h with h | h
    ·exact .inl h
    ·exact .inr (by simp only [List.mem_singleton] at h; simp [h])
   ·exact .inr (List.mem_cons_of_mem _ h)
theorem discover_sub : ∀ {n : Nat} {l : List Nat}, (∀ b ∈ l, namesB (st.find b) = []) → ∀ b ∈ discover st n l, b ∈ l
 | 0, l, _, b, h => h
 | n + 1, l, hl, b, h => by
  have e : (l.flatMap fun b => namesB (st.find b)) = [] := by
   rw [List.flatMap_eq_nil_iff]; exact hl
  rw [discover, e] at h
  exact discover_sub hl b h
theorem datNames_sub : ∀ {ds : List D1} {cells : List AV} {b : Nat}, b ∈ datNames ds cells → b ∈ namesA.namesL cells
 | [], cells, b, h => by cases cells <;> simp [datNames] at h
 | d :: ds, [], b, h => by cases d <;> simp [datNames] at h
 | .dat t :: ds, v :: cells, b, h => by
  simp only [datNames, namesA.namesL, List.mem_append] at h ⊢
  rcases h with h | h
  ·exact .inl h
  ·exact .inr (datNames_sub h)
 | .own e t :: ds, v :: cells, b, h => by
  have h : b ∈ datNames ds cells := h
  simp only [namesA.namesL, List.mem_append]
  exact .inr (datNames_sub h)
 | .cel t :: ds, v :: cells, b, h => by
  have h : b ∈ datNames ds cells := h
  simp only [namesA.namesL, List.mem_append]
  exact .inr (datNames_sub h)
theorem flatA_sub : ∀ {ps : List (Bool × List D1)} {vs cells : List AV}, flatA ps vs = some cells → ∀ b ∈ namesA.namesL cells, b ∈ namesA.namesL vs
 | [], [], cells, h, b, hb => by cases h; exact hb
 | [], _ :: _, _, h, _, _ => by cases h
 | _ :: _, [], _, h, _, _ => by cases h
 | (q, ds) :: ps, v :: vs, cells, h, b, hb => by
  rw [flatA] at h
  simp only [namesA.namesL, List.mem_append]
  split at h
  ·cases h
  ·rename_i l hl
   have ih := flatA_sub hl
   split at h
   ·split at h
    ·rename_i cs hcs
     split at h
     ·cases h
      have hv : v = .agg cs := by cases v <;> first | (cases hcs; rfl) | (cases hcs)
      subst hv
      rw [namesL_append] at hb
      rcases List.mem_append.1 hb with hb | hb
      ·exact .inl (by simpa [namesA] using hb)
      ·exact .inr (ih b hb)
     ·cases h
    ·cases h
   ·split at h
    ·cases h
     simp only [namesA.namesL, List.mem_append] at hb
     rcases hb with hb | hb
     ·exact .inl hb
     ·exact .inr (ih b hb)
    ·cases h
theorem sepK_sub {ds : List D1} {cells : List AV} {r : List Nat} (h : sepK st ds cells = some r) (hn : ∀ b ∈ namesA.namesL cells, namesB (st.find b) = []) : ∀ b ∈ r, b ∈ namesA.namesL cells := by
 have e : r = discover st 3 (addN [] (datNames ds cells)) := by
  unfold sepK at h
  simp only at h
  split at h
  ·cases h; rfl
  ·cases h
 have key : ∀ b ∈ addN [] (datNames ds cells), b ∈ namesA.namesL cells := fun b hb => by
  rcases addN_sub hb with hb | hb
  ·cases hb
  ·exact datNames_sub hb
 intro b hb
 rw [e] at hb
 exact key b (discover_sub (fun c hc => hn c (key c hc)) b hb)
theorem discover_on {N : Nat → Prop} (H : Same N st st') : ∀ (n : Nat) (l : List Nat), (∀ b ∈ l, N b) → discover st' n l = discover st n l
 | 0, l, _ => rfl
 | n + 1, l, hl => by
  have e : (l.flatMap fun b => namesB (st'.find b)) = l.flatMap fun b => namesB (st.find b) := by
   have : ∀ l : List Nat, (∀ b ∈ l, N b) → (l.flatMap fun b => namesB (st'.find b)) = l.flatMap fun b => namesB (st.find b) := by
    intro l
    induction l with
    | nil => intro _; rfl
    | cons b l ih => intro h; rw [List.flatMap_cons, List.flatMap_cons, H.find b (h b (by simp)), ih fun c hc => h c (by simp [hc])]
   exact this l hl
  unfold discover
  rw [e]
  refine discover_on H n _ fun b hb => ?_
  rcases addN_sub hb with hb | hb
  ·exact hl b hb
  ·obtain ⟨c, hc, hb⟩ := List.mem_flatMap.1 hb
   exact H.sub c (hl c hc) b hb
theorem sepK_on {N : Nat → Prop} (H : Same N st st') {ds : List D1} {cells : List AV} {r : List Nat} (h : sepK st ds cells = some r) (hn : ∀ b ∈ namesA.namesL cells, N b) (hr : ∀ b ∈ r, N b) : sepK st' ds cells = some r := by
 have e : discover st' 3 (addN [] (datNames ds cells)) = discover st 3 (addN [] (datNames ds cells)) := discover_on H 3 _ fun b hb => by
  rcases addN_sub hb with hb | hb
  ·cases hb
  ·exact hn b (datNames_sub hb)
 unfold sepK at h ⊢
 rw [e]
 simp only at h ⊢
 generalize discover st 3 (addN [] (datNames ds cells)) = q at h ⊢
 have hq : q = r := by split at h <;> first | (cases h; rfl) | cases h
 subst hq
 have e2 : (q.all fun b => (namesB (st'.find b)).all fun c => q.any (Nat.beq c)) = q.all fun b => (namesB (st.find b)).all fun c => q.any (Nat.beq c) := by
  have : ∀ l : List Nat, (∀ b ∈ l, N b) → (l.all fun b => (namesB (st'.find b)).all fun c => q.any (Nat.beq c)) = l.all fun b => (namesB (st.find b)).all fun c => q.any (Nat.beq c) := by
   intro l
   induction l with
   | nil => intro _; rfl
   | cons b l ih => intro h; rw [List.all_cons, List.all_cons, H.find b (h b (by simp)), ih fun c hc => h c (by simp [hc])]
  exact this q hr
 rw [e2]
 exact h
theorem ownCells_sub : ∀ {ds : List D1} {cells : List AV} {v : AV}, v ∈ ownCells ds cells → v ∈ cells
 | [], cells, v, h => by cases cells <;> simp [ownCells] at h
 | d :: ds, [], v, h => by cases d <;> simp [ownCells] at h
 | .dat t :: ds, u :: cells, v, h => List.mem_cons_of_mem _ (ownCells_sub (ds := ds) h)
 | .own e t :: ds, u :: cells, v, h => by
  rcases List.mem_cons.1 (show v ∈ u :: ownCells ds cells from h) with rfl | h
  ·simp
  ·exact List.mem_cons_of_mem _ (ownCells_sub h)
 | .cel t :: ds, u :: cells, v, h => by
  rcases List.mem_cons.1 (show v ∈ u :: ownCells ds cells from h) with rfl | h
  ·simp
  ·exact List.mem_cons_of_mem _ (ownCells_sub h)
def Seen (ws : Nat → Bool) (st : St) (vs : List AV) : Prop := ∀ b ∈ namesA.namesL vs, st.find b ≠ none ∧ namesB (st.find b) = [] ∧ (isFrz (st.find b) = true ∨ ws b = true)
theorem callAny_writes {nm : Nat} {dst : Option Tmp} {args : List AV} {ws : Nat → Bool} : ∀ {l : List Does}, callAny nm st dst args some l = some s →
  ∃ v L, (st.layL L).put dst v some = some s ∧ (∀ b ∈ namesA v, look L b ≠ none) ∧
   (Seen ws st args → (∀ b blk, look L b = some blk → st.find b = none ∨ (ws b = true ∧ b ∈ namesA.namesL args)) ∧
    ∀ st' : St, (∀ b ∈ namesA.namesL args, st'.find b = st.find b) → (∀ b blk, look L b = some blk → st.find b = none → st'.find b = none) → callAny nm st' dst args some l = (st'.layL L).put dst v some) ∧
   ∀ st' : St, st'.find = st.find → callAny nm st' dst args some l = (st'.layL L).put dst v some
 | [], h => by cases h
 | S :: l, h => by
  unfold callAny at h
  split at h
  ·rename_i cells hfl
   split at h
   ·rename_i x hx
    unfold callK at h
    split at h
    ·cases h
    ·rename_i rch hsep
     obtain ⟨y, hy, hB⟩ := Option.bind_eq_some_iff.1 h
     clear h
     split at hB
     ·cases hB
     ·rename_i st1 hfz
      have hfz' : ∃ L1, st1 = st.layL L1 ∧ (∀ b blk, look L1 b = some blk → b ∈ rch ∧ isFrz (st.find b) = false) ∧ (∀ b cs, st.find b = some (.cells cs) → look L1 b = none) ∧ ∀ st' : St, (∀ b ∈ rch, st'.find b = st.find b) → frzIf ((flatC S.rs ++ outsC S.ps).all (·.apart)) st' rch = some (st'.layL L1) := by
       unfold frzIf at hfz
       split at hfz
       ·rename_i hap
        cases hfz
        exact ⟨[], rfl, (fun b blk h => by cases h), (fun _ _ _ => rfl), fun st' _ => by unfold frzIf; rw [hap]; rfl⟩
       ·rename_i hap
        obtain ⟨L1, q0, q1, q2, q3⟩ := frzN_dom hfz
        exact ⟨L1, q0, q1, q2, fun st' hf => by unfold frzIf; rw [hap]; exact q3 st' hf⟩
      obtain ⟨L1, rfl, f1, f2, f3⟩ := hfz'
      split at hB
      ·cases hB
      ·rename_i st2 hso
       obtain ⟨L2, rfl, o1, o2⟩ := setOuts_dom hso
       split at hB
       ·cases hB
       ·rename_i cs st3 hpl
        obtain ⟨ns, e0, q2, q4, q3⟩ := placeL_free hpl
        subst e0
        rw [layL_layL, layL_layL, List.append_assoc] at hB
        have hmono : ∀ st' : St, st'.find = st.find → callAny nm st' dst args some (S :: l) = (match compsA S.rs cs with | some [v] => (st'.layL (ns ++ (L2 ++ L1))).put dst v some | some vs => (st'.layL (ns ++ (L2 ++ L1))).put dst (.tup vs) some | none => none) := by
         intro st' hf
         unfold callAny
         simp only [hfl]
         rw [readL_find hf, hx]
         simp only
         unfold callK
         rw [sepK_find hf, hsep]
         simp only [hy, Option.bind_some]
         rw [f3 st' (fun b _ => by rw [hf])]
         simp only [o2]
         rw [q3 ((st'.layL L1).layL L2) (fun b blk hb => by
          have := q2 b blk hb
          show (match look L2 b with | some b => some b | none => (st'.layL L1).find b) = none
          have this : (match look L2 b with | some b => some b | none => (st.layL L1).find b) = none := this
          have e : (st'.layL L1).find b = (st.layL L1).find b := by unfold St.layL; simp only [hf]
          rw [e]; exact this)]
         simp only [layL_layL]
         rfl
        have hdom : Seen ws st args → (∀ b blk, look (ns ++ (L2 ++ L1)) b = some blk → st.find b = none ∨ (ws b = true ∧ b ∈ namesA.namesL args)) ∧
          ∀ st' : St, (∀ b ∈ namesA.namesL args, st'.find b = st.find b) → (∀ b blk, look (ns ++ (L2 ++ L1)) b = some blk → st.find b = none → st'.find b = none) → callAny nm st' dst args some (S :: l) = (match compsA S.rs cs with | some [v] => (st'.layL (ns ++ (L2 ++ L1))).put dst v some | some vs => (st'.layL (ns ++ (L2 ++ L1))).put dst (.tup vs) some | none => none) := by
         intro hseen
         have hsc : ∀ b ∈ namesA.namesL cells, st.find b ≠ none ∧ namesB (st.find b) = [] ∧ (isFrz (st.find b) = true ∨ ws b = true) := fun b hb => hseen b (flatA_sub hfl b hb)
         have hrch := sepK_sub hsep (fun b hb => (hsc b hb).2.1)
         have hread := readL_out hx
         have d1 : ∀ b blk, look L1 b = some blk → ws b = true ∧ b ∈ namesA.namesL args := by
          intro b blk hb
          obtain ⟨r1, r2⟩ := f1 b blk hb
          rcases (hsc b (hrch b r1)).2.2 with h | h
          ·rw [r2] at h; cases h
          ·exact ⟨h, flatA_sub hfl b (hrch b r1)⟩
         have d2 : ∀ b blk, look L2 b = some blk → ws b = true ∧ b ∈ namesA.namesL args := by
          intro b blk hb
          have hv : ∀ v, v ∈ ownCells (flatC S.ps) cells → (v = .box b 0 ∨ v = .own b) → ws b = true ∧ b ∈ namesA.namesL args := by
           intro v hv hvb
           have h1 := hread v hv b hvb
           have h2 : b ∈ namesA.namesL cells := mem_namesL.2 ⟨v, ownCells_sub hv, by rcases hvb with rfl | rfl <;> simp [namesA]⟩
           rcases (hsc b h2).2.2 with h | h
           ·rw [h1] at h; cases h
           ·exact ⟨h, flatA_sub hfl b h2⟩
          rcases o1 b blk hb with h | h
          ·exact hv _ h (.inl rfl)
          ·exact hv _ h (.inr rfl)
         have d3 : ∀ b blk, look ns b = some blk → st.find b = none ∧ look L2 b = none ∧ look L1 b = none := by
          intro b v hv
          have := q2 b v hv
          have this : (match look L2 b with | some b => some b | none => (match look L1 b with | some b => some b | none => st.find b)) = none := this
          cases h2 : look L2 b with
          | some _ => rw [h2] at this; cases this
          | none => cases h1 : look L1 b with
           | some _ => rw [h2, h1] at this; cases this
           | none => rw [h2, h1] at this; exact ⟨this, rfl, rfl⟩
         refine ⟨fun b blk hb => ?_, fun st' hf hfr => ?_⟩
         ·rw [look_append] at hb
          split at hb
          ·rename_i v hv; exact .inl (d3 b v hv).1
          ·rw [look_append] at hb
           split at hb
           ·rename_i v hv; exact .inr (d2 b v hv)
           ·exact .inr (d1 b blk hb)
         ·have H : Same (fun b => b ∈ namesA.namesL cells) st st' := ⟨fun b hb => hf b (flatA_sub hfl b hb), fun b hb c hc => by rw [(hsc b hb).2.1] at hc; cases hc⟩
          unfold callAny
          simp only [hfl]
          rw [readL_on H _ _ (fun b hb => hb), hx]
          simp only
          unfold callK
          rw [sepK_on H hsep (fun b hb => hb) hrch]
          simp only [hy, Option.bind_some]
          rw [f3 st' (fun b hb => H.find b (hrch b hb))]
          simp only [o2]
          rw [q3 ((st'.layL L1).layL L2) (fun b blk hb => by
           obtain ⟨e1, e2, e3⟩ := d3 b blk hb
           show (match look L2 b with | some b => some b | none => (match look L1 b with | some b => some b | none => st'.find b)) = none
           rw [e2, e3]
           exact hfr b blk (by rw [look_append, hb]) e1)]
          simp only [layL_layL]
          rfl
        have hnm : ∀ b ∈ namesA.namesL cs, look (ns ++ (L2 ++ L1)) b ≠ none := fun b hb => by
         rw [look_append]
         cases h1 : look ns b with
         | none => exact absurd h1 (q4 b hb)
         | some v => simp
        split at hB
        ·rename_i v hv
         refine ⟨v, ns ++ (L2 ++ L1), hB, (fun b hb => hnm b (compsA_names hv b (by rw [namesL_one]; exact hb))), (fun hs => ⟨(hdom hs).1, fun st' h1 h2 => by rw [(hdom hs).2 st' h1 h2, hv]⟩), fun st' hf => ?_⟩
         rw [hmono st' hf, hv]
        ·rename_i vs hne hv
         have e : ∀ st : St, (match compsA S.rs cs with | some [v] => st.put dst v some | some vs => st.put dst (.tup vs) some | none => none) = st.put dst (.tup vs) some := by
          intro st
          rw [hv]
          match vs, hne with
          | [], _ => rfl
          | [v], hne => exact absurd rfl (hne v)
          | _ :: _ :: _, _ => rfl
         refine ⟨.tup vs, ns ++ (L2 ++ L1), hB, (fun b hb => hnm b (compsA_names hv b (by simpa [namesA] using hb))), (fun hs => ⟨(hdom hs).1, fun st' h1 h2 => by rw [(hdom hs).2 st' h1 h2]; exact e _⟩), fun st' hf => ?_⟩
         rw [hmono st' hf]
         exact e _
        ·cases hB
   ·rename_i hx
    obtain ⟨v, L, q1, q2, q4, q3⟩ := callAny_writes (ws := ws) h
    refine ⟨v, L, q1, q2, fun hs => ⟨(q4 hs).1, fun st' h1 h2 => ?_⟩, fun st' hf => ?_⟩
    ·rw [← (q4 hs).2 st' h1 h2]
     have H : Same (fun b => b ∈ namesA.namesL cells) st st' := ⟨fun b hb => h1 b (flatA_sub hfl b hb), fun b hb c hc => by rw [(hs b (flatA_sub hfl b hb)).2.1] at hc; cases hc⟩
     conv => lhs; unfold callAny
     simp only [hfl]
     rw [readL_on H _ _ (fun b hb => hb), hx]
    ·rw [← q3 st' hf]
     conv => lhs; unfold callAny
     simp only [hfl]
     rw [readL_find hf, hx]
  ·rename_i hfl
   obtain ⟨v, L, q1, q2, q4, q3⟩ := callAny_writes (ws := ws) h
   refine ⟨v, L, q1, q2, fun hs => ⟨(q4 hs).1, fun st' h1 h2 => ?_⟩, fun st' hf => ?_⟩
   ·rw [← (q4 hs).2 st' h1 h2]
    conv => lhs; unfold callAny
    simp only [hfl]
   ·rw [← q3 st' hf]
    conv => lhs; unfold callAny
    simp only [hfl]
theorem wcall_step {ws : Nat → Bool} (hw : wcallO o = true) (h : opK E o st some = some s) : ∃ v L, (st.layL L).put o.dst v some = some s ∧
  (wOK ws o st = true → (∀ b blk, look L b = some blk → st.find b = none ∨ (ws b = true ∧ ∃ x ∈ o.op.operands, b ∈ namesA (st.ev x))) ∧
   (∀ x ∈ o.op.operands, ∀ b ∈ namesA (st.ev x), st.find b ≠ none) ∧
   ∀ st' : St, st'.n = st.n → (∀ x ∈ o.op.operands, st'.ev x = st.ev x) → (∀ x ∈ o.op.operands, ∀ b ∈ namesA (st.ev x), st'.find b = st.find b) → (∀ b blk, look L b = some blk → st.find b = none → st'.find b = none) → opK E o st' some = (st'.layL L).put o.dst v some) ∧
  ∀ st' : St, st'.n = st.n → (∀ x ∈ o.op.operands, st'.ev x = st.ev x) → st'.find = st.find → opK E o st' some = (st'.layL L).put o.dst v some := by
 unfold wcallO at hw
 split at hw
 ·rename_i c hg ho
  split at hw
  ·rename_i f hcal
   have ham : ∀ x ∈ c.args.toList, x ∈ o.op.operands := fun x hx => by
    simp only [ho, Op.operands, Call.operands, hcal, Array.mem_append]
    exact .inr (by simpa using hx)
   have hev : ∀ st : St, st.ev (.func f) = match Nat.ble bfst f with | true => .undef | false => .clo f [] := fun _ => rfl
   simp only [opK, ho, hcal] at h
   cases hb : Nat.ble bfst f with
   | true =>
    rw [hev, hb] at h
    cases h
   | false =>
    have hev : ∀ st : St, st.ev (.func f) = .clo f [] := fun st => by rw [hev, hb]
    rw [hev] at h
    obtain ⟨l', h1, h2, h3⟩ := sureK_sel h
    obtain ⟨s0, h4, h5⟩ := callAny_ex h1
    obtain ⟨v, L, q1, q2, q4, q3⟩ := callAny_writes (ws := ws) h4
    obtain ⟨L', r1, r2, r3⟩ := fz_step q1 q2 h5
    refine ⟨v, L', r1, fun hok => ?_, fun st' hn' he hf => ?_⟩
    ·unfold wOK at hok
     simp only [ho, hcal] at hok
     have hall := fun b hb' => List.all_eq_true.1 hok b hb'
     have hnm : ∀ b, b ∈ namesA.namesL (argsF f l' []) → b ∈ namesA.namesL (c.args.toList.map st.ev) := fun b hb' => by
      rw [argsF_low hb, List.append_nil, h2] at hb'; exact hb'
     have hop : ∀ b, b ∈ namesA.namesL (c.args.toList.map st.ev) → ∃ x ∈ o.op.operands, b ∈ namesA (st.ev x) := fun b hb' => by
      obtain ⟨u, hu, hm⟩ := mem_namesL.1 hb'
      obtain ⟨x, hx, rfl⟩ := List.mem_map.1 hu
      exact ⟨x, ham x hx, hm⟩
     obtain ⟨p1, p2⟩ := q4 (fun b hb' => by
      have := hall b (hnm b hb')
      simp only [Bool.and_eq_true, Bool.or_eq_true, List.isEmpty_iff] at this
      exact ⟨fun e => by rw [e] at this; exact absurd this.1.1 (by simp), this.1.2, this.2⟩)
     refine ⟨fun b blk hl => ?_, ?_, fun st' hn' he hf hfr => ?_⟩
     ·cases hl' : look L b with
      | none => rw [(r2 b).2 hl'] at hl; cases hl
      | some k => exact (p1 b k hl').imp id fun h => ⟨h.1, hop b (hnm b h.2)⟩
     ·intro x hx b hbx
      simp only [ho, Op.operands, Call.operands, hcal, Array.mem_append] at hx
      rcases hx with hx | hx
      ·simp at hx; subst hx; rw [hev] at hbx; simp [namesA, namesA.namesL] at hbx
      ·have hm : b ∈ namesA.namesL (c.args.toList.map st.ev) := mem_namesL.2 ⟨_, List.mem_map.2 ⟨x, by simpa using hx, rfl⟩, hbx⟩
       have := hall b hm
       simp only [Bool.and_eq_true] at this
       intro e; rw [e] at this; exact absurd this.1.1 (by simp)
     ·have e : c.args.toList.map st'.ev = c.args.toList.map st.ev := List.map_congr_left fun x hx => he x (ham x hx)
      obtain ⟨s1, t1, t2⟩ := r3 st' hn'
      simp only [opK, ho, hcal]
      rw [hev]
      simp only [e]
      rw [h3, callAny_sel _ ((p2 st' (fun b hb' => by
       obtain ⟨x, hx, hm⟩ := hop b (hnm b hb')
       exact hf x hx b hm) (fun b blk hl hfn => by
       cases hl' : look L' b with
       | none => rw [(r2 b).1 hl'] at hl; cases hl
       | some k => exact hfr b k hl' hfn)).trans t1), t2]
    ·have e : c.args.toList.map st'.ev = c.args.toList.map st.ev := List.map_congr_left fun x hx => he x (ham x hx)
     obtain ⟨s1, p1, p2⟩ := r3 st' hn'
     simp only [opK, ho, hcal]
     rw [hev]
     simp only [e]
     rw [h3, callAny_sel _ ((q3 st' hf).trans p1), p2]
  ·cases hw
 ·cases hw
theorem settle_names (v : AV) : namesA v.settle = namesA v := by cases v <;> first | rfl | (unfold AV.settle; split <;> first | rfl | (rename_i h; cases h; rfl))
theorem settle_namesL : ∀ l : List AV, namesA.namesL (l.map AV.settle) = namesA.namesL l
 | [] => rfl
 | v :: l => by simp [namesA.namesL, settle_names v, settle_namesL l]
theorem cellsOf_sub {v : AV} {cs : List AV} (h : cellsOf v = some cs) : ∀ b ∈ namesA.namesL cs, b ∈ namesA v := by
 cases v with
 | agg l => cases h; intro b hb; simpa [namesA] using hb
 | tup l => cases h
 | undef => cases h
 | gone => cases h
 | _ => cases h; intro b hb; rw [namesL_one] at hb; exact hb
theorem store_step {ws : Nat → Bool} (hs : stO o = true) (h : opK E o st some = some s) : ∃ L, s = st.layL L ∧ (stOK ws o st = true → ∀ b blk, look L b = some blk → ws b = true) ∧
  ∀ st' : St, (∀ x ∈ o.op.operands, st'.ev x = st.ev x) → st'.find = st.find → opK E o st' some = some (st'.layL L) := by
 unfold stO at hs
 split at hs
 ·rename_i t p x hg hd ho
  simp only [opK, ho] at h
  split at h
  ·rename_i i hi
   split at h
   ·rename_i vs hvs
    split at h
    ·rename_i hlen
     split at h
     ·rename_i hkn
      have hpm : p ∈ o.op.operands := by simp [ho, Op.operands]
      have hxm : x ∈ o.op.operands := by simp [ho, Op.operands]
      have hall : stOK ws o st = true → ∀ z ∈ o.op.operands, ∀ b ∈ namesA (st.ev z), isFrz (st.find b) = true ∨ ws b = true := by
       intro hok z hz b hb
       have := List.all_eq_true.1 hok b (mem_namesL.2 ⟨_, List.mem_map.2 ⟨z, by simpa using hz, rfl⟩, hb⟩)
       simpa using this
      have go : ∀ (L : List (Nat × Blk)), s = st.layL L → (stOK ws o st = true → ∀ b blk, look L b = some blk → ws b = true) →
        (∀ st' : St, st'.find = st.find → storeC st' (vs.map AV.settle) (fun st => st.put o.dst .undef some) (st.ev p) = some (st'.layL L)) →
        ∃ L, s = st.layL L ∧ (stOK ws o st = true → ∀ b blk, look L b = some blk → ws b = true) ∧
         ∀ st' : St, (∀ x ∈ o.op.operands, st'.ev x = st.ev x) → st'.find = st.find → opK E o st' some = some (st'.layL L) := by
       intro L h1 h2 h3
       refine ⟨L, h1, h2, fun st' he hf => ?_⟩
       simp only [opK, ho, hi]
       rw [he x hxm, he p hpm]
       simp only [hvs, hlen, hkn]
       exact h3 st' hf
      cases hp : st.ev p with
      | box b j =>
       rw [hp] at h
       simp only [storeC] at h
       split at h
       ·rename_i cs hcs
        split at h
        ·rename_i hle
         rw [hd] at h
         cases h
         refine go [(b, .cells (setRange cs j (vs.map AV.settle)))] (by rw [St.lay_one]) ?_ fun st' hf => ?_
         ·intro hok c blk hl
          rw [look_cons] at hl
          split at hl
          ·rename_i e
           rcases hall hok p hpm c (by rw [hp, e]; simp [namesA]) with h | h
           ·rw [e, hcs] at h; cases h
           ·exact h
          ·cases hl
         ·rw [hp]
          simp only [storeC]
          rw [hf, hcs]
          simp only [hle]
          rw [hd, ← St.lay_one]; rfl
        ·cases h
       ·cases h
      | ep b j =>
       rw [hp] at h
       simp only [storeC] at h
       split at h
       ·cases h
       ·rename_i st1 hfz
        obtain ⟨L1, rfl, f1, _, f3⟩ := frzN_dom hfz
        split at h
        ·rename_i e t' l hb
         split at h
         ·rename_i hsz
          split at h
          ·rename_i y hy
           rw [hd] at h
           cases h
           refine go ((b, .flat e t' (List.set l j y)) :: L1) (by rw [← St.lay_layL]) ?_ fun st' hf => ?_
           ·intro hok c blk hl
            have h1 : ∀ c k, look L1 c = some k → ws c = true := by
             intro c k hk
             obtain ⟨r1, r2⟩ := f1 c k hk
             rw [settle_namesL] at r1
             rcases hall hok x hxm c (cellsOf_sub hvs c r1) with h | h
             ·rw [r2] at h; cases h
             ·exact h
            rw [look_cons] at hl
            split at hl
            ·rename_i e'
             subst e'
             have hb : (match look L1 c with | some k => some k | none => st.find c) = some (.flat e t' l) := hb
             cases hk : look L1 c with
             | some k => exact h1 c k hk
             | none =>
              rw [hk] at hb
              rcases hall hok p hpm c (by rw [hp]; simp [namesA]) with h | h
              ·rw [show st.find c = some (.flat e t' l) from hb] at h; cases h
              ·exact h
            ·exact h1 c blk hl
           ·rw [hp]
            simp only [storeC]
            rw [f3 st' (fun c _ => by rw [hf])]
            have e2 : (st'.layL L1).find = (st.layL L1).find := by unfold St.layL; simp only [hf]
            simp only [e2, hb, hsz]
            rw [cellsData_find e2, hy, hd]
            simp only
            rw [← St.lay_layL]; rfl
          ·cases h
         ·cases h
        ·cases h
      | _ => rw [hp] at h; cases h
     ·cases h
    ·cases h
   ·cases h
  ·cases h
 ·cases hs
end
end Go.V
end
section
namespace Go.V
open Go Go.RowKit
set_option linter.unusedVariables false
set_option linter.unusedSimpArgs false
def boolA : AV → Option Bool
 | .dat t b => match t, b with
  | .bool, b => some b
  | _, _ => none
 | .test pos p i => some (pos == @decide p i)
 | _ => none
section
variable {E : En} {R : Type} {st s st' : St} {o : Oper} {all : List Oper}
theorem forkB_bool {v : AV} {k : Bool → Option R} : forkB v k = (boolA v).bind k := by
 cases v with
 | dat t y =>
  cases t with
  | bool =>
   show forkB1 y k = k y
   unfold forkB1
   revert y
   intro (y : Bool)
   cases y <;> simp
  | _ => rfl
 | test pos p i =>
  cases pos
  ·show @ite _ p i (k false) (k true) = k (false == @decide p i)
   split
   ·rename_i h; rw [decide_eq_true h]; rfl
   ·rename_i h; rw [decide_eq_false h]; rfl
  ·show @ite _ p i (k true) (k false) = k (true == @decide p i)
   split
   ·rename_i h; rw [decide_eq_true h]; rfl
   ·rename_i h; rw [decide_eq_false h]; rfl
 | _ => rfl
theorem boolA_ren (σ : Nat → Option Nat) (v : AV) : boolA (v.ren σ) = boolA v := by
 cases v <;> simp only [AV.ren] <;> first | rfl | (split <;> rfl)
def Keeps (o : Oper) (st s : St) : Prop := ∀ d, o.dst ≠ some d → boolA (s.get d) = boolA (st.get d)
theorem put_run {st0 st1 : St} {v : AV} {k : St → Option R} {r : R} (hb : ∀ d, boolA (st1.get d) = boolA (st0.get d)) (h : st1.put o.dst v k = some r) : ∃ s, st1.put o.dst v some = some s ∧ k s = some r ∧ Keeps o st0 s := by
 cases hd : o.dst with
 | none =>
  rw [hd] at h
  exact ⟨st1, rfl, h, fun d _ => hb d⟩
 | some e =>
  rw [hd] at h
  unfold St.put at h ⊢
  simp only at h ⊢
  split at h
  ·rename_i hlt
   refine ⟨_, rfl, h, fun d hne => ?_⟩
   rw [St.get_set, if_neg (fun e' => hne (by rw [hd, e']))]
   exact hb d
  ·cases h
theorem frzN_get : ∀ {ns : List Nat} {st st' : St}, frzN st ns = some st' → st'.get = st.get
 | [], _, _, h => by cases h; rfl
 | b :: ns, st, st', h => by
  unfold frzN at h
  split at h
  ·rename_i e t l _
   exact (show st'.get = (st.lay b (.frz e t l)).get from frzN_get h)
  ·exact frzN_get h
  ·rename_i k v m _
   exact (show st'.get = (st.lay b (.fmp k v m)).get from frzN_get h)
  ·exact frzN_get h
  ·cases h
theorem setOut1_get {d : D1} {x : d.den} {v : AV} {st s : St} (h : setOut1 st d x v = some s) : s.get = st.get := by
 cases d with
 | dat t => cases h
 | own e t => cases v with
  | own b => cases (show some _ = some s from h); rfl
  | nil => cases (show some _ = some s from h); rfl
  | _ => cases h
 | cel t => rcases v with _ | _ | _ | _ | _ | _ | _ | _ | _ | ⟨b, _ | _⟩ | _ | _ | _ | _ | _ <;> first | (cases h; done) | (cases (show some _ = some s from h); rfl)
theorem setOuts_get : ∀ {ds : List D1} {x : dens ds} {cells : List AV} {st s : St}, setOuts st ds x cells = some s → s.get = st.get
 | [], x, cells, st, s, h => by
  cases cells with
  | nil => cases (show some st = some s from h); rfl
  | cons _ _ => cases h
 | [d], x, cells, st, s, h => by
  have h : (match one? cells with | some v => setOut1 st d x v | none => none) = some s := h
  split at h
  ·exact setOut1_get h
  ·cases h
 | d :: d' :: ds, x, cells, st, s, h => by
  cases cells with
  | nil => cases h
  | cons v cells =>
   have h : (match setOut1 st d x.1 v with | some st => setOuts st (d' :: ds) x.2 cells | none => none) = some s := h
   split at h
   ·rename_i st1 h1
    exact (setOuts_get h).trans (setOut1_get h1)
   ·cases h
theorem placeL_get {ds : List D1} {x : dens ds} {nm : Nat} {st s : St} {cs : List AV} (h : placeL st nm ds x = some (cs, s)) : s.get = st.get := by
 obtain ⟨ns, rfl, _, _⟩ := placeL_free h
 rfl
theorem callAny_run {nm : Nat} {args : List AV} {k : St → Option R} {r : R} : ∀ {l : List Does}, callAny nm st o.dst args k l = some r → ∃ s, callAny nm st o.dst args some l = some s ∧ k s = some r ∧ Keeps o st s
 | [], h => by cases h
 | S :: l, h => by
  unfold callAny at h ⊢
  split at h
  ·split at h
   ·rename_i x hx
    unfold callK at h ⊢
    split at h
    ·cases h
    ·rename_i rch hsep
     obtain ⟨y, hy, hB⟩ := Option.bind_eq_some_iff.1 h
     simp only [hy, Option.bind_some]
     clear h
     split at hB
     ·cases hB
     ·rename_i st1 h1
      have g1 : st1.get = st.get := by
       unfold frzIf at h1
       split at h1
       ·cases h1; rfl
       ·exact frzN_get h1
      split at hB
      ·cases hB
      ·rename_i st2 h2
       have g2 := setOuts_get h2
       split at hB
       ·cases hB
       ·rename_i cs st3 h3
        have g3 := placeL_get h3
        have hb : ∀ d, boolA (st3.get d) = boolA (st.get d) := fun d => by rw [g3, g2, g1]
        split at hB
        ·exact put_run hb hB
        ·exact put_run hb hB
        ·cases hB
   ·exact callAny_run h
  ·exact callAny_run h
theorem fzAny_run {nm : Nat} {args : List AV} {k : St → Option R} {r : R} {l : List Does} (h : callAny nm st o.dst args (fzK E o.dst k) l = some r) : ∃ s, callAny nm st o.dst args (fzK E o.dst some) l = some s ∧ k s = some r ∧ Keeps o st s := by
 obtain ⟨s0, h1, h2, h3⟩ := callAny_run h
 rw [callAny_sel _ h1]
 unfold fzK at h2 ⊢
 cases hd : o.dst with
 | none => rw [hd] at h2; exact ⟨s0, rfl, h2, h3⟩
 | some d =>
  rw [hd] at h2
  simp only at h2 ⊢
  split at h2
  ·exact ⟨s0, rfl, h2, h3⟩
  ·split at h2
   ·rename_i s1 hfz
    exact ⟨s1, rfl, h2, fun d' hne => by rw [frzN_get hfz]; exact h3 d' hne⟩
   ·cases h2
theorem mputK_run {kt vt : Ty} {key : kt.den} {u : vt.den} {v : AV} {k : St → Option R} {r : R} (h : mputK o.dst kt vt st key u k v = some r) : ∃ s, mputK o.dst kt vt st key u some v = some s ∧ k s = some r ∧ Keeps o st s := by
 unfold mputK at h ⊢
 split at h
 ·split at h
  ·split at h
   ·exact put_run (st0 := st) (fun d => rfl) h
   ·cases h
  ·cases h
 ·cases h
theorem opK_run {k : St → Option R} {r : R} (h : opK E o st k = some r) : ∃ s, opK E o st some = some s ∧ k s = some r ∧ Keeps o st s := by
 have refl : ∀ d, boolA (st.get d) = boolA (st.get d) := fun _ => rfl
 cases ho : o.op with
 | move x => simp only [opK, ho] at h ⊢; exact put_run refl h
 | assign x => simp only [opK, ho] at h ⊢; exact put_run refl h
 | pick c x y =>
  simp only [opK, ho] at h ⊢
  obtain ⟨t, h1, h2⟩ := forkB_sel h
  rw [h2]; exact put_run refl h1
 | binOp op t x y u =>
  simp only [opK, ho] at h ⊢
  obtain ⟨v, h1, h2⟩ := bin2K_sel h
  rw [h2]; exact put_run refl h1
 | unOp op t x => simp only [opK, ho] at h ⊢; split at h <;> first | exact put_run refl h | cases h
 | lookup t x ix ok =>
  simp only [opK, ho] at h ⊢
  split at h
  ·split at h
   ·exact put_run refl h
   ·cases h
  ·cases h
 | makeMap t rv =>
  simp only [opK, ho] at h ⊢
  split at h
  ·unfold mapK at h ⊢
   split at h
   ·rename_i st2 hal
    obtain ⟨_, rfl⟩ := alloc_find hal
    exact put_run (st0 := st) (fun d => rfl) h
   ·cases h
  ·cases h
 | mapUpdate t x ix y =>
  simp only [opK, ho] at h ⊢
  split at h
  ·split at h
   ·exact mputK_run h
   ·cases h
  ·cases h
 | insert t x ix y =>
  simp only [opK, ho] at h ⊢
  split at h
  ·split at h
   ·exact mputK_run h
   ·cases h
  ·cases h
 | convert src dst x =>
  simp only [opK, ho] at h ⊢
  split at h
  ·split at h
   ·split at h
    ·exact put_run refl h
    ·cases h
   ·cases h
  ·cases h
 | extract x i =>
  simp only [opK, ho] at h ⊢
  split at h
  ·split at h
   ·exact put_run refl h
   ·cases h
  ·cases h
 | nilCheck x =>
  simp only [opK, ho] at h ⊢
  split at h
  ·exact put_run refl h
  ·exact put_run refl h
  ·exact put_run refl h
  ·rename_i t y hv
   cases y with
   | none => cases h
   | some y => exact put_run refl (v := .dp t y) h
  ·cases h
 | load t p =>
  simp only [opK, ho] at h ⊢
  split at h
  ·split at h
   ·split at h
    ·exact put_run refl h
    ·cases h
   ·cases h
  ·cases h
 | field t x f =>
  simp only [opK, ho] at h ⊢
  split at h
  ·split at h
   ·split at h
    ·split at h
     ·split at h
      ·exact put_run refl h
      ·cases h
     ·cases h
    ·cases h
   ·cases h
  ·cases h
 | makeFunc fn first captured =>
  cases fn with
  | func f =>
   simp only [opK, ho] at h ⊢
   split at h
   ·split at h
    ·cases h
    ·split at h
     ·exact put_run refl h
     ·cases h
   ·split at h
    ·split at h
     ·exact put_run refl h
     ·cases h
    ·cases h
  | _ => simp only [opK, ho] at h; cases h
 | build t parts =>
  simp only [opK, ho] at h ⊢
  split at h
  ·split at h
   ·split at h
    ·split at h
     ·exact put_run refl h
     ·cases h
    ·cases h
   ·cases h
  ·cases h
 | box e x =>
  simp only [opK, ho] at h ⊢
  split at h
  ·unfold boxK at h ⊢
   split at h
   ·rename_i st1 _ h2
    obtain ⟨_, rfl⟩ := alloc_find h2
    exact put_run (fun _ => rfl) h
   ·cases h
  ·cases h
 | alloc e =>
  simp only [opK, ho] at h ⊢
  split at h
  ·unfold boxK at h ⊢
   split at h
   ·rename_i st1 _ h2
    obtain ⟨_, rfl⟩ := alloc_find h2
    exact put_run (fun _ => rfl) h
   ·cases h
  ·cases h
 | fieldAddr t p f =>
  simp only [opK, ho] at h ⊢
  split at h
  ·split at h
   ·split at h
    ·cases h
    ·split at h
     ·cases h
     ·split at h
      ·split at h
       ·split at h
        ·exact put_run refl h
        ·cases h
       ·cases h
      ·split at h
       ·split at h
        ·exact put_run refl h
        ·cases h
       ·cases h
      ·cases h
   ·cases h
  ·cases h
 | indexAddr t x ix =>
  simp only [opK, ho] at h ⊢
  split at h
  ·split at h
   ·cases h
   ·split at h
    ·split at h
     ·split at h
      ·obtain ⟨h1, h2⟩ := idxK_sel h
       rw [h2]; exact put_run refl h1
      ·cases h
     ·split at h
      ·split at h
       ·obtain ⟨h1, h2⟩ := idxK_sel h
        rw [h2]; exact put_run refl h1
       ·cases h
      ·split at h
       ·obtain ⟨h1, h2⟩ := idxK_sel h
        rw [h2]; exact put_run refl h1
       ·cases h
      ·split at h
       ·obtain ⟨h1, h2⟩ := idxK_sel h
        rw [h2]; exact put_run refl h1
       ·cases h
      ·cases h
     ·cases h
    ·cases h
  ·cases h
 | makeSlice t l c =>
  simp only [opK, ho] at h ⊢
  split at h
  ·split at h
   ·split at h
    ·split at h
     ·split at h
      ·split at h
       ·obtain ⟨h1, h2⟩ := makeK_sel h
        rw [h2]
        unfold rowK at h1 ⊢
        split at h1
        ·rename_i st1 hal
         obtain ⟨_, rfl⟩ := alloc_find hal
         exact put_run (fun _ => rfl) h1
        ·cases h1
       ·cases h
      ·cases h
     ·cases h
    ·cases h
   ·cases h
  ·cases h
 | slice t x lo hi mx =>
  cases mx with
  | some _ => simp only [opK, ho] at h; cases h
  | none =>
   simp only [opK, ho] at h ⊢
   have hbk : bareK E o (st.ev x) = true := by
    cases hb : bareK E o (st.ev x) with
    | true => rfl
    | false => simp only [hb] at h; cases h
   simp only [hbk] at h ⊢
   split at h
   ·split at h
    ·split at h
     ·cases h
     ·split at h
      ·cases h
      ·split at h
       ·unfold queK at h ⊢
        split at h
        ·split at h
         ·obtain ⟨h1, h2⟩ := cutK_sel h
          rw [h2]
          exact put_run (fun d => boolA_ren _ _) h1
         ·cases h
        ·cases h
       ·split at h
        ·cases h
        ·rename_i st1 hfz
         have g := frzN_get hfz
         split at h
         ·cases h
         ·split at h
          ·cases h
          ·split at h
           ·cases h
           ·obtain ⟨h1, h2⟩ := cutK_sel h
            rw [h2]
            exact put_run (fun d => by rw [g]) h1
    ·cases h
   ·cases h
 | buildSlice t n parts =>
  simp only [opK, ho] at h ⊢
  split at h
  ·split at h
   ·split at h
    ·split at h
     ·split at h
      ·rename_i st1 hfz
       have g := frzN_get hfz
       split at h
       ·unfold rowK at h ⊢
        split at h
        ·rename_i st2 hal
         obtain ⟨_, rfl⟩ := alloc_find hal
         exact put_run (fun d => by show boolA (st1.get d) = _; rw [g]) h
        ·cases h
       ·cases h
      ·cases h
     ·cases h
    ·cases h
   ·cases h
  ·cases h
 | store t p x =>
  simp only [opK, ho] at h ⊢
  split at h
  ·split at h
   ·split at h
    ·split at h
     ·have key : ∀ {vs : List AV} {p : AV}, storeC st vs (fun st => st.put o.dst .undef k) p = some r → ∃ s, storeC st vs (fun st => st.put o.dst .undef some) p = some s ∧ k s = some r ∧ Keeps o st s := by
       intro vs p h
       cases p with
       | box b i =>
        simp only [storeC] at h ⊢
        split at h
        ·split at h
         ·exact put_run (fun _ => rfl) h
         ·cases h
        ·cases h
       | ep b i =>
        simp only [storeC] at h ⊢
        split at h
        ·cases h
        ·rename_i st1 hfz
         have g := frzN_get hfz
         split at h
         ·split at h
          ·split at h
           ·exact put_run (fun d => by show boolA (st1.get d) = _; rw [g]) h
           ·cases h
          ·cases h
         ·cases h
       | _ => cases h
      exact key h
     ·cases h
    ·cases h
   ·cases h
  ·cases h
 | call c =>
  cases hcal : c.callee with
  | invoke _ _ => simp only [opK, ho, hcal] at h; cases h
  | value f =>
   simp only [opK, ho, hcal] at h ⊢
   split at h
   ·obtain ⟨l', h1, _, h3⟩ := sureK_sel h
    rw [h3]
    exact fzAny_run h1
   ·obtain ⟨l', h1, _, h3⟩ := sureK_sel h
    rw [h3]
    exact fzAny_run h1
   ·cases h
  | builtin b =>
   cases b with
   | len =>
    simp only [opK, ho, hcal] at h ⊢
    split at h
    ·split at h
     ·split at h
      ·exact put_run refl h
      ·cases h
     ·split at h
      ·exact put_run refl h
      ·cases h
     ·cases h
    ·cases h
   | max =>
    simp only [opK, ho, hcal] at h ⊢
    split at h
    ·split at h
     ·exact put_run refl h
     ·cases h
    ·cases h
   | min =>
    simp only [opK, ho, hcal] at h ⊢
    split at h
    ·split at h
     ·exact put_run refl h
     ·cases h
    ·cases h
   | append =>
    simp only [opK, ho, hcal] at h ⊢
    split at h
    ·split at h
     ·unfold appendK at h ⊢
      split at h
      ·split at h
       ·cases h
       ·split at h
        ·cases h
        ·split at h
         ·split at h
          ·cases h
          ·split at h
           ·rename_i b hb
            split at h
            ·split at h
             ·obtain ⟨h1, h2⟩ := roomK_sel h
              rw [h2]
              exact put_run (fun d => boolA_ren _ _) h1
             ·cases h
            ·split at h
             ·obtain ⟨h1, h2⟩ := roomK_sel h
              rw [h2]
              exact put_run (fun d => boolA_ren _ _) h1
             ·cases h
            ·cases h
           ·obtain ⟨h1, h2⟩ := roomK_sel h
            rw [h2]
            unfold rowK at h1 ⊢
            split at h1
            ·rename_i st2 hal
             obtain ⟨_, rfl⟩ := alloc_find hal
             exact put_run (st0 := st) (fun d => rfl) h1
            ·cases h1
           ·cases h
         ·cases h
      ·cases h
     ·cases h
    ·cases h
   | _ => simp only [opK, ho, hcal] at h; cases h
 | _ => simp only [opK, ho] at h; cases h
end
end Go.V
end
section
namespace Go.V
open Go Go.RowKit
set_option linter.unusedVariables false
set_option linter.unusedSimpArgs false
def skipA (want : Bool) (v : AV) : Option Bool :=
 match goneA v with
 | true => some true
 | false => (boolA v).map fun t => Bool.xor t want
noncomputable def gK (E : En) (all : List Oper) (o : Oper) (st : St) : Option St :=
 match o.guard with
 | none => opK E o st some
 | some (j, want) => match dstOf all j with
  | none => none
  | some d => match skipA want (st.get d) with
   | none => none
   | some true => st.put o.dst .gone some
   | some false => opK E o st some
def Quiet (E : En) (pr mv : Bool) (o : Oper) (st : St) : Prop := calm o st = true ∨ (pr = true ∧ calmR E o st = true) ∨ (mv = true ∧ appO o = true)
def GCalm0 (E : En) (all : List Oper) (pr : Bool) (o : Oper) (st : St) : Prop :=
 match o.guard with
 | none => calm o st = true ∨ (pr = true ∧ calmR E o st = true)
 | some (j, want) => ∀ d, dstOf all j = some d → skipA want (st.get d) = some false → calm o st = true ∨ (pr = true ∧ calmR E o st = true)
def WCalm (E : En) (ws : Nat → Bool) (gn sl : Bool) (o : Oper) (st : St) : Prop := wcallO o = true ∧ (sl = true ∨ (gn = true ∧ writesO E o = true ∧ wOK ws o st = true))
def SCalm (ws : Nat → Bool) (pr sl : Bool) (o : Oper) (st : St) : Prop := stO o = true ∧ (sl = true ∨ (pr = true ∧ stOK ws o st = true))
structure Fg where
 pr : Bool
 mv : Bool
 sl : Bool
 gn : Bool
 bw : Bool
 ws : Nat → Bool
def GCalm (E : En) (all : List Oper) (f : Fg) (o : Oper) (st : St) : Prop := (GCalm0 E all f.pr o st ∨ (f.mv = true ∧ appO o = true) ∨ WCalm E f.ws f.gn f.sl o st ∨ SCalm f.ws f.pr f.sl o st) ∧ (f.bw = true → rowyO f.ws o st = true)
def fgOf (fl : Fl) (i : Nat) : Fg := ⟨fl.prs i, fl.mvs i, fl.sls i, fl.gns i, fl.bws i, fl.ws⟩
section
variable {E : En} {R : Type} {st s st' : St} {o : Oper} {all : List Oper}
theorem ev_of_slots (h : ∀ d ∈ slotsOf o, st'.get d = st.get d) : ∀ x ∈ o.op.operands, st'.ev x = st.ev x := by
 intro x hx
 cases x with
 | tmp t => exact h t (by simp only [slotsOf, List.mem_filterMap]; exact ⟨.tmp t, by simpa using hx, rfl⟩)
 | const v => cases v <;> rfl
 | _ => rfl
theorem const_names (v : Value) : namesA (constAV v) = [] := by
 unfold constAV
 split <;> rfl
theorem names_of_slots {P : Nat → Prop} (h : ∀ d ∈ slotsOf o, ∀ b ∈ namesA (st.get d), P b) : ∀ x ∈ o.op.operands, ∀ b ∈ namesA (st.ev x), P b := by
 intro x hx b hb
 cases x with
 | tmp t => exact h t (by simp only [slotsOf, List.mem_filterMap]; exact ⟨.tmp t, by simpa using hx, rfl⟩) b hb
 | const v =>
  have key : namesA (st.ev (.const v)) = [] := by
   have c := const_names v
   cases v with
   | agg cs =>
    show namesA.namesL (cs.toList.map constAV) = []
    refine List.eq_nil_iff_forall_not_mem.2 fun c hc => ?_
    obtain ⟨u, hu, hm⟩ := mem_namesL.1 hc
    obtain ⟨v, _, rfl⟩ := List.mem_map.1 hu
    rw [const_names] at hm; cases hm
   | _ => exact c
  rw [key] at hb; cases hb
 | func f =>
  have key : namesA (st.ev (.func f)) = [] := by
   show namesA (match Nat.ble bfst f with | true => AV.undef | false => AV.clo f []) = []
   cases Nat.ble bfst f <;> rfl
  rw [key] at hb; cases hb
 | global g => simp [St.ev, namesA] at hb
theorem calm_congr (h : ∀ x ∈ o.op.operands, st'.ev x = st.ev x) : calm o st' = calm o st := by
 unfold calm
 cases ho : o.op with
 | slice t x lo hi mx => simp only; rw [h x (by simp [ho, Op.operands])]
 | buildSlice t n parts =>
  simp only
  rw [show (parts.toList.map fun p => st'.ev p.2) = (parts.toList.map fun p => st.ev p.2) from List.map_congr_left fun p hp => by rw [h p.2 (by simp [ho, Op.operands]; exact ⟨p.1, by simpa using hp⟩)]]
 | call c =>
  simp only
  cases hcal : c.callee with
  | value f =>
   simp only
   rw [h f (by simp [ho, Op.operands, Call.operands, hcal]), show c.args.toList.map st'.ev = c.args.toList.map st.ev from List.map_congr_left fun x hx => h x (by simp only [ho, Op.operands, Call.operands, hcal, Array.mem_append]; exact .inr (by simpa using hx))]
  | builtin b => cases b <;> rfl
  | _ => rfl
 | _ => rfl
theorem calmR_congr (h : ∀ x ∈ o.op.operands, st'.ev x = st.ev x) (hf : st'.find = st.find) : calmR E o st' = calmR E o st := by
 unfold calmR
 rw [hf]
 cases ho : o.op with
 | call c =>
  simp only
  cases hcal : c.callee with
  | value f => simp only; rw [h f (by simp [ho, Op.operands, Call.operands, hcal])]
  | _ => rfl
 | buildSlice t n parts =>
  simp only
  rw [show (parts.toList.map fun p => st'.ev p.2) = (parts.toList.map fun p => st.ev p.2) from List.map_congr_left fun p hp => h p.2 (by simp [ho, Op.operands]; exact ⟨p.1, by simpa using hp⟩)]
 | slice t x lo hi mx =>
  cases mx with
  | none => simp only; rw [h x (by simp [ho, Op.operands])]
  | some _ => rfl
 | _ => rfl
structure GStep' (E : En) (all : List Oper) (pr : Bool) (o : Oper) (st s : St) (v : AV) (ns : List (Nat × Blk)) (rt : Bool) : Prop where
 put : (st.layL ns).put o.dst v some = some s
 fresh : ∀ b blk, look ns b = some blk → st.find b = none
 side : rt = true → pr = true
 mono : ∀ st' : St, st'.n = st.n → (∀ d ∈ seenBy all o, st'.get d = st.get d) → ((rt = false ∧ ∀ d ∈ slotsOf o, ∀ b ∈ namesA (st.get d), ∀ blk, st.find b = some blk → st'.find b = some blk) ∨ st'.find = st.find) → (∀ b blk, look ns b = some blk → st'.find b = none) →
  gK E all o st' = (st'.layL ns).put o.dst v some ∧ GCalm0 E all pr o st'
theorem gstep {pr : Bool} (h : gK E all o st = some s) (hc : GCalm0 E all pr o st) : ∃ v ns rt, GStep' E all pr o st s v ns rt := by
 have calmly : ∀ {st s : St}, opK E o st some = some s → (calm o st = true ∨ (pr = true ∧ calmR E o st = true)) → ∃ v ns rt, (st.layL ns).put o.dst v some = some s ∧ (∀ b blk, look ns b = some blk → st.find b = none) ∧ (rt = true → pr = true) ∧
   ∀ st' : St, st'.n = st.n → (∀ d ∈ slotsOf o, st'.get d = st.get d) → ((rt = false ∧ ∀ d ∈ slotsOf o, ∀ b ∈ namesA (st.get d), ∀ blk, st.find b = some blk → st'.find b = some blk) ∨ st'.find = st.find) → (∀ b blk, look ns b = some blk → st'.find b = none) →
    opK E o st' some = (st'.layL ns).put o.dst v some ∧ (calm o st' = true ∨ (pr = true ∧ calmR E o st' = true)) := by
  intro st s h hc
  rcases hc with hc | ⟨hp, hc⟩
  ·obtain ⟨v, ns, q1, q2, q3⟩ := calm_spec h hc
   refine ⟨v, ns, false, q1, q2, (fun e => by cases e), fun st' h0 h1 h2 h3 => ?_⟩
   have he := ev_of_slots h1
   refine ⟨q3 st' h0 he ?_ h3, .inl ?_⟩
   ·rcases h2 with ⟨_, h2⟩ | h2
    ·exact fun x hx b hb => names_of_slots (P := fun b => ∀ blk, st.find b = some blk → st'.find b = some blk) h2 x hx b hb
    ·exact fun x hx b hb blk hf => by rw [h2]; exact hf
   ·rw [calm_congr he]; exact hc
  ·obtain ⟨v, ns, q1, q2, q3⟩ := calmR_spec h hc
   refine ⟨v, ns, true, q1, q2, fun _ => hp, fun st' h0 h1 h2 h3 => ?_⟩
   have he := ev_of_slots h1
   rcases h2 with ⟨h2, _⟩ | h2
   ·cases h2
   ·exact ⟨q3 st' h0 he h2, .inr ⟨hp, by rw [calmR_congr he h2]; exact hc⟩⟩
 cases hg : o.guard with
 | none =>
  simp only [gK, hg] at h
  simp only [GCalm0, hg] at hc
  obtain ⟨v, ns, rt, q1, q2, q4, q3⟩ := calmly h hc
  refine ⟨v, ns, rt, q1, q2, q4, fun st' h0 h1 h2 h3 => ?_⟩
  have h1 : ∀ d ∈ slotsOf o, st'.get d = st.get d := by simpa only [seenBy, hg] using h1
  obtain ⟨p1, p2⟩ := q3 st' h0 h1 h2 h3
  refine ⟨?_, ?_⟩
  ·simp only [gK, hg]; exact p1
  ·simp only [GCalm0, hg]; exact p2
 | some g =>
  obtain ⟨j, want⟩ := g
  simp only [gK, hg] at h
  simp only [GCalm0, hg] at hc
  split at h
  ·cases h
  ·rename_i d hd
   split at h
   ·cases h
   ·rename_i ht
    refine ⟨.gone, [], false, h, (fun b blk h => by cases h), (fun e => by cases e), fun st' h0 h1 h2 h3 => ?_⟩
    have hdd : st'.get d = st.get d := h1 d (by simp [seenBy, hg, hd])
    refine ⟨?_, ?_⟩
    ·simp only [gK, hg, hd, hdd, ht]; rfl
    ·simp only [GCalm0, hg]
     intro d' e1 e2
     rw [hd] at e1; cases e1
     rw [hdd, ht] at e2; cases e2
   ·rename_i ht
    obtain ⟨v, ns, rt, q1, q2, q4, q3⟩ := calmly h (hc d hd ht)
    refine ⟨v, ns, rt, q1, q2, q4, fun st' h0 h1 h2 h3 => ?_⟩
    have hdd : st'.get d = st.get d := h1 d (by simp [seenBy, hg, hd])
    have h1 : ∀ d ∈ slotsOf o, st'.get d = st.get d := fun d' hd' => h1 d' (by simp [seenBy, hg, hd, hd'])
    obtain ⟨p1, p2⟩ := q3 st' h0 h1 h2 h3
    refine ⟨?_, ?_⟩
    ·simp only [gK, hg, hd, hdd, ht]; exact p1
    ·simp only [GCalm0, hg]
     intro d' e1 e2
     exact p2
theorem gpure_find (h : gK E all o st = some s) (hp : pureO o = true) : s.find = st.find := by
 unfold gK at h
 split at h
 ·exact pure_find h hp
 ·split at h
  ·cases h
  ·split at h
   ·cases h
   ·exact put_find h
   ·exact pure_find h hp
theorem put_some {v : AV} {d : Tmp} (h : st.put (some d) v some = some s) : d < st.n ∧ s = st.set d v := by
 unfold St.put at h
 simp only at h
 split at h
 ·rename_i hlt
  cases h
  exact ⟨by simpa [Nat.blt_eq] using hlt, rfl⟩
 ·cases h
theorem put_of {v : AV} {d : Tmp} (h : d < st.n) : st.put (some d) v some = some (st.set d v) := by
 unfold St.put
 simp only [show Nat.blt d st.n = true by simpa [Nat.blt_eq] using h]
def There (o : Oper) (st : St) : Prop := ∀ d ∈ slotsOf o, ∀ b ∈ namesA (st.get d), st.find b ≠ none
theorem slots_seen {d : Nat} (h : d ∈ slotsOf o) : d ∈ seenBy all o := by
 unfold seenBy
 cases o.guard with
 | none => exact h
 | some g =>
  obtain ⟨j, w⟩ := g
  simp only
  split
  ·exact List.mem_cons_of_mem _ h
  ·exact h
theorem swap0 {x y : Oper} {px py : Bool} {s1 s2 : St} (hx : gK E all x st = some s1) (hy : gK E all y s1 = some s2) (cx : GCalm0 E all px x st) (cy : GCalm0 E all py y s1) (ap : apartO all x y = true) (hpx : px = true → pureO y = true) (hpy : py = true → pureO x = true) (wf : There y st) :
  ∃ s', gK E all y st = some s' ∧ gK E all x s' = some s2 ∧ GCalm0 E all py y st ∧ GCalm0 E all px x s' := by
 obtain ⟨v1, ns1, rt1, p1, f1, sd1, m1⟩ := gstep hx cx
 obtain ⟨v2, ns2, rt2, p2, f2, sd2, m2⟩ := gstep hy cy
 unfold apartO at ap
 split at ap
 ·rename_i d1 d2 hd1 hd2
  simp only [Bool.and_eq_true, Bool.not_eq_true', Bool.eq_false_iff, ne_eq, any_beq] at ap
  obtain ⟨⟨a1, a2⟩, a3⟩ := ap
  have a3 : d1 ≠ d2 := fun e => a3 (by rw [e]; exact Nat.beq_refl d2)
  rw [hd1] at p1
  rw [hd2] at p2
  have same1 : rt2 = true → s1.find = st.find := fun e => gpure_find hx (hpy (sd2 e))
  obtain ⟨l1, rfl⟩ := put_some p1
  obtain ⟨l2, rfl⟩ := put_some p2
  have get1 : ∀ d, d ≠ d1 → ((st.layL ns1).set d1 v1).get d = st.get d := fun d hne => by rw [St.get_set, if_neg hne]; rfl
  have find1 : ∀ b, ((st.layL ns1).set d1 v1).find b = match look ns1 b with | some c => some c | none => st.find b := fun b => rfl
  have seen_y : ∀ d ∈ seenBy all y, ((st.layL ns1).set d1 v1).get d = st.get d := fun d hd => get1 d fun e => a1 (e ▸ hd)
  have dis : ∀ b blk, look ns2 b = some blk → look ns1 b = none ∧ st.find b = none := by
   intro b blk hb
   have := f2 b blk hb
   rw [find1] at this
   cases hn : look ns1 b with
   | none => rw [hn] at this; exact ⟨rfl, this⟩
   | some c => rw [hn] at this; cases this
  have g1 := m2 st rfl (fun d hd => (seen_y d hd).symm) (by
   cases hrt : rt2 with
   | true => exact .inr (same1 hrt).symm
   | false =>
    refine .inl ⟨rfl, fun d hd b hb blk hf => ?_⟩
    rw [seen_y d (slots_seen hd)] at hb
    have hne := wf d hd b hb
    rw [find1] at hf
    cases hn : look ns1 b with
    | none => rw [hn] at hf; exact hf
    | some c => exact absurd (f1 b c hn) hne) (fun b blk hb => (dis b blk hb).2)
  rw [hd2] at g1
  have l2' : d2 < (st.layL ns2).n := l2
  rw [put_of l2'] at g1
  have g2 := m1 ((st.layL ns2).set d2 v2) rfl (fun d hd => by rw [St.get_set, if_neg (fun (e : d = d2) => a2 (e ▸ hd))]; rfl) (by
   cases hrt : rt1 with
   | true => exact .inr (gpure_find g1.1 (hpx (sd1 hrt)))
   | false =>
    refine .inl ⟨rfl, fun d hd b hb blk hf => ?_⟩
    show (match look ns2 b with | some c => some c | none => st.find b) = some blk
    cases hn : look ns2 b with
    | none => exact hf
    | some c => have := (dis b c hn).2; rw [this] at hf; cases hf) (fun b blk hb => by
   show (match look ns2 b with | some c => some c | none => st.find b) = none
   cases hn : look ns2 b with
   | none => exact f1 b blk hb
   | some c => have := (dis b c hn).1; rw [this] at hb; cases hb)
  rw [hd1] at g2
  have l1' : d1 < (((st.layL ns2).set d2 v2).layL ns1).n := l1
  rw [put_of l1'] at g2
  refine ⟨_, g1.1, ?_, g1.2, g2.2⟩
  ·rw [g2.1]
   congr 1
   unfold St.set St.layL
   congr 1
   ·funext d
    simp only [upd_eq]
    by_cases e1 : d = d1
    ·by_cases e2 : d = d2
     ·exact absurd (e1.symm.trans e2) a3
     ·simp [e1, a3]
    ·by_cases e2 : d = d2 <;> simp [e1, e2, Ne.symm a3]
   ·funext b
    simp only
    cases h2 : look ns2 b with
    | none => rfl
    | some c => rw [(dis b c h2).1]
 ·cases ap
theorem mvO_spec (h : mvO E o = true) : o.guard = none ∧ ((∃ e, o.op = .move (.tmp e)) ∨ ∃ t x lo hi, o.op = .slice t x lo hi none ∧ bareM E o = true) := by
 unfold mvO at h
 split at h
 ·rename_i hg ho; exact ⟨hg, .inl ⟨_, ho⟩⟩
 ·rename_i hg ho; exact ⟨hg, .inr ⟨_, _, _, _, ho, h⟩⟩
 ·cases h
theorem datV_ren {κ : Nat → Option Nat} {v : AV} (h : isDatV v = true) : v.ren κ = v := by
 cases v <;> first | rfl | cases h
theorem datV_of_ren {κ : Nat → Option Nat} {v : AV} (h : isDatV (v.ren κ) = true) : isDatV v = true := by
 cases v with
 | dat _ _ => rfl
 | own b => simp only [AV.ren] at h; split at h <;> cases h
 | om b => simp only [AV.ren] at h; split at h <;> cases h
 | box b i => simp only [AV.ren] at h; split at h <;> cases h
 | ep b i => simp only [AV.ren] at h; split at h <;> cases h
 | _ => cases h
theorem datV_names {v : AV} (h : isDatV v = true) : namesA v = [] := by
 cases v <;> first | rfl | cases h
theorem bare_step {t : TypeId} {x : Operand} {lo hi : Option Operand} (ho : o.op = .slice t x lo hi none) (hb : bareM E o = true) (h : opK E o st some = some s) :
  (∀ z ∈ o.op.operands, isDatV (st.ev z) = true) ∧ ∃ v, isDatV v = true ∧ st.put o.dst v some = some s ∧ ∀ st' : St, (∀ z ∈ o.op.operands, st'.ev z = st.ev z) → opK E o st' some = st'.put o.dst v some := by
 have hbd : ∀ {d : Int} {y : Option Operand} {p : Int}, boundA st d y = some p → ∀ z, y = some z → isDatV (st.ev z) = true := by
  intro d y p hp z hz
  subst hz
  unfold boundA at hp
  simp only at hp
  split at hp
  ·rename_i e; rw [e]; rfl
  ·cases hp
 have hbs : ∀ (st' : St) (d : Int) (y : Option Operand), (∀ z, y = some z → st'.ev z = st.ev z) → boundA st' d y = boundA st d y := by
  intro st' d y hy
  cases y with
  | none => rfl
  | some z => simp only [boundA]; rw [hy z rfl]
 simp only [opK, ho] at h
 have hbk : bareK E o (st.ev x) = true := by
  cases hb : bareK E o (st.ev x) with
  | true => rfl
  | false => simp only [hb] at h; cases h
 simp only [hbk] at h
 have hdx : isDatV (st.ev x) = true := by unfold bareK at hbk; rw [hb] at hbk; exact hbk
 have hq0 : ∀ st' : St, queB st' (st.ev x) = none := by
  intro st'
  generalize st.ev x = u at hdx
  cases u <;> first | rfl | cases hdx
 simp only [hq0, datV_names hdx, frzN] at h
 split at h
 ·rename_i e n1 n2 n3 hi'
  split at h
  ·rename_i sty hsty
   split at h
   ·cases h
   ·rename_i i hie
    split at h
    ·cases h
    ·rename_i hsz
     split at h
     ·cases h
     ·rename_i l hl
      split at h
      ·cases h
      ·rename_i p hp
       split at h
       ·cases h
       ·rename_i q hq
        obtain ⟨h1, h2⟩ := cutK_sel h
        have hops : ∀ z ∈ o.op.operands, z = x ∨ lo = some z ∨ hi = some z := by
         intro z hz
         rw [ho] at hz
         simp only [Op.operands, Array.mem_append] at hz
         rcases hz with (hz | hz) | hz
         ·rcases hz with hz | hz
          ·left; simpa using hz
          ·right; left; simpa using hz
         ·right; right; simpa using hz
         ·simp at hz
        refine ⟨fun z hz => ?_, _, rfl, h1, fun st' he => ?_⟩
        ·rcases hops z hz with rfl | h' | h'
         ·exact hdx
         ·exact hbd hp z h'
         ·exact hbd hq z h'
        ·have hx := he x (by simp [ho, Op.operands])
         simp only [opK, ho]
         rw [hx]
         simp only [hbk, hi', hsty, hie, hsz, hq0, datV_names hdx, frzN]
         have hl' : listOf st' sty (st'.ev x) = some l := by
          rw [hx]
          generalize st.ev x = u at hl hdx
          cases u <;> first | exact hl | cases hdx
         rw [hl']
         simp only [hbs st' 0 lo (fun z hz => he z (by simp [ho, Op.operands, hz])), hp, hbs st' _ hi (fun z hz => he z (by simp [ho, Op.operands, hz])), hq, h2]
  ·cases h
 ·cases h
theorem appO_guard (h : appO o = true) : o.guard = none := by
 unfold appO at h
 split at h
 ·rename_i hg ho; exact hg
 ·cases h
theorem mv_run {e : Nat} {d : Tmp} (hg : o.guard = none) (ho : o.op = .move (.tmp e)) (hd : o.dst = some d) : gK E all o st = match Nat.blt d st.n with | true => some (st.set d (st.get e)) | false => none := by
 simp only [gK, hg, opK, ho, hd]
 rfl
theorem mv_calm (pr : Bool) (hg : o.guard = none) {e : Nat} (ho : o.op = .move (.tmp e)) : GCalm0 E all pr o st := by
 simp only [GCalm0, hg]
 left
 simp [calm, ho]
theorem app_run (h : appO o = true) : gK E all o st = opK E o st some := by
 simp only [gK, appO_guard h]
theorem seen_plain (hg : o.guard = none) : seenBy all o = slotsOf o := by
 simp only [seenBy, hg]
theorem apart_spec {x y : Oper} (ap : apartO all x y = true) : ∃ d1 d2, x.dst = some d1 ∧ y.dst = some d2 ∧ d1 ∉ seenBy all y ∧ d2 ∉ seenBy all x ∧ d1 ≠ d2 := by
 unfold apartO at ap
 split at ap
 ·rename_i d1 d2 hd1 hd2
  simp only [Bool.and_eq_true, Bool.not_eq_true', Bool.eq_false_iff, ne_eq, any_beq] at ap
  obtain ⟨⟨a1, a2⟩, a3⟩ := ap
  exact ⟨d1, d2, hd1, hd2, a1, a2, fun e => a3 (by rw [e]; exact Nat.beq_refl d2)⟩
 ·cases ap
theorem swapW1 {x y : Oper} {s1 s2 : St} (hx : gK E all x st = some s1) (hy : gK E all y s1 = some s2) (mx : mvO E x = true) (ay : appO y = true) (ap : apartO all x y = true) :
  ∃ s', gK E all y st = some s' ∧ gK E all x s' = some s2 := by
 obtain ⟨d1, d2, hd1, hd2, a1, a2, a3⟩ := apart_spec ap
 obtain ⟨gx, ⟨e, ox⟩ | ⟨t, xx, lo, hi, ox, hbm⟩⟩ := mvO_spec mx
 rotate_left
 ·simp only [gK, gx] at hx
  obtain ⟨hop, v, hv, hput, hre⟩ := bare_step ox hbm hx
  rw [hd1] at hput
  obtain ⟨hlt, rfl⟩ := put_some hput
  rw [app_run ay] at hy
  obtain ⟨κ, k1, k2, k3, k4, k5⟩ := append_nat ay hy
  rw [seen_plain (appO_guard ay)] at a1
  rw [seen_plain gx] at a2
  have hne : y.dst ≠ some d1 := by rw [hd2]; intro e'; exact a3 (by injection e' with e'; exact e'.symm)
  have h1 := k5 d1 (st.get d1) a1 hne
  rw [St.set_set, St.set_same (s := st) rfl] at h1
  refine ⟨_, by rw [app_run ay]; exact h1, ?_⟩
  simp only [gK, gx]
  rw [hre _ (ev_of_slots fun d hd => ?_), hd1]
  ·show St.put _ (some d1) v some = some s2
   have hn : (s2.set d1 ((st.get d1).ren κ)).n = st.n := k2
   have hlt' : Nat.blt d1 (s2.set d1 ((st.get d1).ren κ)).n = true := by rw [hn, Nat.blt_eq]; exact hlt
   simp only [St.put, hlt']
   rw [St.set_set]
   congr 1
   refine St.set_same ?_
   rw [k4 d1 hne, St.get_set, if_pos rfl, datV_ren hv]
  ·have hdat : isDatV (st.get d) = true := by
    obtain ⟨z, hz, he⟩ := List.mem_filterMap.1 hd
    cases z with
    | tmp q => simp only [Option.some.injEq] at he; subst he; exact hop _ (by simpa using hz)
    | _ => cases he
   rw [St.get_set]
   split
   ·rename_i e'; rw [e', datV_ren (by rw [← e']; exact hdat)]
   ·rename_i e'
    have hne2 : y.dst ≠ some d := by
     rw [hd2]; intro e2; injection e2 with e2
     exact a2 (by rw [e2]; exact hd)
    rw [k4 d hne2, St.get_set, if_neg e', datV_ren hdat]
 rw [mv_run gx ox hd1] at hx
 split at hx
 ·rename_i hlt
  cases hx
  rw [app_run ay] at hy
  obtain ⟨κ, k1, k2, k3, k4, k5⟩ := append_nat ay hy
  rw [seen_plain (appO_guard ay)] at a1
  rw [seen_plain gx] at a2
  have hne : y.dst ≠ some d1 := by rw [hd2]; intro e'; exact a3 (by injection e' with e'; exact e'.symm)
  have h1 := k5 d1 (st.get d1) a1 hne
  rw [St.set_set, St.set_same (s := st) rfl] at h1
  refine ⟨_, by rw [app_run ay]; exact h1, ?_⟩
  rw [mv_run gx ox hd1]
  have hn : (s2.set d1 ((st.get d1).ren κ)).n = st.n := k2
  rw [hn, hlt]
  simp only
  congr 1
  rw [St.set_set]
  refine St.set_same ?_
  rw [k4 d1 hne, St.get_set, if_pos rfl, St.get_set]
  split
  ·rename_i e'; rw [e']
  ·rename_i e'
   have hne2 : y.dst ≠ some e := by
    rw [hd2]; intro e2; injection e2 with e2
    exact a2 (by rw [e2]; simp [slotsOf, ox, Op.operands])
   rw [k4 e hne2, St.get_set, if_neg e']
 ·cases hx
theorem swapW2 {x y : Oper} {s1 s2 : St} (hx : gK E all x st = some s1) (hy : gK E all y s1 = some s2) (ax : appO x = true) (my : mvO E y = true) (ap : apartO all x y = true) :
  ∃ s', gK E all y st = some s' ∧ gK E all x s' = some s2 := by
 obtain ⟨d1, d2, hd1, hd2, a1, a2, a3⟩ := apart_spec ap
 obtain ⟨gy, oy'⟩ := mvO_spec my
 rw [app_run ax] at hx
 obtain ⟨κ, k1, k2, k3, k4, k5⟩ := append_nat ax hx
 rcases oy' with ⟨e, oy⟩ | ⟨t, xx, lo, hi, oy, hbm⟩
 rotate_left
 ·simp only [gK, gy] at hy
  obtain ⟨hop, v, hv, hput, hre⟩ := bare_step oy hbm hy
  rw [hd2] at hput
  obtain ⟨hlt, rfl⟩ := put_some hput
  rw [k2] at hlt
  rw [seen_plain gy] at a1
  rw [seen_plain (appO_guard ax)] at a2
  have hne : x.dst ≠ some d2 := by rw [hd1]; intro e'; injection e' with e'; exact a3 e'
  refine ⟨st.set d2 v, ?_, ?_⟩
  ·simp only [gK, gy]
   rw [hre st (ev_of_slots fun d hd => ?_), hd2]
   ·have hlt' : Nat.blt d2 st.n = true := by rw [Nat.blt_eq]; exact hlt
    simp only [St.put, hlt']
   ·have hdat : isDatV (s1.get d) = true := by
     obtain ⟨z, hz, he⟩ := List.mem_filterMap.1 hd
     cases z with
     | tmp q => simp only [Option.some.injEq] at he; subst he; exact hop _ (by simpa using hz)
     | _ => cases he
    have hne2 : x.dst ≠ some d := by
     rw [hd1]; intro e2; injection e2 with e2
     exact a1 (by rw [e2]; exact hd)
    rw [k4 d hne2] at hdat ⊢
    exact (datV_ren (datV_of_ren hdat)).symm
  ·rw [app_run ax, k5 d2 v a2 hne, datV_ren hv]
 rw [mv_run gy oy hd2] at hy
 split at hy
 ·rename_i hlt
  cases hy
  rw [k2] at hlt
  rw [seen_plain gy] at a1
  rw [seen_plain (appO_guard ax)] at a2
  have hne : x.dst ≠ some d2 := by rw [hd1]; intro e'; injection e' with e'; exact a3 e'
  have hne2 : x.dst ≠ some e := by
   rw [hd1]; intro e2; injection e2 with e2
   exact a1 (by rw [e2]; simp [slotsOf, oy, Op.operands])
  refine ⟨st.set d2 (st.get e), by rw [mv_run gy oy hd2, hlt], ?_⟩
  rw [app_run ax, k5 d2 (st.get e) a2 hne, k4 e hne2]
 ·cases hy
theorem rowyO_keep {ws : Nat → Bool} (h1 : ∀ d ∈ slotsOf o, st'.get d = st.get d) (h2 : ∀ d ∈ slotsOf o, ∀ b ∈ namesA (st.get d), st'.find b = st.find b) : rowyO ws o st' = rowyO ws o st := by
 have e : ((slotsOf o).flatMap fun d => namesA (st'.get d)) = (slotsOf o).flatMap fun d => namesA (st.get d) := by
  have : ∀ l : List Nat, (∀ d ∈ l, st'.get d = st.get d) → (l.flatMap fun d => namesA (st'.get d)) = l.flatMap fun d => namesA (st.get d) := by
   intro l
   induction l with
   | nil => intro _; rfl
   | cons d l ih => intro h; rw [List.flatMap_cons, List.flatMap_cons, h d (by simp), ih fun d hd => h d (by simp [hd])]
  exact this _ h1
 unfold rowyO
 rw [e, calm_congr (ev_of_slots h1)]
 congr 2
 rw [Bool.eq_iff_iff, List.all_eq_true, List.all_eq_true]
 have key : ∀ b ∈ (slotsOf o).flatMap fun d => namesA (st.get d), st'.find b = st.find b := fun b hb => by
  obtain ⟨d, hd, hb⟩ := List.mem_flatMap.1 hb
  exact h2 d hd b hb
 exact ⟨fun h b hb => by rw [← key b hb]; exact h b hb, fun h b hb => by rw [key b hb]; exact h b hb⟩
theorem rowyO_spec {ws : Nat → Bool} (h : rowyO ws o st = true) (hp : gentleO o = true) : slotO o = true ∨ (calm o st = true ∧ ∀ d ∈ slotsOf o, ∀ b ∈ namesA (st.get d), st.find b ≠ none ∧ ws b = false) := by
 unfold rowyO at h
 simp only [hp, Bool.not_true, Bool.false_or, Bool.or_eq_true, Bool.and_eq_true] at h
 rcases h with h | ⟨hc, h⟩
 ·exact .inl h
 ·refine .inr ⟨hc, fun d hd b hb => ?_⟩
  have := List.all_eq_true.1 h b (List.mem_flatMap.2 ⟨d, hd, hb⟩)
  simp only [Bool.and_eq_true, Bool.not_eq_true'] at this
  obtain ⟨h1, h2⟩ := this
  exact ⟨fun e => (by rw [e] at h1; cases h1), h2⟩
theorem layL_idle {ns : List (Nat × Blk)} (h : ∀ b, look ns b = none) (st : St) : st.layL ns = st := by
 unfold St.layL
 simp only [h]
theorem gpure_step (hp : pureO o = true) (h : gK E all o st = some s) : ∃ v, st.put o.dst v some = some s ∧ ∀ st' : St, st'.n = st.n → (∀ d ∈ seenBy all o, st'.get d = st.get d) →
  (slotO o = true ∨ ∀ d ∈ slotsOf o, ∀ b ∈ namesA (st.get d), ∀ blk, st.find b = some blk → st'.find b = some blk) → gK E all o st' = st'.put o.dst v some := by
 have hcalm : calm o st = true := by unfold pureO at hp; unfold calm; split at hp <;> simp_all
 have main : ∀ {s : St}, opK E o st some = some s → ∃ v, st.put o.dst v some = some s ∧ ∀ st' : St, st'.n = st.n → (∀ d ∈ slotsOf o, st'.get d = st.get d) →
   (slotO o = true ∨ ∀ d ∈ slotsOf o, ∀ b ∈ namesA (st.get d), ∀ blk, st.find b = some blk → st'.find b = some blk) → opK E o st' some = st'.put o.dst v some := by
  intro s h
  cases hs : slotO o with
  | true =>
   obtain ⟨v, h1, h2⟩ := slot_step hs h
   exact ⟨v, h1, fun st' _ h3 _ => h2 st' (ev_of_slots h3)⟩
  | false =>
   obtain ⟨v, ns, q1, q2, q3⟩ := calm_spec h hcalm
   have hfind := pure_find h hp
   have hz : ∀ b, look ns b = none := by
    intro b
    cases hl : look ns b with
    | none => rfl
    | some blk =>
     have e := put_find q1
     rw [hfind] at e
     have e : st.find b = (match look ns b with | some c => some c | none => st.find b) := congrFun e b
     rw [hl, q2 b blk hl] at e
     cases e
   have e0 := layL_idle hz
   rw [e0] at q1
   refine ⟨v, q1, fun st' h0 h1 h2 => ?_⟩
   rcases h2 with h2 | h2
   ·cases h2
   ·have := q3 st' h0 (ev_of_slots h1) (fun x hx b hb => names_of_slots (P := fun b => ∀ blk, st.find b = some blk → st'.find b = some blk) h2 x hx b hb) (fun b blk hb => by rw [hz] at hb; cases hb)
    rwa [e0] at this
 cases hg : o.guard with
 | none =>
  simp only [gK, hg] at h
  obtain ⟨v, h1, h2⟩ := main h
  refine ⟨v, h1, fun st' h0 h3 h4 => ?_⟩
  simp only [gK, hg]
  exact h2 st' h0 (by simpa only [seenBy, hg] using h3) h4
 | some g =>
  obtain ⟨j, want⟩ := g
  simp only [gK, hg] at h
  split at h
  ·cases h
  ·rename_i d hd
   split at h
   ·cases h
   ·rename_i ht
    refine ⟨.gone, h, fun st' h0 h3 h4 => ?_⟩
    have hdd : st'.get d = st.get d := h3 d (by simp [seenBy, hg, hd])
    simp only [gK, hg, hd, hdd, ht]
   ·rename_i ht
    obtain ⟨v, h1, h2⟩ := main h
    refine ⟨v, h1, fun st' h0 h3 h4 => ?_⟩
    have hdd : st'.get d = st.get d := h3 d (by simp [seenBy, hg, hd])
    have := h2 st' h0 (fun d' hd' => h3 d' (by simp [seenBy, hg, hd, hd'])) h4
    simp only [gK, hg, hd, hdd, ht]
    exact this
theorem pure_calm0 (hp : pureO o = true) (pr : Bool) (st : St) : GCalm0 E all pr o st := by
 have hcalm : calm o st = true := by unfold pureO at hp; unfold calm; split at hp <;> simp_all
 unfold GCalm0
 cases o.guard with
 | none => exact .inl hcalm
 | some g => exact fun _ _ _ => .inl hcalm
theorem wcall_guard (h : wcallO o = true) : o.guard = none := by
 unfold wcallO at h
 split at h
 ·rename_i hg _; exact hg
 ·cases h
theorem wcall_pure (h : wcallO o = true) : gentleO o = false := by
 unfold wcallO at h
 split at h
 ·rename_i ho
  split at h
  ·rename_i hc; unfold gentleO pureO; rw [ho]; simp only [hc, Bool.false_or]
  ·cases h
 ·cases h
theorem wcall_rowy {ws : Nat → Bool} (h : wcallO o = true) (st : St) : rowyO ws o st = true := by
 unfold rowyO; rw [wcall_pure h]; rfl
theorem wOK_congr {ws : Nat → Bool} (h : ∀ x ∈ o.op.operands, st'.ev x = st.ev x) (hf : st'.find = st.find) : wOK ws o st' = wOK ws o st := by
 unfold wOK
 rw [hf]
 cases ho : o.op with
 | call c =>
  simp only
  cases hcal : c.callee with
  | value f =>
   cases f with
   | func f =>
    simp only
    rw [show c.args.toList.map st'.ev = c.args.toList.map st.ev from List.map_congr_left fun x hx => h x (by simp only [ho, Op.operands, Call.operands, hcal, Array.mem_append]; exact .inr (by simpa using hx))]
   | _ => rfl
  | _ => rfl
 | _ => rfl
theorem wOK_move {ws : Nat → Bool} (h : wOK ws o st = true) (he : ∀ x ∈ o.op.operands, st'.ev x = st.ev x) (hf : ∀ x ∈ o.op.operands, ∀ b ∈ namesA (st.ev x), st'.find b = st.find b) : wOK ws o st' = true := by
 unfold wOK at h ⊢
 cases ho : o.op with
 | call c =>
  rw [ho] at h
  simp only at h ⊢
  cases hcal : c.callee with
  | value f =>
   rw [hcal] at h
   cases f with
   | func f =>
    simp only at h ⊢
    have ham : ∀ x ∈ c.args.toList, x ∈ o.op.operands := fun x hx => by
     simp only [ho, Op.operands, Call.operands, hcal, Array.mem_append]
     exact .inr (by simpa using hx)
    have e : c.args.toList.map st'.ev = c.args.toList.map st.ev := List.map_congr_left fun x hx => he x (ham x hx)
    rw [e]
    refine List.all_eq_true.2 fun b hb => ?_
    obtain ⟨u, hu, hm⟩ := mem_namesL.1 hb
    obtain ⟨z, hz, rfl⟩ := List.mem_map.1 hu
    rw [hf z (ham z hz) b hm]
    exact List.all_eq_true.1 h b hb
   | _ => cases h
  | _ => rw [hcal] at h; cases h
 | _ => rw [ho] at h; cases h
theorem WCalm.congr {ws : Nat → Bool} {pr sl : Bool} (h : WCalm E ws pr sl o st) (h1 : ∀ x ∈ o.op.operands, st'.ev x = st.ev x) (hf : st'.find = st.find) : WCalm E ws pr sl o st' := by
 refine ⟨h.1, h.2.imp id fun h => ⟨h.1, h.2.1, ?_⟩⟩
 rw [wOK_congr h1 hf]; exact h.2.2
theorem commute {L : List (Nat × Blk)} {d1 d2 : Nat} {v1 v2 : AV} (h : d1 ≠ d2) : ((st.layL L).set d1 v1).set d2 v2 = ((st.set d2 v2).layL L).set d1 v1 := by
 unfold St.set St.layL
 congr 1
 funext d
 simp only [upd_eq]
 by_cases e1 : d = d1
 ·by_cases e2 : d = d2
  ·exact absurd (e1.symm.trans e2) h
  ·simp [e1, h]
 ·by_cases e2 : d = d2 <;> simp [e1, e2, Ne.symm h]
theorem slot_calm (h : slotO o = true) : pureO o = true := by
 unfold slotO at h; unfold pureO; split at h <;> simp_all
theorem calm0_of (h : calm o st = true) (pr : Bool) : GCalm0 E all pr o st := by
 unfold GCalm0
 cases o.guard with
 | none => exact .inl h
 | some g => exact fun _ _ _ => .inl h
theorem commuteL {L M : List (Nat × Blk)} {d1 d2 : Nat} {v1 v2 : AV} (h : d1 ≠ d2) (hd : ∀ b blk, look M b = some blk → look L b = none) : (((st.layL L).set d1 v1).layL M).set d2 v2 = (((st.layL M).set d2 v2).layL L).set d1 v1 := by
 unfold St.set St.layL
 congr 1
 ·funext d
  simp only [upd_eq]
  by_cases e1 : d = d1
  ·by_cases e2 : d = d2
   ·exact absurd (e1.symm.trans e2) h
   ·simp [e1, h]
  ·by_cases e2 : d = d2 <;> simp [e1, e2, Ne.symm h]
 ·funext b
  simp only
  cases h2 : look M b with
  | none => rfl
  | some c => rw [hd b c h2]
theorem swapC1 {x y : Oper} {f : Fg} {bx : Bool} {px : Bool} {s1 s2 : St} (hx : gK E all x st = some s1) (hy : gK E all y s1 = some s2) (cy : WCalm E f.ws f.gn f.sl y s1) (rx : bx = true → rowyO f.ws x st = true) (ap : apartO all x y = true)
  (hs : f.sl = true → slotO x = true) (hg : f.gn = true → gentleO x = true) (hb : writesO E y = true → bx = true) (wf : There y st) :
  ∃ s', gK E all y st = some s' ∧ gK E all x s' = some s2 ∧ WCalm E f.ws f.gn f.sl y st ∧ GCalm0 E all px x s' ∧ (bx = true → rowyO f.ws x s' = true) := by
 obtain ⟨d1, d2, hd1, hd2, a1, a2, a3⟩ := apart_spec ap
 obtain ⟨hw, hc⟩ := id cy
 have gy := wcall_guard hw
 simp only [gK, gy] at hy
 obtain ⟨v2, L, p2, q2, q3⟩ := wcall_step (ws := f.ws) hw hy
 rw [hd2] at p2
 -- x sees slots alone, or blocks that stay
 have hcase : slotO x = true ∨ ((f.gn = true ∧ writesO E y = true ∧ wOK f.ws y s1 = true) ∧ calm x st = true ∧ ∀ d ∈ slotsOf x, ∀ b ∈ namesA (st.get d), st.find b ≠ none ∧ f.ws b = false) := by
  rcases hc with hc | hc
  ·exact .inl (hs hc)
  ·exact (rowyO_spec (rx (hb hc.2.1)) (hg hc.1)).imp id fun h => ⟨hc, h⟩
 rcases hcase with hsl | ⟨⟨hgn, hwr, hok⟩, hcalm, hnm⟩
 ·have px' := slot_calm hsl
  obtain ⟨v1, p1, m1⟩ := gpure_step px' hx
  have hfind := gpure_find hx px'
  rw [hd1] at p1
  obtain ⟨l1, rfl⟩ := put_some p1
  obtain ⟨l2, rfl⟩ := put_some p2
  have get1 : ∀ d, d ≠ d1 → (st.set d1 v1).get d = st.get d := fun d hne => by rw [St.get_set, if_neg hne]
  have evy : ∀ z ∈ y.op.operands, st.ev z = (st.set d1 v1).ev z := ev_of_slots fun d hd => (get1 d fun e => a1 (e ▸ slots_seen hd)).symm
  have g1 := q3 st rfl evy hfind.symm
  rw [hd2] at g1
  have l2' : d2 < (st.layL L).n := l2
  rw [put_of l2'] at g1
  have slotx : ∀ d ∈ seenBy all x, ((st.layL L).set d2 v2).get d = st.get d := fun d hd => by rw [St.get_set, if_neg (fun (e : d = d2) => a2 (e ▸ hd))]; rfl
  have g2 := m1 ((st.layL L).set d2 v2) rfl slotx (.inl hsl)
  rw [hd1] at g2
  have l1' : d1 < ((st.layL L).set d2 v2).n := l1
  rw [put_of l1'] at g2
  refine ⟨_, by simp only [gK, gy]; exact g1, ?_, cy.congr evy hfind.symm, pure_calm0 px' _ _, fun hbx => by unfold rowyO; simp [hsl]⟩
  rw [g2]
  congr 1
  exact commute (Ne.symm a3)
 ·obtain ⟨v1, ns1, rt1, p1, f1, sd1, m1⟩ := gstep hx (calm0_of (E := E) (all := all) hcalm false)
  have hrt : rt1 = false := by cases rt1 with | false => rfl | true => exact absurd (sd1 rfl) (by simp)
  rw [hd1] at p1
  obtain ⟨l1, rfl⟩ := put_some p1
  obtain ⟨l2, rfl⟩ := put_some p2
  obtain ⟨w1, w0, w2⟩ := q2 hok
  have get1 : ∀ d, d ≠ d1 → ((st.layL ns1).set d1 v1).get d = st.get d := fun d hne => by rw [St.get_set, if_neg hne]; rfl
  have evy : ∀ z ∈ y.op.operands, st.ev z = ((st.layL ns1).set d1 v1).ev z := ev_of_slots fun d hd => (get1 d fun e => a1 (e ▸ slots_seen hd)).symm
  have find1 : ∀ b, ((st.layL ns1).set d1 v1).find b = match look ns1 b with | some c => some c | none => st.find b := fun b => rfl
  -- what y names is there already
  have yold : ∀ z ∈ y.op.operands, ∀ b ∈ namesA (((st.layL ns1).set d1 v1).ev z), st.find b ≠ none ∧ look ns1 b = none := by
   intro z hz b hb'
   rw [← evy z hz] at hb'
   have hn : st.find b ≠ none := names_of_slots (P := fun b => st.find b ≠ none) wf z hz b hb'
   refine ⟨hn, ?_⟩
   cases hl : look ns1 b with
   | none => rfl
   | some c => exact absurd (f1 b c hl) hn
  have hdis : ∀ b blk, look ns1 b = some blk → look L b = none := by
   intro b blk hb'
   cases hl : look L b with
   | none => rfl
   | some c =>
    rcases w1 b c hl with h | ⟨_, z, hz, h⟩
    ·rw [find1, hb'] at h; cases h
    ·have := (yold z hz b h).2; rw [hb'] at this; cases this
  have g1 := w2 st rfl evy (fun z hz b hb' => by rw [find1, (yold z hz b hb').2]) (fun b blk hl hn => by
   rw [find1] at hn
   cases h1 : look ns1 b with
   | none => rw [h1] at hn; exact hn
   | some c => rw [h1] at hn; cases hn)
  rw [hd2] at g1
  have l2' : d2 < (st.layL L).n := l2
  rw [put_of l2'] at g1
  have slotx : ∀ d ∈ seenBy all x, ((st.layL L).set d2 v2).get d = st.get d := fun d hd => by rw [St.get_set, if_neg (fun (e : d = d2) => a2 (e ▸ hd))]; rfl
  have same : ∀ d ∈ slotsOf x, ∀ b ∈ namesA (st.get d), ((st.layL L).set d2 v2).find b = st.find b := by
   intro d hd b hb'
   obtain ⟨e1, e3⟩ := hnm d hd b hb'
   show (match look L b with | some c => some c | none => st.find b) = st.find b
   cases hl : look L b with
   | none => rfl
   | some k =>
    exfalso
    rcases w1 b k hl with h1 | h1
    ·rw [find1] at h1
     cases h2 : look ns1 b with
     | none => rw [h2] at h1; exact e1 h1
     | some c => rw [h2] at h1; cases h1
    ·rw [e3] at h1; cases h1.1
  have g2 := m1 ((st.layL L).set d2 v2) rfl slotx (.inl ⟨hrt, fun d hd b hb' blk hf => by rw [same d hd b hb']; exact hf⟩) (fun b blk hl => by
   show (match look L b with | some c => some c | none => st.find b) = none
   rw [hdis b blk hl]; exact f1 b blk hl)
  have g2 := g2.1
  rw [hd1] at g2
  have l1' : d1 < (((st.layL L).set d2 v2).layL ns1).n := l1
  rw [put_of l1'] at g2
  have slx : ∀ d ∈ slotsOf x, ((st.layL L).set d2 v2).get d = st.get d := fun d hd => slotx d (slots_seen hd)
  refine ⟨_, by simp only [gK, gy]; exact g1, ?_, ?_, calm0_of (by rw [calm_congr (ev_of_slots slx)]; exact hcalm) _, fun hbx => by rw [rowyO_keep slx same]; exact rx hbx⟩
  ·rw [g2]
   congr 1
   exact commuteL (Ne.symm a3) hdis
  ·refine ⟨hw, .inr ⟨hgn, hwr, ?_⟩⟩
   exact wOK_move hok evy fun z hz b hb' => by rw [find1, (yold z hz b hb').2]
theorem swapC2 {x y : Oper} {f : Fg} {bY : Bool} {py : Bool} {s1 s2 : St} (hx : gK E all x st = some s1) (hy : gK E all y s1 = some s2) (cx : WCalm E f.ws f.gn f.sl x st) (ry : bY = true → rowyO f.ws y s1 = true) (ap : apartO all x y = true)
  (hs : f.sl = true → slotO y = true) (hg : f.gn = true → gentleO y = true) (hb : writesO E x = true → bY = true) (wf : There y st) :
  ∃ s', gK E all y st = some s' ∧ gK E all x s' = some s2 ∧ WCalm E f.ws f.gn f.sl x s' ∧ GCalm0 E all py y st ∧ (bY = true → rowyO f.ws y st = true) := by
 obtain ⟨d1, d2, hd1, hd2, a1, a2, a3⟩ := apart_spec ap
 obtain ⟨hw, hc⟩ := id cx
 have gx := wcall_guard hw
 simp only [gK, gx] at hx
 obtain ⟨v1, L, p1, q2, q3⟩ := wcall_step (ws := f.ws) hw hx
 rw [hd1] at p1
 have hcase : slotO y = true ∨ ((f.gn = true ∧ writesO E x = true ∧ wOK f.ws x st = true) ∧ calm y s1 = true ∧ ∀ d ∈ slotsOf y, ∀ b ∈ namesA (s1.get d), s1.find b ≠ none ∧ f.ws b = false) := by
  rcases hc with hc | hc
  ·exact .inl (hs hc)
  ·exact (rowyO_spec (ry (hb hc.2.1)) (hg hc.1)).imp id fun h => ⟨hc, h⟩
 rcases hcase with hsl | ⟨⟨hgn, hwr, hok⟩, hcalm, hnm⟩
 ·have py' := slot_calm hsl
  obtain ⟨v2, p2, m2⟩ := gpure_step py' hy
  rw [hd2] at p2
  obtain ⟨l1, rfl⟩ := put_some p1
  obtain ⟨l2, rfl⟩ := put_some p2
  have get1 : ∀ d, d ≠ d1 → ((st.layL L).set d1 v1).get d = st.get d := fun d hne => by rw [St.get_set, if_neg hne]; rfl
  have sloty : ∀ d ∈ seenBy all y, st.get d = ((st.layL L).set d1 v1).get d := fun d hd => (get1 d fun e => a1 (e ▸ hd)).symm
  have g1 := m2 st rfl sloty (.inl hsl)
  rw [hd2] at g1
  have l2' : d2 < st.n := l2
  rw [put_of l2'] at g1
  have hfind : (st.set d2 v2).find = st.find := rfl
  have evx : ∀ z ∈ x.op.operands, (st.set d2 v2).ev z = st.ev z := ev_of_slots fun d hd => by rw [St.get_set, if_neg (fun (e : d = d2) => a2 (e ▸ slots_seen hd))]
  have g2 := q3 (st.set d2 v2) rfl evx hfind
  rw [hd1] at g2
  have l1' : d1 < ((st.set d2 v2).layL L).n := l1
  rw [put_of l1'] at g2
  refine ⟨_, g1, ?_, cx.congr evx hfind, pure_calm0 py' _ _, fun hby => by unfold rowyO; simp [hsl]⟩
  simp only [gK, gx]
  rw [g2, commute a3]
 ·obtain ⟨v2, ns2, rt2, p2, f2, sd2, m2⟩ := gstep hy (calm0_of (E := E) (all := all) hcalm false)
  have hrt : rt2 = false := by cases rt2 with | false => rfl | true => exact absurd (sd2 rfl) (by simp)
  rw [hd2] at p2
  obtain ⟨l1, rfl⟩ := put_some p1
  obtain ⟨l2, rfl⟩ := put_some p2
  obtain ⟨w1, w0, w2⟩ := q2 hok
  have get1 : ∀ d, d ≠ d1 → ((st.layL L).set d1 v1).get d = st.get d := fun d hne => by rw [St.get_set, if_neg hne]; rfl
  have find1 : ∀ b, ((st.layL L).set d1 v1).find b = match look L b with | some c => some c | none => st.find b := fun b => rfl
  have sloty : ∀ d ∈ seenBy all y, st.get d = ((st.layL L).set d1 v1).get d := fun d hd => (get1 d fun e => a1 (e ▸ hd)).symm
  have sly : ∀ d ∈ slotsOf y, st.get d = ((st.layL L).set d1 v1).get d := fun d hd => sloty d (slots_seen hd)
  have same : ∀ d ∈ slotsOf y, ∀ b ∈ namesA (((st.layL L).set d1 v1).get d), st.find b = ((st.layL L).set d1 v1).find b := by
   intro d hd b hb'
   obtain ⟨e1, e3⟩ := hnm d hd b hb'
   have hth := wf d hd b (by rw [sly d hd]; exact hb')
   rw [find1]
   cases hl : look L b with
   | none => rfl
   | some k =>
    exfalso
    rcases w1 b k hl with h1 | h1
    ·exact hth h1
    ·rw [e3] at h1; cases h1.1
  have fr : ∀ b blk, look ns2 b = some blk → look L b = none ∧ st.find b = none := by
   intro b blk hl
   have := f2 b blk hl
   rw [find1] at this
   cases h1 : look L b with
   | none => rw [h1] at this; exact ⟨rfl, this⟩
   | some c => rw [h1] at this; cases this
  have g1 := m2 st rfl sloty (.inl ⟨hrt, fun d hd b hb' blk hf => by rw [same d hd b hb']; exact hf⟩) (fun b blk hl => (fr b blk hl).2)
  have g1 := g1.1
  rw [hd2] at g1
  have l2' : d2 < (st.layL ns2).n := l2
  rw [put_of l2'] at g1
  have evx : ∀ z ∈ x.op.operands, ((st.layL ns2).set d2 v2).ev z = st.ev z := ev_of_slots fun d hd => by rw [St.get_set, if_neg (fun (e : d = d2) => a2 (e ▸ slots_seen hd))]; rfl
  have find2 : ∀ b, ((st.layL ns2).set d2 v2).find b = match look ns2 b with | some c => some c | none => st.find b := fun b => rfl
  have xold : ∀ z ∈ x.op.operands, ∀ b ∈ namesA (st.ev z), ((st.layL ns2).set d2 v2).find b = st.find b := by
   intro z hz b hb'
   rw [find2]
   cases hl : look ns2 b with
   | none => rfl
   | some c => exact absurd (fr b c hl).2 (w0 z hz b hb')
  have g2 := w2 ((st.layL ns2).set d2 v2) rfl evx xold (fun b blk hl hn => by
   rw [find2]
   cases h1 : look ns2 b with
   | none => exact hn
   | some c => rw [(fr b c h1).1] at hl; cases hl)
  rw [hd1] at g2
  have l1' : d1 < (((st.layL ns2).set d2 v2).layL L).n := l1
  rw [put_of l1'] at g2
  refine ⟨_, g1, ?_, ?_, calm0_of (by rw [calm_congr (ev_of_slots sly)]; exact hcalm) _, fun hby => by rw [rowyO_keep sly same]; exact ry hby⟩
  ·simp only [gK, gx]
   rw [g2]
   congr 1
   exact (commuteL a3 (fun b blk hl => (fr b blk hl).1)).symm
  ·refine ⟨hw, .inr ⟨hgn, hwr, ?_⟩⟩
   exact wOK_move hok evx xold
theorem swap0R {ws : Nat → Bool} {x y : Oper} {px py bx bY : Bool} {s1 s2 : St} (hx : gK E all x st = some s1) (hy : gK E all y s1 = some s2) (cx : GCalm0 E all px x st) (cy : GCalm0 E all py y s1) (ap : apartO all x y = true) (hpx : px = true → pureO y = true) (hpy : py = true → pureO x = true) (wf : There y st)
  (rx : bx = true → rowyO ws x st = true) (ry : bY = true → rowyO ws y s1 = true) :
  ∃ s', gK E all y st = some s' ∧ gK E all x s' = some s2 ∧ GCalm0 E all py y st ∧ GCalm0 E all px x s' ∧ (bY = true → rowyO ws y st = true) ∧ (bx = true → rowyO ws x s' = true) := by
 obtain ⟨s', h1, h2, h3, h4⟩ := swap0 hx hy cx cy ap hpx hpy wf
 obtain ⟨d1, d2, hd1, hd2, a1, a2, a3⟩ := apart_spec ap
 refine ⟨s', h1, h2, h3, h4, fun hb => ?_, fun hb => ?_⟩
 ·obtain ⟨v1, ns1, rt1, p1, f1, _, _⟩ := gstep hx cx
  rw [hd1] at p1
  obtain ⟨l1, rfl⟩ := put_some p1
  have sl : ∀ d ∈ slotsOf y, st.get d = ((st.layL ns1).set d1 v1).get d := fun d hd => by rw [St.get_set, if_neg (fun (e : d = d1) => a1 (e ▸ slots_seen hd))]; rfl
  rw [rowyO_keep sl (fun d hd b hb => by
   have hth := wf d hd b (by rw [sl d hd]; exact hb)
   show st.find b = (match look ns1 b with | some c => some c | none => st.find b)
   cases hl : look ns1 b with
   | none => rfl
   | some k => exact absurd (f1 b k hl) hth)]
  exact ry hb
 ·obtain ⟨v2, ns2, rt2, p2, f2, _, _⟩ := gstep h1 h3
  rw [hd2] at p2
  obtain ⟨l2, rfl⟩ := put_some p2
  have sl : ∀ d ∈ slotsOf x, ((st.layL ns2).set d2 v2).get d = st.get d := fun d hd => by rw [St.get_set, if_neg (fun (e : d = d2) => a2 (e ▸ slots_seen hd))]; rfl
  cases hpx' : gentleO x with
  | false => unfold rowyO; rw [hpx']; rfl
  | true =>
   rcases rowyO_spec (rx hb) hpx' with h | ⟨_, h⟩
   ·unfold rowyO; simp [h]
   ·rw [rowyO_keep sl (fun d hd b hb => by
     obtain ⟨e1, _⟩ := h d hd b hb
     show (match look ns2 b with | some c => some c | none => st.find b) = st.find b
     cases hl : look ns2 b with
     | none => rfl
     | some k => exact absurd (f2 b k hl) e1)]
    exact rx hb
theorem app_pure (h : appO o = true) : gentleO o = false := by
 unfold appO at h
 split at h
 ·rename_i ho
  split at h
  ·rename_i hc; unfold gentleO pureO; rw [ho]; simp only [hc, Bool.false_or]
  ·cases h
 ·cases h
theorem slot_rowy {ws : Nat → Bool} (h : slotO o = true) (st : St) : rowyO ws o st = true := by unfold rowyO; simp [h]
theorem impure_rowy {ws : Nat → Bool} (h : gentleO o = false) (st : St) : rowyO ws o st = true := by unfold rowyO; simp [h]
theorem mv_rowy {ws : Nat → Bool} (h : mvO E o = true) (st : St) : rowyO ws o st = true := by
 obtain ⟨g, ⟨e, ho⟩ | ⟨t, x, lo, hi, ho, _⟩⟩ := mvO_spec h
 ·exact slot_rowy (by unfold slotO; rw [ho]) st
 ·exact impure_rowy (by unfold gentleO pureO; rw [ho]; rfl) st
theorem mv_app (h : mvO E o = true) (ha : appO o = true) : False := by
 obtain ⟨g, ⟨e, ho⟩ | ⟨t, x, lo, hi, ho, _⟩⟩ := mvO_spec h
 ·unfold appO at ha; rw [g, ho] at ha; cases ha
 ·unfold appO at ha; rw [g, ho] at ha; cases ha
theorem mv_wcall (h : mvO E o = true) (ha : wcallO o = true) : False := by
 obtain ⟨g, ⟨e, ho⟩ | ⟨t, x, lo, hi, ho, _⟩⟩ := mvO_spec h
 ·unfold wcallO at ha; rw [g, ho] at ha; cases ha
 ·unfold wcallO at ha; rw [g, ho] at ha; cases ha
theorem mv_calm' (pr : Bool) (h : mvO E o = true) (hr : gK E all o st = some s) : GCalm0 E all pr o st := by
 obtain ⟨g, ⟨e, ho⟩ | ⟨t, x, lo, hi, ho, hbm⟩⟩ := mvO_spec h
 ·exact mv_calm pr g ho
 ·simp only [gK, g] at hr
  have hd := (bare_step ho hbm hr).1 x (by simp [ho, Op.operands])
  simp only [GCalm0, g]
  left
  simp [calm, ho, datV_names hd]
theorem slot_gentle (h : slotO o = true) : gentleO o = true := by
 unfold gentleO; rw [slot_calm h]; rfl
theorem stO_spec (h : stO o = true) : o.guard = none ∧ o.dst = none ∧ ∃ t p x, o.op = .store t p x := by
 unfold stO at h
 split at h
 ·rename_i t p x hg hd ho; exact ⟨hg, hd, _, _, _, ho⟩
 ·cases h
theorem st_gentle (h : stO o = true) : gentleO o = false := by
 obtain ⟨_, _, t, p, x, ho⟩ := stO_spec h
 unfold gentleO pureO; rw [ho]; rfl
theorem st_calm {f : Fg} (hs : stO o = true) (h : GCalm E all f o st) : SCalm f.ws f.pr f.sl o st := by
 obtain ⟨hg, hd, t, p, x, ho⟩ := stO_spec hs
 rcases h.1 with h | ⟨_, h⟩ | h | h
 ·simp only [GCalm0, hg] at h
  rcases h with h | ⟨_, h⟩
  ·unfold calm at h; rw [ho] at h; cases h
  ·unfold calmR at h; rw [ho] at h; cases h
 ·unfold appO at h; rw [hg, ho] at h; cases h
 ·have := h.1; unfold wcallO at this; rw [hg, ho] at this; cases this
 ·exact h
theorem apartS_spec {x y : Oper} (h : apartS all x y = true) : stO x = true ∧ stO y = false ∧ ∃ e, y.dst = some e ∧ e ∉ seenBy all x := by
 unfold apartS at h
 split at h
 ·cases h
 ·rename_i e hs hd hne
  refine ⟨hs, ?_, e, hd, ?_⟩
  ·unfold stO; split
   ·rename_i t p z _ h1 h2; rw [hd] at h1; cases h1
   ·rfl
  ·simp only [Bool.not_eq_true', Bool.eq_false_iff, ne_eq, any_beq] at h
   exact h
 ·cases h
theorem stOK_congr {ws : Nat → Bool} (h : ∀ x ∈ o.op.operands, st'.ev x = st.ev x) (hf : st'.find = st.find) : stOK ws o st' = stOK ws o st := by
 unfold stOK
 rw [hf, show o.op.operands.toList.map st'.ev = o.op.operands.toList.map st.ev from List.map_congr_left fun x hx => h x (by simpa using hx)]
theorem swapS1 {x y : Oper} {fx fy : Fg} {s1 s2 : St} (hx : gK E all x st = some s1) (hy : gK E all y s1 = some s2) (hs : stO y = true) (cx : GCalm E all fx x st) (cy : GCalm E all fy y s1) (ap : apartS all y x = true)
  (hpy : fy.pr = true → pureO x = true) (hsy : fy.sl = true → slotO x = true) (hbx : writesO E y = true → fx.bw = true) (hw : fx.ws = fy.ws) :
  ∃ s', gK E all y st = some s' ∧ gK E all x s' = some s2 ∧ GCalm E all fy y st ∧ GCalm E all fx x s' := by
 obtain ⟨_, _, d1, hd1, a1⟩ := apartS_spec ap
 obtain ⟨gy, hdy, ty, py', xy, oy⟩ := stO_spec hs
 obtain ⟨_, hc⟩ := st_calm hs cy
 have px : pureO x = true := by
  rcases hc with h | h
  ·exact slot_calm (hsy h)
  ·exact hpy h.1
 have hwr : writesO E y = true := by unfold writesO; rw [oy]
 obtain ⟨v1, p1, m1⟩ := gpure_step px hx
 have hfind := gpure_find hx px
 rw [hd1] at p1
 obtain ⟨l1, rfl⟩ := put_some p1
 simp only [gK, gy] at hy
 obtain ⟨L, rfl, q1, q2⟩ := store_step (ws := fy.ws) hs hy
 have evy : ∀ z ∈ y.op.operands, st.ev z = (st.set d1 v1).ev z := ev_of_slots fun d hd => by rw [St.get_set, if_neg (fun (e : d = d1) => a1 (e ▸ slots_seen hd))]
 have g1 := q2 st evy hfind.symm
 have same : slotO x = true ∨ ∀ d ∈ slotsOf x, ∀ b ∈ namesA (st.get d), (st.layL L).find b = st.find b := by
  rcases hc with h | h
  ·exact .inl (hsy h)
  ·refine (rowyO_spec (cx.2 (hbx hwr)) (by unfold gentleO; rw [px]; rfl)).imp id fun ⟨_, hn⟩ d hd b hb => ?_
   obtain ⟨_, e3⟩ := hn d hd b hb
   show (match look L b with | some c => some c | none => st.find b) = st.find b
   cases hl : look L b with
   | none => rfl
   | some k => have := q1 h.2 b k hl; rw [← hw, e3] at this; cases this
 have g2 := m1 (st.layL L) rfl (fun d _ => rfl) (same.imp id fun h d hd b hb blk hf => by rw [h d hd b hb]; exact hf)
 rw [hd1, put_of (show d1 < (st.layL L).n from l1)] at g2
 refine ⟨st.layL L, by simp only [gK, gy]; exact g1, g2, ⟨.inr (.inr (.inr ⟨hs, hc.imp id fun h => ⟨h.1, ?_⟩⟩)), fun _ => impure_rowy (st_gentle hs) _⟩, .inl (pure_calm0 px _ _), fun hb => ?_⟩
 ·rw [stOK_congr evy hfind.symm]; exact h.2
 ·rcases same with h | h
  ·exact slot_rowy h _
  ·rw [rowyO_keep (st := st) (st' := st.layL L) (fun d _ => rfl) h]; exact cx.2 hb
theorem swapS2 {x y : Oper} {fx fy : Fg} {s1 s2 : St} (hx : gK E all x st = some s1) (hy : gK E all y s1 = some s2) (hs : stO x = true) (cx : GCalm E all fx x st) (cy : GCalm E all fy y s1) (ap : apartS all x y = true)
  (hpx : fx.pr = true → pureO y = true) (hsx : fx.sl = true → slotO y = true) (hby : writesO E x = true → fy.bw = true) (hw : fx.ws = fy.ws) :
  ∃ s', gK E all y st = some s' ∧ gK E all x s' = some s2 ∧ GCalm E all fy y st ∧ GCalm E all fx x s' := by
 obtain ⟨_, _, d2, hd2, a2⟩ := apartS_spec ap
 obtain ⟨gx, hdx, tx, px', xx, ox⟩ := stO_spec hs
 obtain ⟨_, hc⟩ := st_calm hs cx
 have py : pureO y = true := by
  rcases hc with h | h
  ·exact slot_calm (hsx h)
  ·exact hpx h.1
 have hwr : writesO E x = true := by unfold writesO; rw [ox]
 simp only [gK, gx] at hx
 obtain ⟨L, rfl, q1, q2⟩ := store_step (ws := fx.ws) hs hx
 obtain ⟨v2, p2, m2⟩ := gpure_step py hy
 rw [hd2] at p2
 obtain ⟨l2, rfl⟩ := put_some p2
 have same : slotO y = true ∨ ∀ d ∈ slotsOf y, ∀ b ∈ namesA ((st.layL L).get d), st.find b = (st.layL L).find b := by
  rcases hc with h | h
  ·exact .inl (hsx h)
  ·refine (rowyO_spec (cy.2 (hby hwr)) (by unfold gentleO; rw [py]; rfl)).imp id fun ⟨_, hn⟩ d hd b hb => ?_
   obtain ⟨_, e3⟩ := hn d hd b hb
   show st.find b = (match look L b with | some c => some c | none => st.find b)
   cases hl : look L b with
   | none => rfl
   | some k => have := q1 h.2 b k hl; rw [hw, e3] at this; cases this
 have g1 := m2 st rfl (fun d _ => rfl) (same.imp id fun h d hd b hb blk hf => by rw [h d hd b hb]; exact hf)
 rw [hd2, put_of (show d2 < st.n from l2)] at g1
 have evx : ∀ z ∈ x.op.operands, (st.set d2 v2).ev z = st.ev z := ev_of_slots fun d hd => by rw [St.get_set, if_neg (fun (e : d = d2) => a2 (e ▸ slots_seen hd))]
 have g2 := q2 (st.set d2 v2) evx rfl
 refine ⟨_, g1, by simp only [gK, gx]; exact g2, ⟨.inl (pure_calm0 py _ _), fun hb => ?_⟩, .inr (.inr (.inr ⟨hs, hc.imp id fun h => ⟨h.1, ?_⟩⟩)), fun _ => impure_rowy (st_gentle hs) _⟩
 ·rcases same with h | h
  ·exact slot_rowy h _
  ·rw [rowyO_keep (st := st.layL L) (st' := st) (fun d _ => rfl) h]; exact cy.2 hb
 ·rw [stOK_congr evx rfl]; exact h.2
theorem swap {x y : Oper} {fx fy : Fg} {s1 s2 : St} (hx : gK E all x st = some s1) (hy : gK E all y s1 = some s2) (cx : GCalm E all fx x st) (cy : GCalm E all fy y s1) (ap : apartO all x y = true ∨ apartS all x y = true ∨ apartS all y x = true) (hpx : fx.pr = true → pureO y = true) (hpy : fy.pr = true → pureO x = true)
  (hmx : fx.mv = true → mvO E y = true) (hmy : fy.mv = true → mvO E x = true) (hsx : fx.sl = true → slotO y = true) (hsy : fy.sl = true → slotO x = true) (hgx : fx.gn = true → gentleO y = true) (hgy : fy.gn = true → gentleO x = true) (hbx : writesO E y = true → fx.bw = true) (hby : writesO E x = true → fy.bw = true) (hw : fx.ws = fy.ws) (wf : There y st) :
  ∃ s', gK E all y st = some s' ∧ gK E all x s' = some s2 ∧ GCalm E all fy y st ∧ GCalm E all fx x s' := by
 rcases ap with ap | ap | ap
 rotate_left
 ·exact swapS2 hx hy (apartS_spec ap).1 cx cy ap hpx hsx hby hw
 ·exact swapS1 hx hy (apartS_spec ap).1 cx cy ap hpy hsy hbx hw
 have nost : ∀ {z : Oper} {d : Tmp}, z.dst = some d → stO z = true → False := by
  intro z d h1 h2
  have := (stO_spec h2).2.1
  rw [h1] at this; cases this
 obtain ⟨e1, e2, hd1, hd2, _, _, _⟩ := apart_spec ap
 obtain ⟨cx, rx⟩ := cx
 obtain ⟨cy, ry⟩ := cy
 rw [← hw] at cy ry
 unfold GCalm
 rw [← hw]
 have wgen : ∀ {ws : Nat → Bool} {o : Oper} {f : Fg} {z : Oper} {st : St}, WCalm E ws f.gn f.sl o st → (f.gn = true → gentleO z = true) → (f.sl = true → slotO z = true) → gentleO z = true := by
  intro ws o f z st h h1 h2
  rcases h.2 with h | h
  ·exact slot_gentle (h2 h)
  ·exact h1 h.1
 rcases cx with cx | ⟨m1, ax⟩ | wx | sx
 rotate_left 3
 ·exact (nost hd1 sx.1).elim
 ·rcases cy with cy | ⟨m2, ay⟩ | wy | sy
  rotate_left 3
  ·exact (nost hd2 sy.1).elim
  ·obtain ⟨s', h1, h2, h3, h4, h5, h6⟩ := swap0R hx hy cx cy ap hpx hpy wf rx ry
   exact ⟨s', h1, h2, ⟨.inl h3, h5⟩, .inl h4, h6⟩
  ·obtain ⟨s', h1, h2⟩ := swapW1 hx hy (hmy m2) ay ap
   exact ⟨s', h1, h2, ⟨.inr (.inl ⟨m2, ay⟩), fun _ => impure_rowy (app_pure ay) _⟩, .inl (mv_calm' fx.pr (hmy m2) h2), fun _ => mv_rowy (hmy m2) _⟩
  ·obtain ⟨s', h1, h2, h3, h5, h4⟩ := swapC1 (f := ⟨fy.pr, fy.mv, fy.sl, fy.gn, fy.bw, fx.ws⟩) (px := fx.pr) hx hy wy rx ap hsy hgy hbx wf
   exact ⟨s', h1, h2, ⟨.inr (.inr (.inl h3)), fun _ => wcall_rowy wy.1 _⟩, .inl h5, h4⟩
 ·rcases cy with cy | ⟨m2, ay⟩ | wy | sy
  rotate_left 3
  ·exact (nost hd2 sy.1).elim
  ·obtain ⟨s', h1, h2⟩ := swapW2 hx hy ax (hmx m1) ap
   exact ⟨s', h1, h2, ⟨.inl (mv_calm' fy.pr (hmx m1) h1), fun _ => mv_rowy (hmx m1) _⟩, .inr (.inl ⟨m1, ax⟩), fun _ => impure_rowy (app_pure ax) _⟩
  ·exact (mv_app (hmx m1) ay).elim
  ·exact (mv_wcall (hmx m1) wy.1).elim
 ·have py := wgen wx hgx hsx
  rcases cy with cy | ⟨m2, ay⟩ | wy | sy
  rotate_left 3
  ·exact (nost hd2 sy.1).elim
  ·obtain ⟨s', h1, h2, h3, h5, h4⟩ := swapC2 (py := fy.pr) hx hy wx ry ap hsx hgx hby wf
   exact ⟨s', h1, h2, ⟨.inl h5, h4⟩, .inr (.inr (.inl h3)), fun _ => wcall_rowy wx.1 _⟩
  ·rw [app_pure ay] at py; cases py
  ·rw [wcall_pure wy.1] at py; cases py
theorem look_ren {κ : Nat → Option Nat} (hk : ∀ b c, κ b = some c → c = b) {f : Nat → AV} (hf : ∀ c, namesA (f c) = [c]) {c b : Nat} (hb : b ∈ namesA (match κ c with | some c' => f c' | none => .undef)) : b = c := by
 split at hb
 ·rename_i c' hc
  rw [hf, hk _ _ hc] at hb
  simpa using hb
 ·simp [namesA] at hb
mutual
theorem ren_names {κ : Nat → Option Nat} (hk : ∀ b c, κ b = some c → c = b) : ∀ (v : AV) (b : Nat), b ∈ namesA (v.ren κ) → b ∈ namesA v
 | .undef, b, hb => hb
 | .gone, b, hb => hb
 | .dat .., b, hb => hb
 | .test .., b, hb => hb
 | .nil, b, hb => hb
 | .pnil, b, hb => hb
 | .dne _, b, hb => hb
 | .dp .., b, hb => hb
 | .own c, b, hb => by rw [look_ren hk (f := .own) (fun _ => rfl) hb]; simp [namesA]
 | .om c, b, hb => by rw [look_ren hk (f := .om) (fun _ => rfl) hb]; simp [namesA]
 | .box c i, b, hb => by rw [look_ren hk (f := fun c => .box c i) (fun _ => rfl) hb]; simp [namesA]
 | .ep c i, b, hb => by rw [look_ren hk (f := fun c => .ep c i) (fun _ => rfl) hb]; simp [namesA]
 | .clo f caps, b, hb => renL_names hk caps b hb
 | .agg cs, b, hb => renL_names hk cs b hb
 | .tup vs, b, hb => renL_names hk vs b hb
theorem renL_names {κ : Nat → Option Nat} (hk : ∀ b c, κ b = some c → c = b) : ∀ (l : List AV) (b : Nat), b ∈ namesA.namesL (AV.ren.renL κ l) → b ∈ namesA.namesL l
 | [], b, hb => hb
 | v :: l, b, hb => by
  simp only [AV.ren.renL, namesA.namesL, List.mem_append] at hb ⊢
  rcases hb with hb | hb
  ·exact .inl (ren_names hk v b hb)
  ·exact .inr (renL_names hk l b hb)
end
theorem there_step {x y : Oper} {fx : Fg} {s1 : St} (hx : gK E all x st = some s1) (cx : GCalm E all fx x st) (ap : apartO all x y = true ∨ apartS all x y = true ∨ apartS all y x = true) (wf : There y st) : There y s1 := by
 have sc : ∀ {d1 : Tmp}, x.dst = some d1 → stO x = true → False := by
  intro d1 h1 h2
  have := (stO_spec h2).2.1
  rw [h1] at this; cases this
 have ap' : (∃ d1, x.dst = some d1 ∧ d1 ∉ seenBy all y) ∨ stO x = true := by
  rcases ap with ap | ap | ap
  ·obtain ⟨d1, d2, hd1, hd2, a1, a2, a3⟩ := apart_spec ap
   exact .inl ⟨d1, hd1, a1⟩
  ·exact .inr (apartS_spec ap).1
  ·obtain ⟨_, _, d1, hd1, a1⟩ := apartS_spec ap
   exact .inl ⟨d1, hd1, a1⟩
 rcases ap' with ⟨d1, hd1, a1⟩ | hst
 rotate_left
 ·have gx := (stO_spec hst).1
  simp only [gK, gx] at hx
  obtain ⟨L, rfl, _, _⟩ := store_step (ws := fx.ws) hst hx
  intro d hd b hb
  show (match look L b with | some c => some c | none => st.find b) ≠ none
  cases look L b with
  | none => exact wf d hd b hb
  | some c => simp
 rcases cx.1 with cx | ⟨m1, ax⟩ | wx | sx
 rotate_left 3
 ·exact (sc hd1 sx.1).elim
 rotate_left 2
 ·have gx := wcall_guard wx.1
  simp only [gK, gx] at hx
  obtain ⟨v1, ns1, p1, _, _⟩ := wcall_step (ws := fx.ws) wx.1 hx
  rw [hd1] at p1
  obtain ⟨l1, rfl⟩ := put_some p1
  intro d hd b hb
  rw [St.get_set, if_neg (fun (e : d = d1) => a1 (e ▸ slots_seen hd))] at hb
  show (match look ns1 b with | some c => some c | none => st.find b) ≠ none
  cases look ns1 b with
  | none => exact wf d hd b hb
  | some c => simp
 ·obtain ⟨v1, ns1, rt1, p1, f1, _, _⟩ := gstep hx cx
  rw [hd1] at p1
  obtain ⟨l1, rfl⟩ := put_some p1
  intro d hd b hb
  rw [St.get_set, if_neg (fun (e : d = d1) => a1 (e ▸ slots_seen hd))] at hb
  show (match look ns1 b with | some c => some c | none => st.find b) ≠ none
  cases look ns1 b with
  | none => exact wf d hd b hb
  | some c => simp
 ·rw [app_run ax] at hx
  obtain ⟨κ, k1, k2, k3, k4, k5⟩ := append_nat ax hx
  intro d hd b hb hn
  rw [k4 d (by rw [hd1]; intro e; injection e with e; exact a1 (e ▸ slots_seen hd))] at hb
  exact wf d hd b (ren_names k1 _ b hb) (k3 b hn)
def Run (E : En) (fl : Fl) (all : List Oper) : List Nat → St → St → Prop
 | [], st, sf => st = sf
 | i :: l, st, sf => ∃ o s, all[i]? = some o ∧ (fl.free i = true → GCalm E all (fgOf fl i) o st) ∧ gK E all o st = some s ∧ Run E fl all l s sf
structure Beside (E : En) (fl : Fl) (all : List Oper) (j i : Nat) (x o : Oper) : Prop where
 ap : apartO all x o = true ∨ apartS all x o = true ∨ apartS all o x = true
 pj : fl.prs j = true → pureO o = true
 pi : fl.prs i = true → pureO x = true
 mj : fl.mvs j = true → mvO E o = true
 mi : fl.mvs i = true → mvO E x = true
 sj : fl.sls j = true → slotO o = true
 si : fl.sls i = true → slotO x = true
 gj : fl.gns j = true → gentleO o = true
 gi : fl.gns i = true → gentleO x = true
 bj : writesO E o = true → fl.bws j = true
 bi : writesO E x = true → fl.bws i = true
theorem Run.pull {fl : Fl} {i : Nat} {o : Oper} (ho : all[i]? = some o) : ∀ {L1 L2 : List Nat} {st sf : St}, Run E fl all (L1 ++ i :: L2) st sf → (∀ j ∈ L1, fl.free j = true ∧ fl.free i = true ∧ ∀ x, all[j]? = some x → Beside E fl all j i x o) → There o st →
  ∃ s, gK E all o st = some s ∧ (fl.free i = true → GCalm E all (fgOf fl i) o st) ∧ Run E fl all (L1 ++ L2) s sf
 | [], L2, st, sf, h, _, _ => by
  obtain ⟨o', s, ho', hc, hg, hr⟩ := h
  rw [ho] at ho'
  cases ho'
  exact ⟨s, hg, hc, hr⟩
 | j :: L1, L2, st, sf, h, hap, wf => by
  obtain ⟨x, s1, hx, hc, hg, hr⟩ := h
  obtain ⟨fj, fi, hapx⟩ := hap j (by simp)
  have B := hapx x hx
  -- x is calm: the names that o sees are still there behind it
  have cx := hc fj
  have wf1 : There o s1 := there_step hg cx B.ap wf
  obtain ⟨s2, hg2, hc2, hr2⟩ := Run.pull ho hr (fun j' hj' => hap j' (by simp [hj'])) wf1
  obtain ⟨s', q1, q2, q3, q4⟩ := swap hg hg2 cx (hc2 fi) B.ap B.pj B.pi B.mj B.mi B.sj B.si B.gj B.gi B.bj B.bi rfl wf
  exact ⟨s', q1, fun _ => q3, x, s2, hx, fun _ => q4, q2, hr2⟩
def FactsA (fs : List (Nat × Bool)) (st : St) : Prop := ∀ d b, look fs d = some b → boolA (st.get d) = some b
theorem FactsA.drop {fs : List (Nat × Bool)} (h : FactsA fs st) (hk : Keeps o st s) : FactsA (dropFact o.dst fs) s := by
 cases hd : o.dst with
 | none => intro d b hb; rw [hk d (by rw [hd]; simp)]; exact h d b hb
 | some e =>
  intro d b hb
  have key : ∀ (fs : List (Nat × Bool)) (b : Bool), look (fs.filter fun p => !Nat.beq p.1 e) d = some b → d ≠ e ∧ look fs d = some b := by
   intro fs
   induction fs with
   | nil => intro b h; cases h
   | cons p fs ih =>
    intro b h
    obtain ⟨q, c⟩ := p
    rw [List.filter_cons] at h
    by_cases e' : q = e
    ·subst e'
     simp only [Nat.beq_refl, Bool.not_true, Bool.false_eq_true, if_false] at h
     obtain ⟨h1, h2⟩ := ih b h
     exact ⟨h1, by rw [look_cons, if_neg h1]; exact h2⟩
    ·have : Nat.beq q e = false := by rw [Bool.eq_false_iff]; intro hh; exact e' (Nat.eq_of_beq_eq_true hh)
     rw [this] at h
     simp only [Bool.not_false, if_true] at h
     rw [look_cons] at h ⊢
     split at h
     ·rename_i e2
      cases h
      exact ⟨fun e3 => e' (e2.symm.trans e3), by rw [if_pos e2]⟩
     ·rename_i e2
      obtain ⟨h1, h2⟩ := ih b h
      exact ⟨h1, by rw [if_neg e2]; exact h2⟩
  obtain ⟨h1, h2⟩ := key fs b hb
  rw [hk d (by rw [hd]; simp; exact fun e' => h1 e'.symm)]
  exact h d b h2
theorem askK_run {fs : List (Nat × Bool)} {d : Nat} {k : Bool → List (Nat × Bool) → Option R} {r : R} (hf : FactsA fs st) (h : askK fs st d k = some r) : ∃ b fs', boolA (st.get d) = some b ∧ FactsA fs' st ∧ k b fs' = some r := by
 unfold askK at h
 split at h
 ·rename_i b hb
  exact ⟨b, fs, hf d b hb, hf, h⟩
 ·rw [forkB_bool] at h
  obtain ⟨b, hb, h⟩ := Option.bind_eq_some_iff.1 h
  refine ⟨b, _, hb, ?_, h⟩
  intro d' b' hl
  rw [look_cons] at hl
  split at hl
  ·rename_i e; cases hl; rw [e]; exact hb
  ·exact hf d' b' hl
theorem boolA_notgone {v : AV} {b : Bool} (h : boolA v = some b) : goneA v = false := by
 cases v <;> first | rfl | cases h
theorem askG_run {fs : List (Nat × Bool)} {d : Nat} {want : Bool} {k : Bool → List (Nat × Bool) → Option R} {r : R} (hf : FactsA fs st) (h : askG fs st d want k = some r) : ∃ x fs', skipA want (st.get d) = some x ∧ FactsA fs' st ∧ k x fs' = some r := by
 have hb' : ∀ b, boolA (st.get d) = some b → skipA want (st.get d) = some (Bool.xor b want) := by
  intro b hb
  unfold skipA
  rw [boolA_notgone hb, hb]; rfl
 unfold askG at h
 split at h
 ·rename_i b hb
  exact ⟨_, fs, hb' b (hf d b hb), hf, h⟩
 ·split at h
  ·rename_i hg
   exact ⟨true, fs, by unfold skipA; rw [hg], hf, h⟩
  ·rw [forkB_bool] at h
   obtain ⟨b, hb, h⟩ := Option.bind_eq_some_iff.1 h
   refine ⟨_, _, hb' b hb, ?_, h⟩
   intro d' b' hl
   rw [look_cons] at hl
   split at hl
   ·rename_i e; cases hl; rw [e]; exact hb
   ·exact hf d' b' hl
theorem pickop_run {fs : List (Nat × Bool)} {k : List (Nat × Bool) → St → Option R} {r : R} (hf : FactsA fs st)
  (h : (match o.op with
   | .pick (.tmp c) x y => askK fs st c fun t fs => st.put o.dst (st.ev (pickOf t x y)) fun st => k (dropFact o.dst fs) st
   | _ => opK E o st fun st => k (dropFact o.dst fs) st) = some r) : ∃ s fs', opK E o st some = some s ∧ FactsA fs' s ∧ k fs' s = some r := by
 split at h
 ·rename_i c x y ho
  obtain ⟨t, fs', hb, hf', h⟩ := askK_run hf h
  obtain ⟨s, h1, h2, h3⟩ := put_run (o := o) (st0 := st) (fun _ => rfl) h
  refine ⟨s, _, ?_, hf'.drop h3, h2⟩
  simp only [opK, ho]
  rw [forkB_bool, show st.ev (.tmp c) = st.get c from rfl, hb]
  exact h1
 ·obtain ⟨s, h1, h2, h3⟩ := opK_run h
  exact ⟨s, _, h1, hf.drop h3, h2⟩
theorem quietO_spec {fl : Fl} {i : Nat} (h : quietO E fl i o st = true) : (calm o st = true ∨ (fl.prs i = true ∧ calmR E o st = true)) ∨ (fl.mvs i = true ∧ appO o = true) ∨ WCalm E fl.ws (fl.gns i) (fl.sls i) o st ∨ SCalm fl.ws (fl.prs i) (fl.sls i) o st := by
 unfold quietO at h
 simp only [Bool.or_eq_true, Bool.and_eq_true] at h
 rcases h with (((h | h) | h) | ⟨h1, h2⟩) | ⟨h1, h2⟩
 ·exact .inl (.inl h)
 ·exact .inl (.inr h)
 ·exact .inr (.inl h)
 ·exact .inr (.inr (.inl ⟨h1, h2.imp id fun h => ⟨h.1.1, h.1.2, h.2⟩⟩))
 ·exact .inr (.inr (.inr ⟨h1, h2⟩))
theorem opsD_run {fl : Fl} {k : St → Option R} {r : R} : ∀ {ops : List Oper} {i : Nat} {fs : List (Nat × Bool)} {st : St}, all.drop i = ops → FactsA fs st → opsD E fl all ops i fs st k = some r →
  ∃ sf, Run E fl all (List.range' i ops.length) st sf ∧ k sf = some r
 | [], i, fs, st, _, hf, h => ⟨st, rfl, h⟩
 | o :: ops, i, fs, st, hd, hf, h => by
  have ho : all[i]? = some o := by
   have : (all.drop i)[0]? = some o := by rw [hd]; rfl
   rw [List.getElem?_drop] at this
   simpa using this
  have hd' : all.drop (i + 1) = ops := by
   rw [← List.drop_drop, hd]; rfl
  unfold opsD at h
  split at h
  ·cases h
  ·rename_i hrow
   have hrow' : fl.free i = true → fl.bws i = true → rowyO fl.ws o st = true := by
    intro h1 h2
    simpa [h1, h2] using hrow
   split at h
   ·rename_i hg
    split at h
    ·cases h
    ·rename_i hc
     obtain ⟨s, fs', h1, h2, h3⟩ := pickop_run (k := fun fs st => opsD E fl all ops (i + 1) fs st k) hf h
     obtain ⟨sf, h4, h5⟩ := opsD_run hd' h2 h3
     refine ⟨sf, ⟨o, s, ho, ?_, ?_, h4⟩, h5⟩
     ·intro hfr
      rw [hfr] at hc
      simp only [Bool.not_true, Bool.false_or] at hc
      refine ⟨?_, hrow' hfr⟩
      rcases quietO_spec hc with hc | hc
      ·left
       simp only [GCalm0, hg]
       exact hc
      ·exact .inr hc
     ·simp only [gK, hg]; exact h1
   ·rename_i j want hg
    split at h
    ·cases h
    ·rename_i d hdst
     obtain ⟨x, fs', hx, hf', h⟩ := askG_run hf h
     cases x with
     | true =>
      obtain ⟨s, h1, h2, h3⟩ := put_run (o := o) (st0 := st) (fun _ => rfl) h
      obtain ⟨sf, h4, h5⟩ := opsD_run hd' (hf'.drop h3) h2
      refine ⟨sf, ⟨o, s, ho, ?_, ?_, h4⟩, h5⟩
      ·intro hfr
       refine ⟨?_, hrow' hfr⟩
       left
       simp only [GCalm0, hg]
       intro d' e1 e2
       rw [hdst] at e1; cases e1
       rw [hx] at e2; cases e2
      ·simp only [gK, hg, hdst, hx]; exact h1
     | false =>
      simp only at h
      split at h
      ·cases h
      ·rename_i hc
       obtain ⟨s, fs'', h1, h2, h3⟩ := pickop_run (k := fun fs st => opsD E fl all ops (i + 1) fs st k) hf' h
       obtain ⟨sf, h4, h5⟩ := opsD_run hd' h2 h3
       refine ⟨sf, ⟨o, s, ho, ?_, ?_, h4⟩, h5⟩
       ·intro hfr
        rw [hfr] at hc
        simp only [Bool.not_true, Bool.false_or] at hc
        refine ⟨?_, hrow' hfr⟩
        rcases quietO_spec hc with hc | hc | hc | hc
        ·left
         simp only [GCalm0, hg]
         intro _ _ _
         exact hc
        ·have := appO_guard hc.2
         rw [hg] at this; cases this
        ·have := wcall_guard hc.1
         rw [hg] at this; cases this
        ·have := (stO_spec hc.1).1
         rw [hg] at this; cases this
       ·simp only [gK, hg, hdst, hx]; exact h1
end
end Go.V
end
section
namespace Go.V
open Go Go.RowKit
set_option linter.unusedVariables false
set_option linter.unusedSimpArgs false
section
variable {P : Program} {E : En} {R : Type} {w0 : World} {M : Mo} {X : Nat → Prop} {hd : Nat → Value} {st s : St} {a : Act} {w w' : World}
variable {k : St → Option R} {r : R} {Q : Exit → Act → World → Prop} {o : Oper}
theorem bool_of {c : Cx} {v : AV} {x : Value} {b : Bool} (h : Rt c v x) (hb : boolA v = some b) : x = .bool b := by
 obtain ⟨b', h1, h2⟩ := fork_ok (k := fun b => some b) (r := b) h (by rw [forkB_bool, hb]; rfl)
 cases h2
 exact h1
theorem skipA_ok {all : Array Oper} {j d : Nat} {want x : Bool} {v : AV} {c : Cx} (hd' : dstOf all.toList j = some d) (h : Rt c v (a.tmps.getD d undef)) (hx : skipA want v = some x) : (yielded all a.tmps j == some want) = !x := by
 unfold skipA at hx
 split at hx
 ·rename_i hg
  cases hx
  rw [yielded_gone hd' (goneA_ok h hg)]; rfl
 ·cases hb : boolA v with
  | none => rw [hb] at hx; cases hx
  | some b =>
   rw [hb] at hx
   cases hx
   rw [yielded_of hd' (bool_of h hb)]
   cases b <;> cases want <;> rfl
theorem gK_real {K : Act → World → Prop} {all : Array Oper} (hnp : M.np ≤ E.pin) (ht : TbOK P E.tb) (hoc : OrcM P E.orc w0 M) {i : Nat} (ho : all[i]? = some o) (h : Rel w0 M X hd st a w) (hg : gK E all.toList o st = some s)
  (hk : ∀ hd a w, Rel w0 M X hd s a w → K a w) : wpOp P all Q i K a w := by
 have hop : ∀ {st : St} {a : Act}, Rel w0 M X hd st a w → opK E o st some = some s → o.wp P a w K Q := fun h e =>
  op_ok (r := s) hnp ht hoc h (fun st' hd a w hrel e => by cases e; exact hk _ _ _ hrel) e
 unfold wpOp
 rw [ho]
 simp only
 unfold gK at hg
 split at hg
 ·rename_i hgd
  rw [if_pos (show Region.wanted o (yielded all a.tmps) = true by unfold Region.wanted; rw [hgd])]
  exact .inl (hop h hg)
 ·rename_i j want hgd
  split at hg
  ·cases hg
  ·rename_i d hdst
   split at hg
   ·cases hg
   ·rename_i hb
    have hw : Region.wanted o (yielded all a.tmps) = false := by
     unfold Region.wanted; rw [hgd]; exact skipA_ok hdst (h.tmps d) hb
    rw [hw, if_neg (by simp)]
    exact put_ok (r := s) h (show Rt (st.cx X hd w) .gone undef from rfl) (fun st' hd a w hrel e => by cases e; exact hk _ _ _ hrel) hg
   ·rename_i hb
    have hw : Region.wanted o (yielded all a.tmps) = true := by
     unfold Region.wanted; rw [hgd]; exact skipA_ok hdst (h.tmps d) hb
    rw [hw, if_pos rfl]
    exact .inl (hop h hg)
theorem namesRt {c : Cx} {v : AV} {u : Value} (h : Rt c v u) : ∀ b ∈ namesA v, ∃ blk, c.find b = some blk := by
 have l1 : ∀ {l : List AV} {m : List Value}, All2 (Ra c) l m → (∀ v u, Ra c v u → ∀ b ∈ namesA v, ∃ blk, c.find b = some blk) → ∀ b ∈ namesA.namesL l, ∃ blk, c.find b = some blk := by
  intro l
  induction l with
  | nil => intro m _ _ b hb; simp [namesA.namesL] at hb
  | cons v l ih =>
   intro m hm hr b hb
   cases m with
   | nil => exact hm.elim
   | cons u m =>
    simp only [namesA.namesL, List.mem_append] at hb
    exact hb.elim (hr _ _ hm.1 b) (ih hm.2 hr b)
 have ra : ∀ v u, Ra c v u → ∀ b ∈ namesA v, ∃ blk, c.find b = some blk := by
  intro v u h
  cases v with
  | agg cs =>
   obtain ⟨vs, _, ha⟩ := h
   intro b hb
   exact namesL1 ha b (by simpa [namesA] using hb)
  | _ => exact names1 (u := u) (show R1 c _ u from h)
 cases v with
 | tup vs =>
  obtain ⟨us, _, ha⟩ := h
  intro b hb
  exact l1 ha ra b (by simpa [namesA] using hb)
 | _ => exact ra _ u (show Ra c _ u from h)
theorem Rel.there (h : Rel w0 M X hd st a w) (o : Oper) : There o st := by
 intro d _ b hb e
 obtain ⟨blk, hf⟩ := namesRt (h.tmps d) b hb
 rw [show st.find b = some blk from hf] at e
 cases e
theorem mem_freePairs {ops : List Oper} {i j : Nat} {y : Oper} (hij : i < j) (hj : ops[j]? = some y) (h : before ops i j = false) : (i, j) ∈ freePairs ops := by
 obtain ⟨hl, _⟩ := List.getElem?_eq_some_iff.1 hj
 simp only [freePairs, List.mem_filter, List.mem_flatMap, List.mem_range, List.mem_map]
 exact ⟨⟨j, hl, i, hij, rfl⟩, by simp [hj, h]⟩
theorem maskL_spec {ms : List Nat} {i : Nat} : ∀ {l : List Edge}, (maskL ms l).testBit i = true → ∃ e ∈ l, bindsAny e = true ∧ (e.on = i ∨ (ms.getD e.on 0).testBit i = true)
 | [], h => by simp [maskL] at h
 | e :: l, h => by
  unfold maskL at h
  split at h
  ·rename_i hb
   rw [Nat.testBit_or, Nat.testBit_or, Bool.or_eq_true, Bool.or_eq_true] at h
   rcases h with (h | h) | h
   ·obtain ⟨e', h1, h2⟩ := maskL_spec h
    exact ⟨e', List.mem_cons_of_mem _ h1, h2⟩
   ·rw [Nat.one_shiftLeft, Nat.testBit_two_pow] at h
    exact ⟨e, by simp, hb, .inl (by simpa using h)⟩
   ·exact ⟨e, by simp, hb, .inr h⟩
  ·obtain ⟨e', h1, h2⟩ := maskL_spec h
   exact ⟨e', List.mem_cons_of_mem _ h1, h2⟩
theorem masksOf_spec : ∀ (l : List Oper) (ms : List Nat), (∃ r, masksOf l ms = ms ++ r) ∧ ∀ j o, l[j]? = some o → (masksOf l ms).getD (ms.length + j) 0 = maskL ((masksOf l ms).take (ms.length + j)) o.after.toList
 | [], ms => ⟨⟨[], by simp [masksOf]⟩, fun j o h => by simp at h⟩
 | o :: l, ms => by
  obtain ⟨⟨r, hr⟩, h2⟩ := masksOf_spec l (ms ++ [maskL ms o.after.toList])
  refine ⟨⟨maskL ms o.after.toList :: r, by rw [masksOf, hr]; simp⟩, fun j o' h => ?_⟩
  cases j with
  | zero =>
   simp at h
   subst h
   rw [masksOf, hr, List.append_assoc, Nat.add_zero, List.take_left]
   simp [List.getD_eq_getElem?_getD]
  | succ j =>
   have := h2 j o' (by simpa using h)
   rw [List.length_append, List.length_singleton] at this
   rw [masksOf, show ms.length + (j + 1) = ms.length + 1 + j by omega]
   exact this
theorem before_listed {ops : Array Oper} {listed : Array Bool} (hcl : ∀ x o, ops[x]? = some o → listed.getD x false = true → ∀ e ∈ o.after.toList, bindsAny e = true → listed.getD e.on false = true) :
  ∀ (n i : Nat) (o : Oper), i < n → ops[i]? = some o → (∀ e ∈ o.after.toList, bindsAny e = true → listed.getD e.on false = true) → ∀ j, before ops.toList j i = true → listed.getD j false = true := by
 intro n
 induction n with
 | zero => intro i o hi; exact absurd hi (Nat.not_lt_zero _)
 | succ n ih =>
  intro i o hi ho hp j hj
  unfold before at hj
  have h2 := (masksOf_spec ops.toList []).2 i o (by simpa using ho)
  simp only [List.length_nil, Nat.zero_add] at h2
  rw [h2] at hj
  obtain ⟨e, he, hb, h⟩ := maskL_spec hj
  rcases h with rfl | h
  ·exact hp e he hb
  ·by_cases hlt : e.on < i
   ·have hio := (Array.getElem?_eq_some_iff.1 ho).1
    have hlt' : e.on < ops.size := by omega
    refine ih e.on ops[e.on] (by omega) (Array.getElem?_eq_getElem hlt') ?_ j ?_
    ·exact hcl e.on _ (Array.getElem?_eq_getElem hlt') (hp e he hb)
    ·unfold before
     rw [List.getD_eq_getElem?_getD, List.getElem?_take_of_lt hlt, ← List.getD_eq_getElem?_getD] at h
     exact h
   ·rw [List.getD_eq_getElem?_getD, List.getElem?_eq_none (by simp; omega)] at h
    simp at h
theorem draw_ok (hnp : M.np ≤ E.pin) (ht : TbOK P E.tb) (hoc : OrcM P E.orc w0 M) (hmix : P.follows .mixedOrders = true) {id : Nat} {ops : Array Oper} (h : Rel w0 M X hd st a w) (hk : Next w0 M X k r fun a w => Q .normal a w) (hok : drawOK ops.toList = true)
  (hr : opsD E (flOf E id ops.toList) ops.toList ops.toList 0 [] st k = some r) : (Code.region id ops true).wp P Q a w := by
 obtain ⟨sf, hrun, hkr⟩ := opsD_run (all := ops.toList) (ops := ops.toList) (i := 0) (by simp) (fs := []) (fun d b hb => by simp [look] at hb) hr
 unfold drawOK at hok
 rw [Bool.and_eq_true] at hok
 obtain ⟨hok1, hok2⟩ := hok
 refine wp_region_any hmix ?_
 have h0 : Rel w0 M X hd st a { w with drawn := w.drawn + 1 } := h.sameHeap rfl rfl rfl rfl
 -- the ones that are left, in order
 have main : ∀ (n : Nat) (L : List Nat) (listed : Array Bool) (hd : Nat → Value) (st : St) (a : Act) (w : World), L.length = n → listed.size = ops.size → L.Pairwise (· < ·) → (∀ i, i < ops.size → (listed.getD i true = false ↔ i ∈ L)) → (∀ i ∈ L, i < ops.size) →
   (∀ x o, ops[x]? = some o → listed.getD x false = true → ∀ e ∈ o.after.toList, bindsAny e = true → listed.getD e.on false = true) → Rel w0 M X hd st a w → Run E (flOf E id ops.toList) ops.toList L st sf → wpAny P .any ops Q n listed a w := by
  intro n
  induction n with
  | zero =>
   intro L listed hd st a w hn hs _ hl _ _ hrel hrun
   have : L = [] := List.eq_nil_of_length_eq_zero hn
   subst this
   have e : st = sf := hrun
   subst e
   refine ⟨?_, hk _ _ _ _ hrel hkr⟩
   refine List.eq_nil_iff_forall_not_mem.2 fun i hi => ?_
   simp only [Region.ready, List.mem_filter, List.mem_range, Bool.and_eq_true, Bool.not_eq_true'] at hi
   have := (hl i hi.1).1 hi.2.1
   cases this
  | succ n ih =>
   intro L listed hd st a w hn hs hp hl hlt hcl hrel hrun
   have ready_iff : ∀ i, i ∈ Region.ready .any ops listed → i ∈ L ∧ i < ops.size ∧ ∃ o, ops[i]? = some o ∧ ∀ e ∈ o.after.toList, bindsAny e = true → listed.getD e.on false = true := by
    intro i hi
    simp only [Region.ready, List.mem_filter, List.mem_range, Bool.and_eq_true, Bool.not_eq_true'] at hi
    obtain ⟨h1, h2, h3⟩ := hi
    refine ⟨(hl i h1).1 h2, h1, ?_⟩
    cases ho : ops[i]? with
    | none => rw [ho] at h3; simp at h3
    | some o =>
     rw [ho] at h3
     refine ⟨o, rfl, fun e he hb => ?_⟩
     simp only [Option.map_some, Option.getD_some, Array.all_eq_true_iff_forall_mem] at h3
     have := h3 e (by simpa using he)
     unfold bindsAny at hb
     rw [hb] at this
     simpa using this
   refine ⟨fun hnil => ?_, fun i hi => ?_⟩
   ·-- the first one that is left is ready
    exfalso
    match L, hn with
    | i :: L', _ =>
     have hi : i < ops.size := hlt i (by simp)
     have : i ∈ Region.ready .any ops listed := by
      simp only [Region.ready, List.mem_filter, List.mem_range, Bool.and_eq_true, Bool.not_eq_true']
      refine ⟨hi, (hl i hi).2 (by simp), ?_⟩
      have ho : ops[i]? = some ops[i] := by simp [hi]
      rw [ho]
      simp only [Option.map_some, Option.getD_some, Array.all_eq_true_iff_forall_mem]
      intro e he
      have hz := List.all_eq_true.1 hok2 (ops[i], i) (by
       rw [List.mem_zipIdx_iff_getElem?]
       simp [hi])
      have hb := List.all_eq_true.1 hz e (by simpa using he)
      simp only [Bool.or_eq_true, Bool.not_eq_true'] at hb ⊢
      rcases hb with hb | hb
      ·exact .inl hb
      ·right
       have hon : e.on < i := by simpa [Nat.blt_eq] using hb
       cases hlist : listed.getD e.on true with
       | false =>
        have := (hl e.on (by omega)).1 hlist
        rcases List.mem_cons.1 this with h1 | h1
        ·omega
        ·have := (List.pairwise_cons.1 hp).1 e.on h1; omega
       | true =>
        have hlt' : e.on < listed.size := by rw [hs]; omega
        simp only [Array.getD_eq_getD_getElem?] at hlist ⊢
        rw [Array.getElem?_eq_getElem hlt'] at hlist ⊢
        simpa using hlist
     rw [hnil] at this
     cases this
   ·obtain ⟨hiL, hi', o, ho, hafter⟩ := ready_iff i hi
    obtain ⟨L1, L2, rfl⟩ := List.append_of_mem hiL
    have hlist : ops.toList[i]? = some o := by simpa using ho
    have hap : ∀ j ∈ L1, (flOf E id ops.toList).free j = true ∧ (flOf E id ops.toList).free i = true ∧ ∀ x, ops.toList[j]? = some x → Beside E (flOf E id ops.toList) ops.toList j i x o := by
     intro j hj
     have hji : j < i := by
      have := (List.pairwise_append.1 hp).2.2 j hj i (by simp)
      exact this
     have hnl : listed.getD j true = false := (hl j (by omega)).2 (List.mem_append_left _ hj)
     have hna : before ops.toList j i = false := by
      rw [Bool.eq_false_iff]
      intro hc
      have := before_listed hcl (i + 1) i o (Nat.lt_succ_self i) ho hafter j hc
      have hlt' : j < listed.size := by rw [hs]; omega
      simp only [Array.getD_eq_getD_getElem?] at this hnl
      rw [Array.getElem?_eq_getElem hlt'] at this hnl
      simp only [Option.getD_some] at this hnl
      rw [this] at hnl; cases hnl
     have hpair := mem_freePairs hji hlist hna
     refine ⟨?_, ?_, fun x hx => ?_⟩
     ·exact List.any_eq_true.2 ⟨_, hpair, by simp⟩
     ·exact List.any_eq_true.2 ⟨_, hpair, by simp⟩
     ·have := List.all_eq_true.1 hok1 _ hpair
      simp only [hx, hlist] at this
      simp only [Bool.or_eq_true] at this
      refine ⟨(or_assoc.1 this), fun hb => ?_, fun hb => ?_, fun hb => ?_, fun hb => ?_, fun hb => ?_, fun hb => ?_, fun hb => ?_, fun hb => ?_, fun hb => ?_, fun hb => ?_⟩
      ·have h2 := List.all_eq_true.1 hb _ hpair
       simp only [isPure, hlist, Nat.beq_refl, Bool.not_true, Bool.false_or, Bool.and_eq_true] at h2
       exact h2.1
      ·have h2 := List.all_eq_true.1 hb _ hpair
       simp only [isPure, hx, Nat.beq_refl, Bool.not_true, Bool.false_or, Bool.and_eq_true] at h2
       exact h2.2
      ·have h2 := List.all_eq_true.1 hb _ hpair
       simp only [isMove, hlist, Nat.beq_refl, Bool.not_true, Bool.false_or, Bool.and_eq_true] at h2
       exact h2.1
      ·have h2 := List.all_eq_true.1 hb _ hpair
       simp only [isMove, hx, Nat.beq_refl, Bool.not_true, Bool.false_or, Bool.and_eq_true] at h2
       exact h2.2
      ·have h2 := List.all_eq_true.1 hb _ hpair
       simp only [isSlotO, hlist, Nat.beq_refl, Bool.not_true, Bool.false_or, Bool.and_eq_true] at h2
       exact h2.1
      ·have h2 := List.all_eq_true.1 hb _ hpair
       simp only [isSlotO, hx, Nat.beq_refl, Bool.not_true, Bool.false_or, Bool.and_eq_true] at h2
       exact h2.2
      ·have h2 := List.all_eq_true.1 hb _ hpair
       simp only [isGentle, hlist, Nat.beq_refl, Bool.not_true, Bool.false_or, Bool.and_eq_true] at h2
       exact h2.1
      ·have h2 := List.all_eq_true.1 hb _ hpair
       simp only [isGentle, hx, Nat.beq_refl, Bool.not_true, Bool.false_or, Bool.and_eq_true] at h2
       exact h2.2
      ·refine List.any_eq_true.2 ⟨_, hpair, ?_⟩
       simp [isWrites, hlist, hb]
      ·refine List.any_eq_true.2 ⟨_, hpair, ?_⟩
       simp [isWrites, hx, hb]
    obtain ⟨s1, hg, _, hrun'⟩ := Run.pull hlist hrun hap (hrel.there o)
    refine gK_real hnp ht hoc ho hrel hg fun hd' a' w' hrel' => ?_
    have hlen : (L1 ++ L2).length = n := by simp only [List.length_append, List.length_cons] at hn ⊢; omega
    refine ih (L1 ++ L2) _ hd' s1 a' w' hlen (by simp [hs]) ?_ ?_ ?_ ?_ hrel' hrun'
    ·rw [List.pairwise_append] at hp ⊢
     refine ⟨hp.1, (List.pairwise_cons.1 hp.2.1).2, fun x hx y hy => hp.2.2 x hx y (by simp [hy])⟩
    ·intro j hj
     have hij : i ∉ L1 ∧ i ∉ L2 := by
      rw [List.pairwise_append] at hp
      refine ⟨fun hm => ?_, fun hm => ?_⟩
      ·exact absurd (hp.2.2 i hm i (by simp)) (Nat.lt_irrefl _)
      ·exact absurd ((List.pairwise_cons.1 hp.2.1).1 i hm) (Nat.lt_irrefl _)
     have hlj := hl j hj
     by_cases e : j = i
     ·subst e
      constructor
      ·intro hc
       rw [Array.getD_eq_getD_getElem?, Array.getElem?_setIfInBounds] at hc
       simp [hs, hi'] at hc
      ·intro hm
       rcases List.mem_append.1 hm with h1 | h1
       ·exact absurd h1 hij.1
       ·exact absurd h1 hij.2
     ·rw [Array.getD_eq_getD_getElem?, Array.getElem?_setIfInBounds, if_neg (fun h => e h.symm), ← Array.getD_eq_getD_getElem?, hlj]
      simp [e]
    ·intro j hj
     refine hlt j ?_
     rcases List.mem_append.1 hj with h1 | h1
     ·exact List.mem_append_left _ h1
     ·exact List.mem_append_right _ (List.mem_cons_of_mem _ h1)
    ·have up : ∀ y, listed.getD y false = true → (listed.setIfInBounds i true).getD y false = true := by
      intro y hy
      rw [Array.getD_eq_getD_getElem?] at hy ⊢
      rw [Array.getElem?_setIfInBounds]
      split
      ·rename_i e
       split
       ·rfl
       ·rename_i hge
        rw [← e] at hy
        rw [Array.getElem?_eq_none (by omega)] at hy
        exact hy
      ·exact hy
     intro x o' hx hlx e he hb
     by_cases e1 : x = i
     ·subst e1
      rw [ho] at hx; cases hx
      exact up _ (hafter e he hb)
     ·refine up _ (hcl x o' hx ?_ e he hb)
      rw [Array.getD_eq_getD_getElem?, Array.getElem?_setIfInBounds, if_neg (fun h => e1 h.symm), ← Array.getD_eq_getD_getElem?] at hlx
      exact hlx
 refine main ops.size (List.range' 0 ops.size) _ hd st a _ (by simp) (by simp) (by rw [← List.range_eq_range']; exact List.pairwise_lt_range) ?_ (by simp) ?_ h0 (by simpa using hrun)
 ·intro i hi
  rw [Array.getD_eq_getD_getElem?, Array.getElem?_replicate]
  simp [hi]
 ·intro x o _ hx
  rw [Array.getD_eq_getD_getElem?, Array.getElem?_replicate] at hx
  split at hx <;> simp at hx
end
end Go.V
end
section
namespace Go.V
open Go Go.RowKit
set_option linter.unusedVariables false
set_option linter.unusedSimpArgs false
def exOf : Ex → Exit
 | .normal => .normal
 | .exit id => .exit id
 | .ret => .ret
section
variable {P : Program} {E : En} {R : Type} {w0 : World} {M : Mo} {X : Nat → Prop} {hd : Nat → Value} {st s : St} {a : Act} {w w' : World} {r : R}
def NextE (w0 : World) (M : Mo) (X : Nat → Prop) (k : Ex → St → Option R) (r : R) (Q : Exit → Act → World → Prop) : Prop :=
 ∀ e st hd a w, Rel w0 M X hd st a w → k e st = some r → Q (exOf e) a w
theorem code_ok (hnp : M.np ≤ E.pin) (ht : TbOK P E.tb) (hoc : OrcM P E.orc w0 M) (hmix : P.follows .mixedOrders = true) : ∀ (c : Code) (cur : Nat) {hd : Nat → Value} {st : St} {a : Act} {w : World} {k : Ex → St → Option R} {Q : Exit → Act → World → Prop},
  Rel w0 M X hd st a w → NextE w0 M X k r Q → codeK E c cur st k = some r → c.wp P Q a w := by
 intro c
 induction c with
 | skip => intro cur hd st a w k Q h hk hr; exact wp_skip (hk .normal _ _ _ _ h hr)
 | region id ops draw =>
  intro cur hd st a w k Q h hk hr
  have hk' : Next w0 M X (fun st => k .normal st) r fun a w => Q .normal a w := fun st hd a w h e => hk .normal _ _ _ _ h e
  cases draw with
  | false => exact region_ok hnp ht hoc h hk' hr
  | true =>
   have hr : (match drawOK ops.toList, prepS (E.dr id) st with
    | true, some st => opsD E (flOf E id ops.toList) ops.toList ops.toList 0 [] st fun st => k .normal st
    | _, _ => none) = some r := hr
   split at hr
   ·rename_i st1 hok hp
    obtain ⟨hd1, h1⟩ := prepS_ok h hp
    exact draw_ok hnp ht hoc hmix h1 hk' hok hr
   ·cases hr
 | seq x y ihx ihy =>
  intro cur hd st a w k Q h hk hr
  refine wp_seq (ihx cur h ?_ hr)
  intro e st hd a w h hr
  cases e with
  | normal => exact ihy cur h hk hr
  | exit id => exact hk (.exit id) _ _ _ _ h hr
  | ret => exact hk .ret _ _ _ _ h hr
 | cond c x y ihx ihy =>
  intro cur hd st a w k Q h hk hr
  obtain ⟨t, hc, hr⟩ := fork_ok (ev_ok h c) hr
  refine wp_cond hc ?_
  cases t with
  | true => exact ihx cur h hk hr
  | false => exact ihy cur h hk hr
 | block id c ih =>
  intro cur hd st a w k Q h hk hr
  refine wp_block (ih id h ?_ hr)
  intro e st hd a w h hr
  cases e with
  | normal => exact hk .normal _ _ _ _ h hr
  | exit id' =>
   have hr : (match Nat.beq id' id with | true => k .normal st | false => k (.exit id') st) = some r := hr
   show (if id' = id then Q .normal a w else Q (.exit id') a w)
   split at hr
   ·rename_i he
    rw [if_pos (Nat.eq_of_beq_eq_true he)]
    exact hk .normal _ _ _ _ h hr
   ·rename_i he
    rw [if_neg (fun e => by rw [e, Nat.beq_refl] at he; cases he)]
    exact hk (.exit id') _ _ _ _ h hr
  | ret => exact hk .ret _ _ _ _ h hr
 | loop c ih =>
  intro cur hd st a w k Q h hk hr
  have hr : (match norm E.pin (E.lv cur) st with
   | none => none
   | some st => iterN (norm E.pin (E.lv cur)) (codeK E c cur) k E.K st) = some r := hr
  split at hr
  ·cases hr
  ·rename_i st1 hn
   obtain ⟨hd1, h1⟩ := norm_ok hnp h hn
   refine wp_loop_rounds E.K ?_
   have key : ∀ (n : Nat) (hd : Nat → Value) (st : St) (a : Act) (w : World), Rel w0 M X hd st a w → iterN (norm E.pin (E.lv cur)) (codeK E c cur) k n st = some r → Code.rounds P c Q n a w := by
    intro n
    induction n with
    | zero => intro hd st a w _ hr; cases hr
    | succ n ihn =>
     intro hd st a w h hr
     rw [rounds_succ]
     refine ih cur h ?_ (show codeK E c cur st (roundK (norm E.pin (E.lv cur)) k (iterN (norm E.pin (E.lv cur)) (codeK E c cur) k n)) = some r from hr)
     intro e st hd a w h hr
     cases e with
     | normal =>
      have hr : (match norm E.pin (E.lv cur) st with | none => none | some st => iterN (norm E.pin (E.lv cur)) (codeK E c cur) k n st) = some r := hr
      split at hr
      ·cases hr
      ·rename_i st2 hn2
       obtain ⟨hd2, h2⟩ := norm_ok hnp h hn2
       exact ihn hd2 st2 a w h2 hr
     | exit id => exact hk (.exit id) _ _ _ _ h hr
     | ret => exact hk .ret _ _ _ _ h hr
   exact key E.K hd1 st1 a w h1 hr
 | exit id => intro cur hd st a w k Q h hk hr; exact wp_exit (hk (.exit id) _ _ _ _ h hr)
 | ret => intro cur hd st a w k Q h hk hr; exact wp_ret (hk .ret _ _ _ _ h hr)
 | _ => intro cur hd st a w k Q h hk hr; cases hr
def hdOf (us : List Value) (b : Nat) (j : Nat) : Value := if b ≤ j then us.getD (j - b) (.slice none 0 0) else .slice none 0 0
def ownCount : List D1 → Nat
 | [] => 0
 | .own .. :: ds => ownCount ds + 1
 | .cel _ :: ds => ownCount ds + 1
 | .dat _ :: ds => ownCount ds
theorem outs_count : ∀ ds : List D1, (ds.filter (·.isOwn)).length = ownCount ds
 | [] => rfl
 | .own e t :: ds => by rw [List.filter_cons_of_pos (by rfl), List.length_cons, outs_count ds]; rfl
 | .cel t :: ds => by rw [List.filter_cons_of_pos (by rfl), List.length_cons, outs_count ds]; rfl
 | .dat t :: ds => by rw [List.filter_cons_of_neg (by simp [D1.isOwn]), outs_count ds]; rfl
theorem parL_ge : ∀ {ds : List D1} {x : dens ds} {b : Nat} {cells : List AV} {heap : List (Nat × Blk)}, parL b ds x = some (cells, heap) → ∀ j blk, look heap j = some blk → b ≤ j := by
 have one : ∀ {d : D1} {x : d.den} {b : Nat} {c : AV} {heap : List (Nat × Blk)}, par1 b d x = some (c, heap) → ∀ j blk, look heap j = some blk → b ≤ j := by
  intro d x b c heap h j blk hl
  cases d with
  | dat t =>
   have h : (match cellsAV t x with | [v] => some (v, []) | _ => none) = some (c, heap) := h
   split at h
   ·cases h; cases hl
   ·cases h
  | own e t =>
   have h : some (AV.own b, [(b, Blk.flat e t x)]) = some (c, heap) := h
   cases h
   rw [look_cons] at hl
   split at hl
   ·rename_i e'; omega
   ·cases hl
  | cel t =>
   have h : some (AV.box b 0, [(b, Blk.cells (cellsAV t x))]) = some (c, heap) := h
   cases h
   rw [look_cons] at hl
   split at hl
   ·rename_i e'; omega
   ·cases hl
 intro ds
 induction ds with
 | nil => intro x b cells heap h j blk hl; cases (show some ([], []) = some (cells, heap) from h); cases hl
 | cons d ds ih =>
  intro x b cells heap h j blk hl
  cases ds with
  | nil =>
   have h : (match par1 b d x with | some (v, h) => some ([v], h) | none => none) = some (cells, heap) := h
   split at h
   ·rename_i c h1 h2
    cases h
    exact one h2 j blk hl
   ·cases h
  | cons d' ds =>
   have h : (match par1 b d x.1 with
    | some (v, h) => match parL (match d.isOwn with | true => b + 1 | false => b) (d' :: ds) x.2 with
     | some (vs, h') => some (v :: vs, h ++ h')
     | none => none
    | none => none) = some (cells, heap) := h
   split at h
   ·rename_i c h1 hp1
    split at h
    ·rename_i cs h2 hp2
     cases h
     rw [look_append] at hl
     split at hl
     ·rename_i v hv; exact one hp1 j v hv
     ·have := ih hp2 j blk hl
      split at this <;> omega
    ·cases h
   ·cases h
theorem parL_ok {N : Nat → Prop} {f : Nat → Option Blk} {hd : Nat → Value} : ∀ {ds : List D1} {x : dens ds} {vs : List Value} {b : Nat} {cells : List AV} {heap : List (Nat × Blk)}, PL w N ds x vs → parL b ds x = some (cells, heap) →
  (∀ i u, (ownV ds vs)[i]? = some u → hd (b + i) = u) → (∀ j blk, look heap j = some blk → f j = some blk) →
  All2 (R1 ⟨w, N, hd, f⟩) cells vs ∧ (∀ j blk, look heap j = some blk → b ≤ j ∧ j < b + ownCount ds ∧ RB ⟨w, N, hd, f⟩ j blk) ∧ (∀ i, i < ownCount ds → ∃ blk, look heap (b + i) = some blk) ∧ (ownV ds vs).length = ownCount ds := by
 have one : ∀ {d : D1} {x : d.den} {v : Value} {b : Nat} {c : AV} {heap : List (Nat × Blk)}, P1 w N d x v → par1 b d x = some (c, heap) → (∀ i u, (ownV [d] [v])[i]? = some u → hd (b + i) = u) → (∀ j blk, look heap j = some blk → f j = some blk) →
   R1 ⟨w, N, hd, f⟩ c v ∧ (∀ j blk, look heap j = some blk → b ≤ j ∧ j < b + ownCount [d] ∧ RB ⟨w, N, hd, f⟩ j blk) ∧ (∀ i, i < ownCount [d] → ∃ blk, look heap (b + i) = some blk) := by
  intro d x v b c heap hp hpar hhd hf
  cases d with
  | dat t =>
   have hpar : (match cellsAV t x with | [v] => some (v, []) | _ => none) = some (c, heap) := hpar
   split at hpar
   ·rename_i u hu
    cases hpar
    have hc := cellsAV_ok (c := ⟨w, N, hd, f⟩) (show Rc w N t x [v] from hp)
    rw [hu] at hc
    exact ⟨R1.of0 hc.1, (fun j blk h => by cases h), fun i hi => absurd hi (Nat.not_lt_zero _)⟩
   ·cases hpar
  | own e t =>
   have hpar : some (AV.own b, [(b, Blk.flat e t x)]) = some (c, heap) := hpar
   cases hpar
   obtain ⟨xs, ho, hE⟩ := hp
   have h0 : hd b = v := by simpa using hhd 0 v rfl
   have hlook : look [(b, Blk.flat e t x)] b = some (.flat e t x) := by rw [look_cons, if_pos rfl]
   refine ⟨⟨h0.symm, owns_one ho, .flat e t x, e, t, _, hf b _ hlook, rfl⟩, ?_, ?_⟩
   ·intro j blk hl
    rw [look_cons] at hl
    split at hl
    ·rename_i e'
     cases hl
     subst e'
     exact ⟨Nat.le_refl _, by simp [ownCount], xs, by show w.ownsRow 0 e t.size (hd j) _ _; rw [h0]; exact ho, hE⟩
    ·cases hl
   ·intro i hi
    simp [ownCount] at hi
    subst hi
    exact ⟨_, hlook⟩
  | cel t =>
   have hpar : some (AV.box b 0, [(b, Blk.cells (cellsAV t x))]) = some (c, heap) := hpar
   cases hpar
   obtain ⟨r, vs, e, hv, hheap, hpos, hrc⟩ := hp
   have h0 : hd b = v := by simpa using hhd 0 v rfl
   have hlook : look [(b, Blk.cells (cellsAV t x))] b = some (.cells (cellsAV t x)) := by rw [look_cons, if_pos rfl]
   have hc := cellsAV_ok (c := ⟨w, N, hd, f⟩) hrc
   have hlen := hc.length
   refine ⟨⟨.cells (cellsAV t x), _, r, hf b _ hlook, rfl, by rw [hlen, hrc.length]; exact hpos, h0.trans hv, hv⟩, ?_, ?_⟩
   ·intro j blk hl
    rw [look_cons] at hl
    split at hl
    ·rename_i e'
     cases hl
     subst e'
     exact ⟨Nat.le_refl _, by simp [ownCount], r, vs, e, h0.trans hv, hheap, hc.mono fun _ _ => R1.of0⟩
    ·cases hl
   ·intro i hi
    simp [ownCount] at hi
    subst hi
    exact ⟨_, hlook⟩
 intro ds
 induction ds with
 | nil =>
  intro x vs b cells heap hp hpar hhd hf
  have hp : vs = [] := hp
  subst hp
  have hpar : some ([], []) = some (cells, heap) := hpar
  cases hpar
  exact ⟨trivial, (fun j blk h => by cases h), (fun i hi => absurd hi (Nat.not_lt_zero _)), rfl⟩
 | cons d ds ih =>
  intro x vs b cells heap hp hpar hhd hf
  cases ds with
  | nil =>
   obtain ⟨v, rfl, hp⟩ := hp
   have hpar : (match par1 b d x with | some (v, h) => some ([v], h) | none => none) = some (cells, heap) := hpar
   split at hpar
   ·rename_i c h hpar1
    cases hpar
    obtain ⟨q1, q2, q3⟩ := one hp hpar1 hhd hf
    exact ⟨⟨q1, trivial⟩, q2, q3, by cases d <;> rfl⟩
   ·cases hpar
  | cons d' ds =>
   obtain ⟨v, us, rfl, hp1, hp2⟩ := hp
   have hpar : (match par1 b d x.1 with
    | some (v, h) => match parL (match d.isOwn with | true => b + 1 | false => b) (d' :: ds) x.2 with
     | some (vs, h') => some (v :: vs, h ++ h')
     | none => none
    | none => none) = some (cells, heap) := hpar
   split at hpar
   ·rename_i c h1 hpar1
    split at hpar
    ·rename_i cs h2 hpar2
     cases hpar
     have e1 : ownV (d :: d' :: ds) (v :: us) = ownV [d] [v] ++ ownV (d' :: ds) us := by cases d <;> rfl
     have e2 : (match d.isOwn with | true => b + 1 | false => b) = b + ownCount [d] := by cases d <;> rfl
     have e3 : ownCount (d :: d' :: ds) = ownCount [d] + ownCount (d' :: ds) := by cases d <;> simp [ownCount] <;> omega
     have e4 : (ownV [d] [v]).length = ownCount [d] := by cases d <;> rfl
     rw [e2] at hpar2
     obtain ⟨q1, q2, q3⟩ := one hp1 hpar1 (fun i u hu => hhd i u (by rw [e1, List.getElem?_append_left (by obtain ⟨h, _⟩ := List.getElem?_eq_some_iff.1 hu; exact h)]; exact hu))
      (fun j blk hl => hf j blk (by rw [look_append, hl]))
     have hlk : ∀ j blk, look h2 j = some blk → b + ownCount [d] ≤ j → look (h1 ++ h2) j = some blk := by
      intro j blk hl hj
      rw [look_append]
      split
      ·rename_i v hv
       have := (q2 j v hv).2.1
       omega
      ·exact hl
     -- rows of the rest lie behind
     have hge : ∀ j blk, look h2 j = some blk → b + ownCount [d] ≤ j := parL_ge hpar2
     obtain ⟨p1, p2, p3, p4⟩ := ih (b := b + ownCount [d]) hp2 hpar2 (fun i u hu => by
       have := hhd (ownCount [d] + i) u (by rw [e1, List.getElem?_append_right (by omega), e4, Nat.add_sub_cancel_left]; exact hu)
       rw [Nat.add_assoc]; exact this) (fun j blk hl => hf j blk (hlk j blk hl (hge j blk hl)))
     refine ⟨⟨q1, p1⟩, ?_, ?_, by rw [e1, List.length_append, e4, p4, e3]⟩
     ·intro j blk hl
      rw [look_append] at hl
      split at hl
      ·rename_i v hv
       cases hl
       obtain ⟨r1, r2, r3⟩ := q2 j _ hv
       exact ⟨r1, by rw [e3]; omega, r3⟩
      ·obtain ⟨r1, r2, r3⟩ := p2 j blk hl
       exact ⟨by omega, by rw [e3]; omega, r3⟩
     ·intro i hi
      rw [e3] at hi
      by_cases hlt : i < ownCount [d]
      ·obtain ⟨blk, hb⟩ := q3 i hlt
       exact ⟨blk, by rw [look_append, hb]⟩
      ·obtain ⟨blk, hb⟩ := p3 (i - ownCount [d]) (by omega)
       rw [show b + ownCount [d] + (i - ownCount [d]) = b + i by omega] at hb
       exact ⟨blk, hlk _ _ hb (by omega)⟩
    ·cases hpar
   ·cases hpar
end
end Go.V
end
section
namespace Go.V
open Go Go.RowKit
set_option linter.unusedVariables false
set_option linter.unusedSimpArgs false
section
variable {P : Program} {E : En} {w0 : World} {M : Mo} {X : Nat → Prop} {hd : Nat → Value} {st s : St} {a : Act} {w w' : World}
def resSem (tmps : Array Value) : ResultVar → Sem Value
 | .tmp t => pure (tmps.getD t undef)
 | .cell a t => do loadVar t (← asAddr (tmps.getD a undef))
theorem resultA_ok (ht : TbOK P E.tb) (h : Rel w0 M X hd st a w) {rv : ResultVar} {v : AV} (hr : resultA E st rv = some v) : ∃ u, (resSem a.tmps rv).run P w = .ok u w ∧ Rt (st.cx X hd w) v u := by
 cases rv with
 | tmp t =>
  cases (show some (st.get t).settle = some v from hr)
  exact ⟨_, rfl, (h.tmps t).settle⟩
 | cell b t =>
  have hr : (match E.tb t with
   | some i => match loadC st i.size (st.get b) with
    | some cs => valOf i cs
    | none => none
   | none => none) = some v := hr
  split at hr
  ·rename_i i hi
   obtain ⟨en⟩ := ht.entry hi
   split at hr
   ·rename_i cs hcs
    obtain ⟨ad, vs, hp, hlen, hc, ha⟩ := loadC_ok h (h.tmps b) hcs
    obtain ⟨x, hx, hxr⟩ := run_loadVar' (P := P) en hlen hc ha hr
    refine ⟨x, ?_, hxr⟩
    unfold resSem
    simp [hp, asAddr, hx]
   ·cases hr
  ·cases hr
theorem resultsA_ok (ht : TbOK P E.tb) (h : Rel w0 M X hd st a w) : ∀ {rs : List ResultVar} {vs : List AV}, resultsA E st rs = some vs → ∃ us, (rs.mapM (resSem a.tmps)).run P w = .ok us w ∧ All2 (Rt (st.cx X hd w)) vs us
 | [], vs, hr => by cases (show some [] = some vs from hr); exact ⟨[], rfl, trivial⟩
 | rv :: rs, vs, hr => by
  have hr : (match resultA E st rv with
   | some v => match resultsA E st rs with
    | some vs => some (v :: vs)
    | none => none
   | none => none) = some vs := hr
  split at hr
  ·rename_i v hv
   split at hr
   ·rename_i vs' hvs
    cases hr
    obtain ⟨u, h1, h2⟩ := resultA_ok ht h hv
    obtain ⟨us, h3, h4⟩ := resultsA_ok ht h hvs
    exact ⟨u :: us, by simp [List.mapM_cons, h1, h3], h2, h4⟩
   ·cases hr
  ·cases hr
theorem results_eq (fn : Func) (tmps : Array Value) : results fn tmps = (do let vs ← fn.results.mapM (resSem tmps); pure (if h : vs.size = 1 then vs[0] else .tuple vs)) := by
 unfold results
 congr 1
theorem results_run {fn : Func} {us : List Value} (h : (fn.results.toList.mapM (resSem a.tmps)).run P w = .ok us w) : ∃ v, (results fn a.tmps).run P w = .ok v w ∧ Gives v us := by
 rw [results_eq, Array.mapM_eq_mapM_toList]
 simp only [Sem.run_bind, Sem.run_map, h, Result.andThen_ok, Sem.run_pure]
 match us with
 | [] => exact ⟨_, rfl, rfl⟩
 | [u] => exact ⟨_, rfl, rfl⟩
 | u :: u' :: us => exact ⟨_, by simp, rfl⟩
theorem slots_look : ∀ (vs : List AV) (i t : Nat), lookA (slots i vs) t = if i ≤ t then vs.getD (t - i) .undef else .undef
 | [], i, t => by simp [slots, lookA, look]
 | v :: vs, i, t => by
  have := slots_look vs (i + 1) t
  unfold lookA at this ⊢
  rw [slots, look_cons]
  by_cases e : t = i
  ·subst e; simp
  ·rw [if_neg e, this]
   by_cases h1 : i ≤ t
   ·rw [if_pos (by omega), if_pos h1, show t - i = (t - (i + 1)) + 1 by omega]
    simp
   ·rw [if_neg (by omega), if_neg h1]
theorem ownB_ownV : ∀ {ds : List D1} {vs : List Value} {r : Nat}, r ∈ ownB ds vs ↔ ∃ v ∈ ownV ds vs, blockOf v = some r
 | [], vs, r => by simp [ownB, ownV]
 | .own e t :: ds, [], r => by simp [ownB, ownV]
 | .dat t :: ds, [], r => by simp [ownB, ownV]
 | .dat t :: ds, v :: vs, r => by
  show r ∈ ownB ds vs ↔ ∃ u ∈ ownV ds vs, blockOf u = some r
  exact ownB_ownV
 | .own e t :: ds, v :: vs, r => by
  have ih := ownB_ownV (ds := ds) (vs := vs) (r := r)
  cases hb : blockOf v with
  | none =>
   simp only [ownB, hb, ownV, List.mem_cons]
   rw [ih]
   constructor
   ·rintro ⟨u, hu, h⟩; exact ⟨u, .inr hu, h⟩
   ·rintro ⟨u, rfl | hu, h⟩
    ·rw [hb] at h; cases h
    ·exact ⟨u, hu, h⟩
  | some q =>
   simp only [ownB, hb, ownV, List.mem_cons]
   rw [ih]
   constructor
   ·rintro (rfl | ⟨u, hu, h⟩)
    ·exact ⟨v, .inl rfl, hb⟩
    ·exact ⟨u, .inr hu, h⟩
   ·rintro ⟨u, rfl | hu, h⟩
    ·rw [hb] at h; cases h; exact .inl rfl
    ·exact .inr ⟨u, hu, h⟩
 | .cel t :: ds, [], r => by simp [ownB, ownV]
 | .cel t :: ds, v :: vs, r => by
  have ih := ownB_ownV (ds := ds) (vs := vs) (r := r)
  cases hb : blockOf v with
  | none =>
   simp only [ownB, hb, ownV, List.mem_cons]
   rw [ih]
   constructor
   ·rintro ⟨u, hu, h⟩; exact ⟨u, .inr hu, h⟩
   ·rintro ⟨u, rfl | hu, h⟩
    ·rw [hb] at h; cases h
    ·exact ⟨u, hu, h⟩
  | some q =>
   simp only [ownB, hb, ownV, List.mem_cons]
   rw [ih]
   constructor
   ·rintro (rfl | ⟨u, hu, h⟩)
    ·exact ⟨v, .inl rfl, hb⟩
    ·exact ⟨u, .inr hu, h⟩
   ·rintro ⟨u, rfl | hu, h⟩
    ·rw [hb] at h; cases h; exact .inl rfl
    ·exact .inr ⟨u, hu, h⟩
theorem ownV_inj : ∀ {ds : List D1} {vs : List Value} {i j : Nat} {u v : Value} {r : Nat}, (ownB ds vs).Nodup → (ownV ds vs)[i]? = some u → (ownV ds vs)[j]? = some v → blockOf u = some r → blockOf v = some r → i = j
 | [], vs, i, j, u, v, r, _, h, _, _, _ => by simp [ownV] at h
 | .own e t :: ds, [], i, j, u, v, r, _, h, _, _, _ => by simp [ownV] at h
 | .dat t :: ds, [], i, j, u, v, r, _, h, _, _, _ => by simp [ownV] at h
 | .dat t :: ds, x :: vs, i, j, u, v, r, hn, h1, h2, h3, h4 => ownV_inj (ds := ds) hn h1 h2 h3 h4
 | .own e t :: ds, x :: vs, i, j, u, v, r, hn, h1, h2, h3, h4 => by
  have hn' : (ownB ds vs).Nodup := by
   cases hb : blockOf x with
   | none => simpa only [ownB, hb] using hn
   | some q => simp only [ownB, hb] at hn; exact (List.nodup_cons.1 hn).2
  have far : ∀ {k : Nat} {y : Value}, (ownV ds vs)[k]? = some y → blockOf y = some r → blockOf x = some r → False := by
   intro k y hk hy hx
   simp only [ownB, hx] at hn
   exact (List.nodup_cons.1 hn).1 (ownB_ownV.2 ⟨y, List.mem_of_getElem? hk, hy⟩)
  simp only [ownV] at h1 h2
  cases i with
  | zero => cases j with
   | zero => rfl
   | succ j =>
    simp at h1 h2
    subst h1
    exact (far h2 h4 h3).elim
  | succ i => cases j with
   | zero =>
    simp at h1 h2
    subst h2
    exact (far h1 h3 h4).elim
   | succ j =>
    simp at h1 h2
    rw [ownV_inj hn' h1 h2 h3 h4]
 | .cel t :: ds, [], i, j, u, v, r, _, h, _, _, _ => by simp [ownV] at h
 | .cel t :: ds, x :: vs, i, j, u, v, r, hn, h1, h2, h3, h4 => by
  have hn' : (ownB ds vs).Nodup := by
   cases hb : blockOf x with
   | none => simpa only [ownB, hb] using hn
   | some q => simp only [ownB, hb] at hn; exact (List.nodup_cons.1 hn).2
  have far : ∀ {k : Nat} {y : Value}, (ownV ds vs)[k]? = some y → blockOf y = some r → blockOf x = some r → False := by
   intro k y hk hy hx
   simp only [ownB, hx] at hn
   exact (List.nodup_cons.1 hn).1 (ownB_ownV.2 ⟨y, List.mem_of_getElem? hk, hy⟩)
  simp only [ownV] at h1 h2
  cases i with
  | zero => cases j with
   | zero => rfl
   | succ j =>
    simp at h1 h2
    subst h1
    exact (far h2 h4 h3).elim
  | succ i => cases j with
   | zero =>
    simp at h1 h2
    subst h2
    exact (far h1 h3 h4).elim
   | succ j =>
    simp at h1 h2
    rw [ownV_inj hn' h1 h2 h3 h4]
def nameAV : D1 → Nat → AV
 | .own .., i => .own i
 | .cel _, i => .box i 0
 | .dat _, _ => .undef
theorem ownAV_vals {c : Cx} : ∀ {ds : List D1} {i : Nat} {vs : List Value}, (∀ j d u, (ds.filter (·.isOwn))[j]? = some d → (ownV ds vs)[j]? = some u → R1 c (nameAV d (i + j)) u) → vs.length = ds.length → All2 (R1 c) (ownCells ds (ownAV i ds)) (ownV ds vs)
 | [], _, _, _, _ => trivial
 | .own e t :: ds, i, [], _, hl => by simp at hl
 | .cel t :: ds, i, [], _, hl => by simp at hl
 | .dat t :: ds, i, [], _, hl => by simp at hl
 | .own e t :: ds, i, v :: vs, h, hl => ⟨h 0 (.own e t) v (by simp [D1.isOwn]) rfl, ownAV_vals (i := i + 1) (fun j d u hd hu => by have := h (j + 1) d u (by simpa [D1.isOwn] using hd) hu; rw [show i + 1 + j = i + (j + 1) by omega]; exact this) (by simpa using hl)⟩
 | .cel t :: ds, i, v :: vs, h, hl => ⟨h 0 (.cel t) v (by simp [D1.isOwn]) rfl, ownAV_vals (i := i + 1) (fun j d u hd hu => by have := h (j + 1) d u (by simpa [D1.isOwn] using hd) hu; rw [show i + 1 + j = i + (j + 1) by omega]; exact this) (by simpa using hl)⟩
 | .dat t :: ds, i, v :: vs, h, hl => ownAV_vals (ds := ds) (i := i) (fun j d u hd hu => h j d u (by simpa [D1.isOwn] using hd) hu) (by simpa using hl)
theorem ownAV_get : ∀ {ds : List D1} {i j : Nat} {d : D1}, (ds.filter (·.isOwn))[j]? = some d → (ownCells ds (ownAV i ds))[j]? = some (nameAV d (i + j))
 | [], _, _, _, h => by simp at h
 | .own e t :: ds, i, 0, d, h => by simp [D1.isOwn] at h; subst h; rfl
 | .cel t :: ds, i, 0, d, h => by simp [D1.isOwn] at h; subst h; rfl
 | .own e t :: ds, i, j + 1, d, h => by
  have := ownAV_get (ds := ds) (i := i + 1) (j := j) (d := d) (by simpa [D1.isOwn] using h)
  rw [show i + (j + 1) = i + 1 + j by omega]
  exact this
 | .cel t :: ds, i, j + 1, d, h => by
  have := ownAV_get (ds := ds) (i := i + 1) (j := j) (d := d) (by simpa [D1.isOwn] using h)
  rw [show i + (j + 1) = i + 1 + j by omega]
  exact this
 | .dat t :: ds, i, j, d, h => ownAV_get (ds := ds) (i := i) (by simpa [D1.isOwn] using h)
theorem ownB_append : ∀ {ds es : List D1} {vs us : List Value}, vs.length = ds.length → ownB (ds ++ es) (vs ++ us) = ownB ds vs ++ ownB es us
 | [], es, [], us, _ => by simp [ownB]
 | [], _, _ :: _, _, h => by simp at h
 | _ :: _, _, [], _, h => by simp at h
 | d :: ds, es, v :: vs, us, h => by
  rw [List.cons_append, List.cons_append, ownB_cons, ownB_append (by simpa using h), ownB_cons d ds, List.append_assoc]
theorem ownB_outs : ∀ {ds : List D1} {vs : List Value}, ownB (ds.filter (·.isOwn)) (ownV ds vs) = ownB ds vs
 | [], _ => by simp [ownB]
 | .own e t :: ds, [] => by simp [ownB, ownV, List.filter_cons_of_pos, D1.isOwn]
 | .cel t :: ds, [] => by simp [ownB, ownV, List.filter_cons_of_pos, D1.isOwn]
 | .cel t :: ds, v :: vs => by
  rw [List.filter_cons_of_pos (by simp [D1.isOwn])]
  show ownB (.cel t :: ds.filter (·.isOwn)) (v :: ownV ds vs) = _
  rw [ownB_cons, ownB_outs, ownB_cons _ ds]
 | .dat t :: ds, [] => by
  rw [List.filter_cons_of_neg (by simp [D1.isOwn])]
  show ownB _ [] = _
  simp only [ownB]
  cases (ds.filter (·.isOwn)) with
  | nil => simp [ownB]
  | cons d _ => cases d <;> simp [ownB]
 | .dat t :: ds, v :: vs => by
  rw [List.filter_cons_of_neg (by simp [D1.isOwn])]
  exact ownB_outs (ds := ds)
 | .own e t :: ds, v :: vs => by
  rw [List.filter_cons_of_pos (by simp [D1.isOwn])]
  show ownB (.own e t :: ds.filter (·.isOwn)) (v :: ownV ds vs) = _
  rw [ownB_cons, ownB_outs, ownB_cons _ ds]
def FunR (E : En) (S : Does) (fn : Func) (Rf : List AV → List AV → Prop) (x : dens (flatC S.ps)) (y : dens (flatC S.rs ++ outsC S.ps)) : Prop :=
 ∃ c cells heap vs, fn.body = some c ∧ parL 0 (flatC S.ps) x = some (cells, heap) ∧ compsA S.ps cells = some vs ∧ vs.length ≤ fn.ntmps ∧ E.pin = (outsC S.ps).length ∧
  ∀ vs', Rf vs vs' → codeK E c 0 ⟨fn.ntmps, lookA (slots 0 vs'), look heap⟩ (finalK E S fn (ownAV 0 (flatC S.ps))) = some y
theorem meets_none {f : FuncId} {fn : Func} {S : Does} (hf : P.funcs[f]? = some fn) (hname : (fn.name == "runtime.NumGoroutine") = false) (hb : fn.body.isSome = true) (h : ∀ x, S.fn x = none) : Meets P f S := by
 refine ⟨?_, ?_⟩
 ·intro args w
  have h1 : fn.name ≠ "runtime.NumGoroutine" := by simpa using hname
  obtain ⟨c, hc⟩ := Option.isSome_iff_exists.1 hb
  simp [callFunc, hf, h1, hc, mark]
 ·intro w X args cells x y _ _ _ _ _ hy
  rw [h x] at hy; cases hy
theorem meets_ofR {Rf : List AV → List AV → Prop} (hRf : ∀ {cx : Cx} {vs : List AV} {us : List Value}, All2 (Ra cx) vs us → ∃ vs', Rf vs vs' ∧ All2 (Ra cx) vs' us) {f : FuncId} {fn : Func} {S : Does} (hf : P.funcs[f]? = some fn) (hname : (fn.name == "runtime.NumGoroutine") = false) (ht : TbOK P E.tb) (hoc : OrcOK P E.orc) (hmix : P.follows .mixedOrders = true)
  (hS : ∀ x y, S.fn x = some y → FunR E S fn Rf x y) (hb : fn.body.isSome = true) : Meets P f S := by
 refine ⟨?_, ?_⟩
 ·intro args w
  have h1 : fn.name ≠ "runtime.NumGoroutine" := by simpa using hname
  obtain ⟨c, hc⟩ := Option.isSome_iff_exists.1 hb
  simp [callFunc, hf, h1, hc, mark]
 ·intro w X args cells x y hcomps hX hp hn hgl hy
  obtain ⟨c, cellsa, heap, vs0, hc, hpar, hvs, hle1, hle2, hy⟩ := hS x y hy
  have hcl := hcomps.length
  obtain ⟨hd, hhd⟩ : ∃ hd, hd = hdOf (ownV (flatC S.ps) cells) 0 := ⟨_, rfl⟩
  have hdi : ∀ i u, (ownV (flatC S.ps) cells)[i]? = some u → hd i = u := by
   intro i u hu
   rw [hhd]
   simp [hdOf, List.getD_eq_getElem?_getD, hu]
  have held : ∀ b blk, look heap b = some blk → b < ownCount (flatC S.ps) := by
   intro b blk hl
   exact (Nat.zero_add (ownCount (flatC S.ps))) ▸ ((parL_ok (N := fun _ => False) (f := look heap) (hd := hd) (w := w) (hp.weaken fun _ h => h.elim) hpar (fun i u hu => by rw [Nat.zero_add]; exact hdi i u hu) (fun _ _ h => h)).2.1 b blk hl).2.1
  have hlen : (ownV (flatC S.ps) cells).length = ownCount (flatC S.ps) := (parL_ok (N := fun _ => False) (f := look heap) (hd := hd) (w := w) (hp.weaken fun _ h => h.elim) hpar (fun i u hu => by rw [Nat.zero_add]; exact hdi i u hu) (fun _ _ h => h)).2.2.2
  have hheldB : ∀ r, Held (look heap) hd r → r ∈ ownB (flatC S.ps) cells := by
   rintro r ⟨b, blk, hl, hr⟩
   have hlt : b < (ownV (flatC S.ps) cells).length := by rw [hlen]; exact held b blk hl
   have hbv := hdi b _ (List.getElem?_eq_getElem hlt)
   exact ownB_ownV.2 ⟨_, List.getElem_mem hlt, by rw [← hbv]; exact hr⟩
  obtain ⟨q1, q2, q3, _⟩ := parL_ok (N := fun r => X r ∨ Mine (look heap) hd r) (f := look heap) (hd := hd) (w := w) (hp.weaken fun r hr => hr.imp id fun hm => hheldB r hm.held) hpar (fun i u hu => by rw [Nat.zero_add]; exact hdi i u hu) (fun _ _ h => h)
  obtain ⟨vs, hRf, q1'⟩ := hRf (compsA_ok q1 hcomps hvs)
  have hle1 : vs.length ≤ fn.ntmps := by have := q1'.length; have := (compsA_ok q1 hcomps hvs).length; omega
  have hy := hy vs hRf
  have h0 : Rel w ⟨(· ∈ ownB (flatC S.ps) cells), (outsC S.ps).length, hd⟩ X hd ⟨fn.ntmps, lookA (slots 0 vs), look heap⟩ { tmps := args.toArray ++ Array.replicate (fn.ntmps - args.toArray.size) undef, defers := [] } w := by
   have hal := q1'.length
   refine ⟨?_, rfl, ?_, fun b blk hb => (q2 b blk hb).2.2, ?_, Frame0.refl _ _, fun r hr => .inl (hheldB r hr), ?_, ?_⟩
   ·simp; omega
   ·intro t
    show Rt _ (lookA (slots 0 vs) t) _
    rw [slots_look, if_pos (Nat.zero_le t), Nat.sub_zero]
    by_cases hlt : t < vs.length
    ·obtain ⟨u, hu, hr⟩ := q1'.get (i := t) (List.getElem?_eq_getElem hlt)
     have e1 : vs.getD t .undef = vs[t] := by simp [List.getD_eq_getElem?_getD, hlt]
     have e2 : (args.toArray ++ Array.replicate (fn.ntmps - args.toArray.size) undef).getD t undef = u := by
      have hlt' : t < args.length := by omega
      rw [Array.getD_eq_getD_getElem?, Array.getElem?_append_left (by simpa using hlt')]
      simp [hu]
     show Rt _ _ ((args.toArray ++ Array.replicate (fn.ntmps - args.toArray.size) undef).getD t undef)
     rw [e1, e2]
     exact Rt.ofa hr
    ·have e1 : vs.getD t .undef = .undef := by rw [List.getD_eq_getElem?_getD, List.getElem?_eq_none (by omega)]; rfl
     rw [e1]; trivial
   ·intro b b' blk blk' r hb1 hb2 hr1 hr2
    have hlt1 : b < (ownV (flatC S.ps) cells).length := by rw [hlen]; exact held b blk hb1
    have hlt2 : b' < (ownV (flatC S.ps) cells).length := by rw [hlen]; exact held b' blk' hb2
    have e1 := hdi b _ (List.getElem?_eq_getElem hlt1)
    have e2 := hdi b' _ (List.getElem?_eq_getElem hlt2)
    exact ownV_inj hn (List.getElem?_eq_getElem hlt1) (List.getElem?_eq_getElem hlt2) (by rw [← e1]; exact hr1) (by rw [← e2]; exact hr2)
   ·intro i hi
    refine ⟨rfl, ?_⟩
    have := q3 i (by rw [← outs_count]; exact hi)
    rwa [Nat.zero_add] at this
   ·intro r hr
    exact ⟨(hX r hr).1, fun hh => (hX r hr).2 (hheldB r hh)⟩
  refine calls_of_wp hf hc ?_
  refine code_ok (by show (outsC S.ps).length ≤ _; omega) ht ⟨hgl, hoc⟩ hmix c 0 h0 ?_ hy
  intro e st hd' a w' h hr
  have key : ∀ fnl, (match resultsA E st fn.results.toList with
    | none => none
    | some vs => match flatA S.rs vs with
     | none => none
     | some cs => match sepK st (flatC S.rs ++ outsC S.ps) (cs ++ ownCells (flatC S.ps) (ownAV 0 (flatC S.ps))) with
      | some _ => readL st (flatC S.rs ++ outsC S.ps) (cs ++ ownCells (flatC S.ps) (ownAV 0 (flatC S.ps)))
      | none => none) = some y → (fnl = Exit.normal ∨ fnl = Exit.ret) → bodyPost P fn (fun e w' => ∃ v vs rcells, e = .returned v ∧ Gives v vs ∧ CompsV S.rs vs rcells ∧ Frame0 w w' (· ∈ ownB (flatC S.ps) cells) ∧
   PL w' (fun r => X r ∨ r ∈ ownB (flatC S.ps) cells ∨ r ∈ ownB (flatC S.rs) rcells) (flatC S.rs ++ outsC S.ps) y (rcells ++ ownV (flatC S.ps) cells) ∧
   (ownB (flatC S.rs) rcells).Nodup ∧ ∀ r ∈ ownB (flatC S.rs) rcells, w.heap.size ≤ r) fnl a w' := by
   intro fnl hr hfnl
   split at hr
   ·cases hr
   ·rename_i vs1 hvs1
    split at hr
    ·cases hr
    ·rename_i cs hcs
     split at hr
     ·rename_i rch hsep
      obtain ⟨us, hus, hra⟩ := resultsA_ok ht h hvs1
      obtain ⟨v, hv, hg⟩ := results_run hus
      obtain ⟨vcells, hcv, hcr⟩ := flatA_ok hra hcs
      have hown : All2 (R1 (st.cx X hd' w')) (ownCells (flatC S.ps) (ownAV 0 (flatC S.ps))) (ownV (flatC S.ps) cells) := by
       refine ownAV_vals ?_ hcl
       intro j d u hdj hu
       rw [Nat.zero_add]
       have hj : j < (outsC S.ps).length := (List.getElem?_eq_some_iff.1 hdj).1
       obtain ⟨p1, blk, p2⟩ := h.pins j hj
       have p1 : hd' j = u := p1.trans (hdi j u hu)
       have hn0 : (ownCells (flatC S.ps) (ownAV 0 (flatC S.ps)))[j]? = some (nameAV d j) := by have := ownAV_get (i := 0) hdj; rwa [Nat.zero_add] at this
       have hisown : d.isOwn = true := (List.mem_filter.1 (List.mem_of_getElem? hdj)).2
       have hlen2 : cs.length = (flatC S.rs).length := (hcr.length).trans hcv.length
       have hz : (d, nameAV d j) ∈ (flatC S.rs ++ outsC S.ps).zip (cs ++ ownCells (flatC S.ps) (ownAV 0 (flatC S.ps))) := by
        rw [List.zip_append hlen2.symm]
        refine List.mem_append_right _ ?_
        exact List.mem_of_getElem? (i := j) (by rw [List.getElem?_zip_eq_some]; exact ⟨hdj, hn0⟩)
       obtain ⟨_, blk', q1, q2⟩ := own_at (d := d) hr hz hisown (c := j) (by cases d <;> first | rfl | cases hisown)
       rw [p2] at q1
       cases q1
       have hrb := h.blocks j blk p2
       cases d with
       | dat t => cases hisown
       | own e t =>
        obtain ⟨l, rfl⟩ := q2
        obtain ⟨xs, ho, _⟩ := hrb
        exact ⟨p1.symm, by rw [← p1]; exact owns_one ho, _, e, t, _, p2, rfl⟩
       | cel t =>
        obtain ⟨cs', rfl, hl', hpos⟩ := q2
        obtain ⟨r, vs', e, hh, _, _⟩ := hrb
        exact ⟨_, _, r, p2, rfl, by rw [hl']; exact hpos, hh, p1.symm.trans hh⟩
      have ha := hcr.append hown
      obtain ⟨s1, s2, s3, s4⟩ := sepK_ok hsep
      have hin := ownB_in h ha hr
      have hnd := ownB_nodup h ha hr s3
      have eB : ownB (flatC S.rs ++ outsC S.ps) (vcells ++ ownV (flatC S.ps) cells) = ownB (flatC S.rs) vcells ++ ownB (flatC S.ps) cells := by
       rw [ownB_append hcv.length]
       congr 1
       exact ownB_outs
      rw [eB] at hin hnd
      have hclear : Clear st X hd' w' (fun r => X r ∨ r ∈ ownB (flatC S.ps) cells ∨ r ∈ ownB (flatC S.rs) vcells) (fun b => b ∈ rch ∧ ∃ blk, st.find b = some blk) := by
       have hmem : ∀ q, (q ∈ ownB (flatC S.ps) cells ∨ q ∈ ownB (flatC S.rs) vcells) → q ∈ ownB (flatC S.rs) vcells ++ ownB (flatC S.ps) cells := fun q hq => List.mem_append.2 hq.symm
       refine ⟨?_, ?_, ?_⟩
       ·rintro q (hq | hq)
        ·exact .inl hq
        ·obtain ⟨b, _, ⟨blk, hf, hlv⟩, hb⟩ := hin q (hmem q hq)
         exact .inr ⟨b, _, hf, hlv, hb⟩
       ·rintro b q ⟨hb, blk, hf⟩ hq (hx' | hx')
        ·exact (h.xfar q hx').2 ⟨b, blk, hf, hq⟩
        ·obtain ⟨b', hb', ⟨blk', hf', _⟩, hq'⟩ := hin q (hmem q hx')
         have := h.inj b b' _ _ q hf hf' hq hq'
         subst this
         exact s4 b hb hb'
       ·rintro b cs ⟨hb, _⟩ hf c hc
        refine ⟨s2 b hb c (by rw [hf]; exact hc), ?_⟩
        obtain ⟨r', vs', e', _, _, hcs⟩ := h.blocks b _ hf
        exact namesL1 hcs c hc
      have hpl := readL_ok h hclear ha (fun b hb => ⟨s1 b hb, datNames_found ha b hb⟩) hr
      rw [List.nodup_append] at hnd
      have hR : ∃ v' vs rcells, Ending.returned v = .returned v' ∧ Gives v' vs ∧ CompsV S.rs vs rcells ∧ Frame0 w w' (· ∈ ownB (flatC S.ps) cells) ∧
        PL w' (fun r => X r ∨ r ∈ ownB (flatC S.ps) cells ∨ r ∈ ownB (flatC S.rs) rcells) (flatC S.rs ++ outsC S.ps) y (rcells ++ ownV (flatC S.ps) cells) ∧
        (ownB (flatC S.rs) rcells).Nodup ∧ ∀ r ∈ ownB (flatC S.rs) rcells, w.heap.size ≤ r := by
       refine ⟨v, us, vcells, rfl, hg, hcv, h.frame, hpl, hnd.1, ?_⟩
       intro r hr'
       obtain ⟨b, _, ⟨blk, hf, hlv⟩, hb⟩ := hin r (List.mem_append_left _ hr')
       rcases h.mine r ⟨b, _, hf, hb⟩ with hm | hm
       ·exact absurd rfl (hnd.2.2 r hr' r hm)
       ·exact hm
      rcases hfnl with rfl | rfl <;> exact ⟨h.defers, v, hv, hR⟩
     ·cases hr
  cases e with
  | exit id => cases hr
  | normal => exact key .normal hr (.inl rfl)
  | ret => exact key .ret hr (.inr rfl)
theorem meets_of {f : FuncId} {fn : Func} {S : Does} (hf : P.funcs[f]? = some fn) (hname : (fn.name == "runtime.NumGoroutine") = false) (ht : TbOK P E.tb) (hoc : OrcOK P E.orc) (hmix : P.follows .mixedOrders = true)
  (hS : ∀ x y, S.fn x = some y → funK E S fn x = some y) (hb : fn.body.isSome = true) : Meets P f S := by
 refine meets_ofR (Rf := Eq) (fun h => ⟨_, rfl, h⟩) hf hname ht hoc hmix ?_ hb
 intro x y hy
 have hy := hS x y hy
 unfold funK at hy
 split at hy
 ·cases hy
 ·rename_i c hc
  split at hy
  ·cases hy
  ·rename_i cellsa heap hpar
   split at hy
   ·cases hy
   ·rename_i vs hvs
    split at hy
    ·rename_i hle
     rw [Bool.and_eq_true] at hle
     refine ⟨c, cellsa, heap, vs, hc, hpar, hvs, Nat.le_of_ble_eq_true hle.1, Nat.eq_of_beq_eq_true hle.2, ?_⟩
     rintro vs' rfl
     exact hy
    ·cases hy
def Nils1 (v v' : AV) : Prop := (v' = v ∧ ∀ t, v ≠ .dat (.list t) []) ∨ ∃ t, v = .dat (.list t) [] ∧ (v' = .nil ∨ v' = .dne t)
def Nils (vs vs' : List AV) : Prop := All2 Nils1 vs vs'
theorem nils1_ok {cx : Cx} {v : AV} {u : Value} (h : Ra cx v u) : ∃ v', Nils1 v v' ∧ Ra cx v' u := by
 by_cases hv : ∃ t, v = .dat (.list t) []
 ·obtain ⟨t, rfl⟩ := hv
  obtain ⟨A, cap, e, hc, hn, _⟩ := (show Rc cx.w cx.N (.list t) [] [u] from h)
  have e : u = .slice A 0 cap := by simpa using e
  cases A with
  | none =>
   have := hn rfl
   subst this
   exact ⟨.nil, .inr ⟨t, rfl, .inl rfl⟩, e⟩
  | some ad => exact ⟨.dne t, .inr ⟨t, rfl, .inr rfl⟩, ⟨ad, cap, e⟩⟩
 ·exact ⟨v, .inl ⟨rfl, fun t e => hv ⟨t, e⟩⟩, h⟩
theorem nilsR_ok {cx : Cx} : ∀ {vs : List AV} {us : List Value}, All2 (Ra cx) vs us → ∃ vs', Nils vs vs' ∧ All2 (Ra cx) vs' us
 | [], [], _ => ⟨[], trivial, trivial⟩
 | [], _ :: _, h => h.elim
 | _ :: _, [], h => h.elim
 | v :: vs, u :: us, h => by
  obtain ⟨v', h1, h2⟩ := nils1_ok h.1
  obtain ⟨vs', h3, h4⟩ := nilsR_ok h.2
  exact ⟨v' :: vs', ⟨h1, h3⟩, ⟨h2, h4⟩⟩
theorem dat_nil {t t' : Ty} {l : List t.den} (e : AV.dat (.list t) l = AV.dat (.list t') []) : t' = t ∧ l = [] := by
 injection e with e1 e2
 injection e1 with e1
 subst e1
 exact ⟨rfl, eq_of_heq e2⟩
theorem meets_nil {f : FuncId} {fn : Func} {t : Ty} {rs : List (Bool × List D1)} {F : List t.den → Option (dens (flatC rs ++ []))} {c : Code} (hf : P.funcs[f]? = some fn) (hname : (fn.name == "runtime.NumGoroutine") = false) (ht : TbOK P E.tb) (hoc : OrcOK P E.orc) (hmix : P.follows .mixedOrders = true)
  (hc : fn.body = some c) (hnt : Nat.ble 1 fn.ntmps = true) (hpin : E.pin = 0)
  (h1 : ∀ l : List t.den, List.length l ≠ 0 → codeK E c 0 ⟨fn.ntmps, lookA [(0, .dat (.list t) l)], look []⟩ (finalK E ⟨[(false, [.dat (.list t)])], rs, F⟩ fn [.undef]) = F l)
  (h2 : codeK E c 0 ⟨fn.ntmps, lookA [(0, .nil)], look []⟩ (finalK E ⟨[(false, [.dat (.list t)])], rs, F⟩ fn [.undef]) = F [])
  (h3 : codeK E c 0 ⟨fn.ntmps, lookA [(0, .dne t)], look []⟩ (finalK E ⟨[(false, [.dat (.list t)])], rs, F⟩ fn [.undef]) = F []) :
  Meets P f ⟨[(false, [.dat (.list t)])], rs, F⟩ := by
 refine meets_ofR (Rf := Nils) nilsR_ok hf hname ht hoc hmix ?_ (by rw [hc]; rfl)
 intro l y hy
 have hy : F l = some y := hy
 refine ⟨c, [.dat (.list t) l], [], [.dat (.list t) l], hc, rfl, rfl, Nat.le_of_ble_eq_true hnt, hpin, ?_⟩
 intro vs' hv
 match vs', hv with
 | [v'], hv =>
  rcases hv.1 with ⟨rfl, hne⟩ | ⟨t', e, hv'⟩
  ·have hl : List.length l ≠ 0 := by
    intro h0
    have : l = [] := List.eq_nil_of_length_eq_zero h0
    subst this
    exact hne t rfl
   exact (h1 l hl).trans hy
  ·have hh : t' = t ∧ l = [] := dat_nil e
   obtain ⟨rfl, e⟩ := hh
   subst e
   rcases hv' with rfl | rfl
   ·exact h2.trans hy
   ·exact h3.trans hy
end
end Go.V
end
section
namespace Go.V
open Go Go.RowKit
def rd (l : List Int) (i : Int) : Int := l.getD i.toNat 0
def rdOf {α : Type} (d : α) (l : List α) (i : Int) : α := l.getD i.toNat d
def mgI {α : Type} (l : List (Int × α)) (i : Int) : Option α := mget (.int .i64) l i
def mgS {α : Type} (l : List (ByteArray × α)) (i : ByteArray) : Option α := mget .str l i
def mpI {α : Type} (l : List (Int × α)) (i : Int) (x : α) : List (Int × α) := mput (.int .i64) l i x
def mpS {α : Type} (l : List (ByteArray × α)) (i : ByteArray) (x : α) : List (ByteArray × α) := mput .str l i x
def orcOf : List (Nat × Does) → FuncId → List Does
 | [], _ => []
 | (f, S) :: l, g => match Nat.beq g f with
  | true => S :: orcOf l g
  | false => orcOf l g
def lvOf : List (Nat × List (Nat × List LvK)) → Nat → List (Nat × List LvK)
 | [], _ => []
 | (c, l) :: m, d => match Nat.beq d c with
  | true => l
  | false => lvOf m d
theorem orc_nil {P : Program} : OrcOK P (orcOf []) := fun _ _ h => by cases h
theorem orc_cons {P : Program} {f : FuncId} {S : Does} {l : List (Nat × Does)} (h : Meets P f S) (hl : OrcOK P (orcOf l)) : OrcOK P (orcOf ((f, S) :: l)) := by
 intro g S' hm
 unfold orcOf at hm
 split at hm
 ·rename_i e
  have e := Nat.eq_of_beq_eq_true e
  subst e
  rcases List.mem_cons.1 hm with rfl | hm
  ·exact h
  ·exact hl _ _ hm
 ·exact hl _ _ hm
theorem tb_of {P : Program} : ∀ {l : List (Nat × TI)}, l.map (fun p => entryOf P p.1) = l.map (fun p => some p.2) → TbOK P (look l)
 | [], _, t, i, h => by cases h
 | (k, v) :: l, h, t, i, hi => by
  simp only [List.map_cons, List.cons.injEq] at h
  rw [look_cons] at hi
  split at hi
  ·rename_i e
   cases hi
   rw [e]
   exact h.1
  ·exact tb_of h.2 t i hi
def convH (e : TypeId) (t : Ty) : (es : List D1) → dens (.own e t :: es) → dens (.dat (.list t) :: es)
 | [], x => x
 | _ :: _, x => x
theorem PL.head {w : World} {N N' : Nat → Prop} (hn : ∀ r, N' r → N r) {e : TypeId} {t : Ty} : ∀ {es : List D1} {x : dens (.own e t :: es)} {v : Value} {vs : List Value}, PL w N (.own e t :: es) x (v :: vs) → (∀ r, blockOf v = some r → ¬ N' r) → PL w N' (.dat (.list t) :: es) (convH e t es x) (v :: vs)
 | [], x, v, vs, h, hv => by
  obtain ⟨v', e', xs, ho, hE⟩ := h
  cases e'
  exact ⟨v, rfl, row_Rc ho hE hn hv⟩
 | d :: es, x, v, vs, h, hv => by
  obtain ⟨v', us, e', ⟨xs, ho, hE⟩, h2⟩ := h
  cases e'
  exact ⟨v, vs, rfl, row_Rc ho hE hn hv, h2.weaken hn⟩
theorem meets_dat {P : Program} {f : FuncId} {ps rs : List (Bool × List D1)} {e : TypeId} {t : Ty} {F : dens (flatC ps) → Option (dens (flatC ((false, [.own e t]) :: rs) ++ outsC ps))} {F' : dens (flatC ps) → Option (dens (flatC ((false, [.dat (.list t)]) :: rs) ++ outsC ps))}
  (h : Meets P f ⟨ps, (false, [.own e t]) :: rs, F⟩) (hF : ∀ x y, F' x = some y → ∃ z : dens (.own e t :: (flatC rs ++ outsC ps)), F x = some z ∧ y = convH e t _ z) : Meets P f ⟨ps, (false, [.dat (.list t)]) :: rs, F'⟩ := by
 refine ⟨h.enters, ?_⟩
 intro w X args cells x y hc hX hp hn hgl hy
 obtain ⟨z, hz, rfl⟩ := hF x y hy
 refine (h.calls w X args cells x z hc hX hp hn hgl hz).mono ?_
 rintro e' w' ⟨v, vs, rcells, he, hg, hcv, hfr, hpl, hnd, hnew⟩
 obtain ⟨u, vs', cs', h1, rfl, h2, rfl, h3⟩ := hcv
 have hlt := callK_ok.ownB_lt hp
 refine ⟨v, u :: vs', u :: cs', he, hg, ⟨u, vs', cs', h1, rfl, h2, rfl, h3⟩, hfr, ?_, ?_, ?_⟩
 ·have hsub : ∀ r, r ∈ ownB (flatC rs) cs' → r ∈ ownB (.own e t :: flatC rs) (u :: cs') := by
   intro r hr
   unfold ownB
   split
   ·exact List.mem_cons_of_mem _ hr
   ·exact hr
  refine PL.head (N := fun r => X r ∨ r ∈ ownB (flatC ps) cells ∨ r ∈ ownB (.own e t :: flatC rs) (u :: cs')) ?_ hpl ?_
  ·rintro r (hr | hr | hr)
   ·exact .inl hr
   ·exact .inr (.inl hr)
   ·exact .inr (.inr (hsub r hr))
  ·intro r hr hN
   have hmem : r ∈ ownB (.own e t :: flatC rs) (u :: cs') := by unfold ownB; rw [hr]; simp
   have hge := hnew r hmem
   rcases hN with hq | hq | hq
   ·have := (hX r hq).1; omega
   ·have := hlt r hq; omega
   ·have hnd' : (ownB (.own e t :: flatC rs) (u :: cs')).Nodup := hnd
    unfold ownB at hnd'
    rw [hr] at hnd'
    exact (List.nodup_cons.1 hnd').1 hq
 ·have hnd' : (ownB (.own e t :: flatC rs) (u :: cs')).Nodup := hnd
  unfold ownB at hnd'
  split at hnd'
  ·exact (List.nodup_cons.1 hnd').2
  ·exact hnd'
 ·intro r hr
  refine hnew r ?_
  show r ∈ ownB (.own e t :: flatC rs) (u :: cs')
  unfold ownB
  split
  ·exact List.mem_cons_of_mem _ hr
  ·exact hr
end Go.V
end
section
namespace Go.V
open Go Go.RowKit Go.ChangeShapes Go.WideShapes
set_option linter.unusedVariables false
set_option linter.unusedSimpArgs false
def flatD : Ty → List D1
 | .unit => []
 | .pair a b => flatD a ++ flatD b
 | .struct t => flatD t
 | t => [.dat t]
def joinD : (ds es : List D1) → dens ds → dens es → dens (ds ++ es)
 | [], _, _, y => y
 | [_], [], x, _ => x
 | [_], _ :: _, x, y => (x, y)
 | _ :: d' :: ds, es, x, y => (x.1, joinD (d' :: ds) es x.2 y)
def flatX : (t : Ty) → t.den → dens (flatD t)
 | .unit, _ => ()
 | .pair a b, x => joinD (flatD a) (flatD b) (flatX a x.1) (flatX b x.2)
 | .struct t, x => flatX t x
 | .int _, x => x
 | .bool, x => x
 | .str, x => x
 | .list _, x => x
 | .ptr _, x => x
 | .clo _ _, x => x
 | .map _ _, x => x
 | .optr _, x => x
def Bnd : (t : Ty) → t.den → Prop
 | .int k, n => (Lit.int k n).wf = true
 | .str, s => ByteArray.size s ≤ maxLen
 | .list t, l => List.length l ≤ maxLen ∧ ∀ a : t.den, List.Mem a l → Bnd t a
 | .pair a b, x => Bnd a x.1 ∧ Bnd b x.2
 | .struct t, x => Bnd t x
 | _, _ => True
def Bnd1 : (d : D1) → d.den → Prop
 | .dat t, x => Bnd t x
 | _, _ => True
def BL : (ds : List D1) → dens ds → Prop
 | [], _ => True
 | [d], x => Bnd1 d x
 | d :: d' :: ds, x => Bnd1 d x.1 ∧ BL (d' :: ds) x.2
section
variable {w : World} {N : Nat → Prop}
theorem PL.join : ∀ {ds es : List D1} {x : dens ds} {y : dens es} {vs us : List Value}, PL w N ds x vs → PL w N es y us → PL w N (ds ++ es) (joinD ds es x y) (vs ++ us)
 | [], es, x, y, vs, us, h, k => by
  have : vs = [] := h
  subst this
  exact k
 | [d], [], x, y, vs, us, h, k => by
  have : us = [] := k
  subst this
  obtain ⟨v, rfl, h⟩ := h
  exact ⟨v, rfl, h⟩
 | [d], e :: es, x, y, vs, us, h, k => by
  obtain ⟨v, rfl, h⟩ := h
  exact ⟨v, us, rfl, h, k⟩
 | d :: d' :: ds, es, x, y, vs, us, h, k => by
  obtain ⟨v, vs', rfl, h, h'⟩ := h
  exact ⟨v, vs' ++ us, rfl, h, PL.join (ds := d' :: ds) h' k⟩
theorem BL.join : ∀ {ds es : List D1} {x : dens ds} {y : dens es}, BL ds x → BL es y → BL (ds ++ es) (joinD ds es x y)
 | [], es, x, y, h, k => k
 | [d], [], x, y, h, k => h
 | [d], e :: es, x, y, h, k => ⟨h, k⟩
 | d :: d' :: ds, es, x, y, h, k => ⟨h.1, BL.join (ds := d' :: ds) h.2 k⟩
theorem flat_PL : ∀ {t : Ty} {x : t.den} {cs : List Value}, Rc w N t x cs → PL w N (flatD t) (flatX t x) cs
 | .unit, _, _, h => h
 | .pair a b, x, _, ⟨c, d, e, h, k⟩ => by rw [e]; exact (flat_PL h).join (flat_PL k)
 | .struct t, x, _, h => flat_PL (t := t) h
 | .int k, x, cs, h => by cases h; exact ⟨_, rfl, (rfl : [_] = [_])⟩
 | .bool, x, cs, h => by cases h; exact ⟨_, rfl, (rfl : [_] = [_])⟩
 | .str, x, cs, h => by cases h; exact ⟨_, rfl, (rfl : [_] = [_])⟩
 | .list t, x, cs, h => by
  have h' := h
  obtain ⟨A, cap, e, _⟩ := h'
  subst e
  exact ⟨_, rfl, h⟩
 | .ptr t, x, cs, h => by
  have h' := h
  obtain ⟨A, e, _⟩ := h'
  subst e
  exact ⟨_, rfl, h⟩
 | .clo f t, x, cs, h => by
  have h' := h
  obtain ⟨v, e, _⟩ := h'
  subst e
  exact ⟨_, rfl, h⟩
 | .map a b, x, cs, h => by
  have h' := h
  obtain ⟨r, es, c, e, _⟩ := h'
  subst e
  exact ⟨_, rfl, h⟩
 | .optr t, none, cs, h => by
  have h' : cs = [.pointer none] := h
  subst h'
  exact ⟨_, rfl, h⟩
 | .optr t, some y, cs, h => by
  have h' := h
  obtain ⟨a, e, _⟩ := h'
  subst e
  exact ⟨_, rfl, h⟩
theorem flat_BL : ∀ {t : Ty} {x : t.den}, Bnd t x → BL (flatD t) (flatX t x)
 | .unit, _, h => trivial
 | .pair a b, x, h => (flat_BL h.1).join (flat_BL h.2)
 | .struct t, x, h => flat_BL (t := t) h
 | .int k, x, h => h
 | .bool, x, h => h
 | .str, x, h => h
 | .list t, x, h => h
 | .ptr t, x, h => h
 | .clo f t, x, h => h
 | .map a b, x, h => h
 | .optr t, x, h => h
end
def rdParts (tb : TypeId → Option TI) (rec : TypeId → Option Ty) : List (Nat × TypeId) → Nat → Option Ty
 | [], _ => some .unit
 | (o, t) :: l, off => match rec t, tb t with
  | some s, some j => match Nat.beq o off, Nat.beq j.size s.size with
   | true, true => match rdParts tb rec l (off + s.size) with
    | some r => some (.pair s r)
    | none => none
   | _, _ => none
  | _, _ => none
def rdTy (tb : TypeId → Option TI) : Nat → TypeId → Option Ty
 | 0, _ => none
 | n + 1, t => match tb t with
  | some i => match i.tk with
   | .int k => some (.int k)
   | .bool => some .bool
   | .str => some .str
   | .slice e => match rdTy tb n e, tb e with
    | some s, some j => match Nat.beq j.size s.size with
     | true => some (.list s)
     | false => none
    | _, _ => none
   | .struct _ fs => match rdParts tb (rdTy tb n) fs 0 with
    | some s => match Nat.beq i.size s.size with
     | true => some (.struct s)
     | false => none
    | none => none
   | _ => none
  | none => none
section
variable {H : Type} {enc : TypeId × Value → H} {P : Program} {tb : TypeId → Option TI} {w : World} {base : Nat} {spare : Nat → Bool} {held : Bool}
theorem cellsOf_entry {t : TypeId} {i : TI} (en : Entry P t i) : P.cellsOf t = i.size := by
 simp [Program.cellsOf, en.hi, en.hsize]
theorem parts_Rc {rec : TypeId → Option Ty} {tbok : TbOK P tb} {fuel : Nat} (ih : ∀ {t : TypeId} {ty : Ty} {cs : List Value} {y : DataW H × List MemPlace}, rec t = some ty → DataW.trod enc P w base spare held fuel t cs = some y → ∃ x : ty.den, Rc w (fun _ => False) ty x cs ∧ Bnd ty x) :
  ∀ {fs : List (Nat × TypeId)} {off : Nat} {ty : Ty} {cs : List Value}, rdParts tb rec fs off = some ty → (∀ p ∈ fs, ∃ y, DataW.trod enc P w base spare held fuel p.2 ((cs.drop p.1).take (P.cellsOf p.2)) = some y) → cs.length = off + ty.size →
   ∃ x : ty.den, Rc w (fun _ => False) ty x (cs.drop off) ∧ Bnd ty x
 | [], off, ty, cs, h, _, hl => by
  cases h
  refine ⟨(), ?_, trivial⟩
  show cs.drop off = []
  exact List.drop_eq_nil_of_le (by simp only [Ty.size] at hl; omega)
 | (o, t) :: l, off, ty, cs, h, hr, hl => by
  unfold rdParts at h
  split at h
  ·rename_i s j hs hj
   split at h
   ·rename_i e1 e2
    have e1 := Nat.eq_of_beq_eq_true e1
    have e2 := Nat.eq_of_beq_eq_true e2
    subst e1
    obtain ⟨en⟩ := tbok.entry hj
    split at h
    ·rename_i r hr'
     cases h
     simp only [Ty.size] at hl
     obtain ⟨y, hy⟩ := hr (o, t) (by simp)
     simp only [cellsOf_entry en, e2] at hy
     obtain ⟨x1, h1, b1⟩ := ih hs hy
     obtain ⟨x2, h2, b2⟩ := parts_Rc (tbok := tbok) ih hr' (fun p hp => hr p (by simp [hp])) (by omega)
     refine ⟨(x1, x2), ⟨_, _, ?_, h1, h2⟩, b1, b2⟩
     rw [← List.drop_drop]
     exact (List.take_append_drop _ _).symm
    ·cases h
   ·cases h
  ·cases h
theorem trod_Rc (tbok : TbOK P tb) : ∀ (n : Nat) {t : TypeId} {ty : Ty} {fuel : Nat} {cs : List Value} {y : DataW H × List MemPlace}, rdTy tb n t = some ty → DataW.trod enc P w base spare held fuel t cs = some y → ∃ x : ty.den, Rc w (fun _ => False) ty x cs ∧ Bnd ty x
 | 0, t, ty, fuel, cs, y, h, _ => by cases h
 | n + 1, t, ty, fuel, cs, y, h, hd => by
  unfold rdTy at h
  split at h
  ·rename_i i hi
   obtain ⟨en⟩ := tbok.entry hi
   split at h
   ·rename_i k hk
    cases h
    obtain ⟨m, rfl, _, hw⟩ := DataW.trod_int (int_of en hk) hd
    exact ⟨m, (rfl : [_] = [_]), hw⟩
   ·rename_i hk
    cases h
    have hu : P.underlying t = some .bool := by
     have hu := en.hu
     have ht := en.htk
     generalize en.d = d at hu ht
     rw [hk] at ht
     cases d <;> simp [tkOf] at ht
     rw [hu]
    obtain ⟨b, rfl, _⟩ := DataW.trod_bool hu hd
    exact ⟨b, (rfl : [_] = [_]), trivial⟩
   ·rename_i hk
    cases h
    obtain ⟨s, rfl, _, hs⟩ := DataW.trod_string (str_of en hk) hd
    exact ⟨s, (rfl : [_] = [_]), hs⟩
   ·rename_i e hk
    split at h
    ·rename_i s j hs hj
     split at h
     ·rename_i hsz
      have hsz := Nat.eq_of_beq_eq_true hsz
      cases h
      obtain ⟨en'⟩ := tbok.entry hj
      rcases DataW.trod_slice (slice_of en hk) hd with ⟨rfl, _⟩ | ⟨a, len, cap, elems, rest, m, _, rfl, _, _, hlc, hcm, hlen, hel, _, _⟩
      ·exact ⟨[], ⟨none, 0, rfl, Nat.le_refl _, fun _ => rfl, fun i hi => absurd hi (Nat.not_lt_zero _)⟩, Nat.zero_le _, fun a ha => by cases ha⟩
      ·have key : ∀ i : Fin len, ∃ x : s.den, (∃ c, c.length = s.size ∧ At w (fun _ => False) (a.add (i.1 * s.size)) c ∧ Rc w (fun _ => False) s x c) ∧ Bnd s x := by
        intro ⟨i, hi⟩
        have h1 := hel i hi
        have h2 : elems[i]? = some elems[i] := List.getElem?_eq_getElem (by omega)
        rw [h2] at h1
        obtain ⟨c, hc, h3⟩ := Option.bind_eq_some_iff.1 h1
        obtain ⟨_, hcl, hcc⟩ := World.cells?_some hc
        obtain ⟨x, hx, hb⟩ := trod_Rc tbok n hs h3
        rw [cellsOf_entry en', hsz] at hcl hcc
        rw [cellsOf_entry en', hsz] at hc
        refine ⟨x, ⟨c, hcl, ?_, hx⟩, hb⟩
        intro q hq
        refine ⟨fun h => h, ?_⟩
        rw [hcc q (by omega), List.getElem?_eq_getElem hq]
       refine ⟨List.ofFn fun i => Classical.choose (key i), ?_, ?_, ?_⟩
       ·refine ⟨some a, cap, by simp, by simpa using hlc, fun h => (Option.some_ne_none _ h).elim, fun i hi => ?_⟩
        have hi' : i < len := by simpa using hi
        obtain ⟨⟨c, h1, h2, h3⟩, _⟩ := Classical.choose_spec (key ⟨i, hi'⟩)
        refine ⟨a, rfl, c, h1, h2, ?_⟩
        simpa using h3
       ·show (List.ofFn _).length ≤ _
        simp; omega
       ·intro z hz
        obtain ⟨i, rfl⟩ := List.mem_ofFn.1 hz
        exact (Classical.choose_spec (key i)).2
     ·cases h
    ·cases h
   ·rename_i fs hk
    split at h
    ·rename_i s hs
     split at h
     ·rename_i hsz
      have hsz := Nat.eq_of_beq_eq_true hsz
      cases h
      obtain ⟨F, hu, rfl⟩ := struct_of en hk
      obtain ⟨xs, m, rfl, _, hl, hlen, hf⟩ := DataW.trod_struct hu hd
      rw [cellsOf_entry en, hsz] at hl
      have := parts_Rc (enc := enc) (w := w) (base := base) (spare := spare) (held := held) (tbok := tbok) (fuel := m) (fun h1 h2 => trod_Rc tbok n h1 h2) hs (cs := cs) (fun p hp => by
       obtain ⟨f, hfm, rfl⟩ := List.mem_map.1 hp
       obtain ⟨i, hi, rfl⟩ := List.mem_iff_getElem.1 hfm
       have hi' : i < F.size := by simpa using hi
       refine ⟨xs[i]'(by omega), ?_⟩
       have := hf i F.toList[i] (by simp [hi'])
       rw [this, List.getElem?_eq_getElem (by omega)]) (by omega)
      rw [List.drop_zero] at this
      exact this
     ·cases h
    ·cases h
   ·cases h
  ·cases h
def isStructTK : TK → Bool
 | .struct .. => true
 | _ => false
def psOf (tb : TypeId → Option TI) : List TypeId → Option (List (Bool × List D1))
 | [] => some []
 | t :: ts => match rdTy tb 8 t, tb t with
  | some ty, some i => match psOf tb ts with
   | some l => some ((isStructTK i.tk, flatD ty) :: l)
   | none => none
  | _, _ => none
theorem arg_one {r : Reach} {b0 : Nat} {t : TypeId} {i : TI} {ty : Ty} {v : Value} (en : Entry P t i) (hi : tb t = some i) (h : rdTy tb 8 t = some ty) (hs : isStructTK i.tk = false) (hv : Value.okWide P w r b0 t v) : v.oneCell' = true ∧ (flatD ty).length = 1 := by
 unfold rdTy at h
 rw [hi] at h
 simp only at h
 cases hk : i.tk with
 | int k =>
  rw [hk] at h; cases h
  obtain ⟨n, rfl⟩ := okWide_int (int_of en hk) hv
  exact ⟨rfl, rfl⟩
 | bool =>
  rw [hk] at h; cases h
  have hu : P.underlying t = some .bool := by
   have hu := en.hu
   have ht := en.htk
   generalize en.d = d at hu ht
   rw [hk] at ht
   cases d <;> simp [tkOf] at ht
   rw [hu]
  obtain ⟨n, rfl⟩ := okWide_bool hu hv
  exact ⟨rfl, rfl⟩
 | str =>
  rw [hk] at h; cases h
  obtain ⟨n, rfl⟩ := okWide_string (str_of en hk) hv
  exact ⟨rfl, rfl⟩
 | slice e =>
  rw [hk] at h
  simp only at h
  split at h
  ·split at h
   ·cases h
    obtain ⟨a, l, c, rfl⟩ := okWide_slice (slice_of en hk) hv
    exact ⟨rfl, rfl⟩
   ·cases h
  ·cases h
 | struct q fs => rw [hk] at hs; cases hs
 | _ => rw [hk] at h; cases h
theorem args_PL (tbok : TbOK P tb) : ∀ {ts : List TypeId} {ps : List (Bool × List D1)} {vs : List Value} {ds : List (DataW H)} {p : List MemPlace} {r : Reach} {b0 : Nat}, psOf tb ts = some ps → DataW.TrodAll enc P w base spare held ts vs ds p →
  (∀ (j : Nat) t v, ts[j]? = some t → vs[j]? = some v → Value.okWide P w r b0 t v) → ∃ (cells : List Value) (x : dens (flatC ps)), CompsV ps vs cells ∧ PL w (fun _ => False) (flatC ps) x cells ∧ BL (flatC ps) x
 | [], ps, vs, ds, p, r, b0, h, ha, _ => by
  cases h
  obtain ⟨rfl, _, _⟩ := trodAll_nil ha
  exact ⟨[], (), ⟨rfl, rfl⟩, rfl, trivial⟩
 | t :: ts, ps, vs, ds, p, r, b0, h, ha, hv => by
  unfold psOf at h
  split at h
  ·rename_i ty i hty hi
   split at h
   ·rename_i l hl
    cases h
    obtain ⟨en⟩ := tbok.entry hi
    obtain ⟨v, vs', d, ds', p', q, rfl, rfl, rfl, h1, h2⟩ := trodAll_cons ha
    obtain ⟨cells, x, c1, c2, c3⟩ := args_PL tbok hl h2 (fun j t' v' h1 h2 => hv (j + 1) t' v' (by simpa using h1) (by simpa using h2))
    obtain ⟨fuel, hd⟩ := h1
    obtain ⟨y, hy, hb⟩ := trod_Rc tbok 8 hty hd
    have hval := hv 0 t v rfl rfl
    refine ⟨v.cells.toList ++ cells, joinD (flatD ty) (flatC l) (flatX ty y) x, ?_, (flat_PL hy).join c2, (flat_BL hb).join c3⟩
    cases hs : isStructTK i.tk with
    | true =>
     have : ∃ q fs, i.tk = .struct q fs := by
      cases hk : i.tk <;> rw [hk] at hs <;> first | exact ⟨_, _, rfl⟩ | cases hs
     obtain ⟨q, fs, hk⟩ := this
     obtain ⟨F, hu, _⟩ := struct_of en hk
     obtain ⟨cs, rfl, _⟩ := okWide_struct hu hval
     exact ⟨cs.toList, vs', cells, by simp, by rw [← (flat_PL hy).length]; rfl, rfl, c1⟩
    | false =>
     obtain ⟨o1, o2⟩ := arg_one en hi hty hs hval
     have e : v.cells.toList = [v] := by rw [cells_one o1]
     rw [e]
     exact ⟨v, vs', cells, o2, rfl, o1, rfl, c1⟩
   ·cases h
  ·cases h
theorem ownB_none : ∀ {ds : List D1} {vs : List Value}, ds.filter (·.isOwn) = [] → ownB ds vs = []
 | [], vs, _ => by simp [ownB]
 | .dat t :: ds, [], _ => by simp [ownB]
 | .dat t :: ds, v :: vs, h => by
  rw [List.filter_cons_of_neg (by simp [D1.isOwn])] at h
  exact ownB_none (ds := ds) h
 | .own e t :: ds, _, h => by rw [List.filter_cons_of_pos (by simp [D1.isOwn])] at h; cases h
 | .cel t :: ds, _, h => by rw [List.filter_cons_of_pos (by simp [D1.isOwn])] at h; cases h
theorem law_calls (tbok : TbOK P tb) (hgl : Gl P w fun _ => False) {f : FuncId} {ts : List TypeId} {ps : List (Bool × List D1)} {F : Nat → dens (flatC ps) → Option (dens (flatC [(false, [D1.dat .bool])] ++ outsC ps))} (hps : psOf tb ts = some ps) (hout : outsC ps = [])
  (hm : ∀ k, Meets P f ⟨ps, [(false, [.dat .bool])], F k⟩) (hpure : ∀ x, BL (flatC ps) x → ∃ k y, F k x = some y ∧ (splitD [D1.dat .bool] (outsC ps) y).1 = true)
  {args : Array Value} {ds : List (DataW H)} {p : List MemPlace} {r : Reach} {b0 : Nat} (ha : DataW.TrodAll enc P w base spare held ts args.toList ds p) (hv : ∀ (j : Nat) t v, ts[j]? = some t → args[j]? = some v → Value.okWide P w r b0 t v) :
  Calls P f args w fun e w' => e = .returned (.bool true) ∧ Below w.heap.size w w' := by
 obtain ⟨cells, x, c1, c2, c3⟩ := args_PL tbok hps ha (fun j t v h1 h2 => hv j t v h1 (by simpa using h2))
 obtain ⟨k, y, hy, hb⟩ := hpure x c3
 have hown : ownB (flatC ps) cells = [] := ownB_none hout
 have := (hm k).calls w (fun _ => False) args.toList cells x y c1 (fun r h => h.elim) (c2.weaken fun r h => by
  rcases h with h | h
  ·exact h
  ·simp only [hown] at h; cases h) (by show (ownB (flatC ps) cells).Nodup; rw [hown]; exact List.nodup_nil) (fun g hg => by obtain ⟨_, h2, h3⟩ := hgl g hg; exact ⟨by show g ∉ ownB (flatC ps) cells; rw [hown]; simp, h2, h3⟩) hy
 rw [Array.toArray_toList] at this
 refine this.mono ?_
 rintro e w' ⟨v, vs, rcells, rfl, hg, hcv, hfr, hpl, _, _⟩
 obtain ⟨u, vs', cs', _, rfl, _, rfl, e1, e2⟩ := hcv
 subst e1; subst e2
 have hg : v = u := hg
 subst hg
 obtain ⟨h1, _⟩ := PL.split (ds := [D1.dat .bool]) (es := outsC ps) (vs := [v]) rfl hpl
 obtain ⟨v', e, h2⟩ := h1
 have h3 : [v'] = [Value.bool (splitD [D1.dat .bool] (outsC ps) y).1] := h2
 rw [hb] at h3
 refine ⟨?_, hfr.os, hfr.tape, hfr.output, hfr.size, fun k hk => hfr.block k hk (by show k ∉ ownB (flatC ps) cells; rw [hown]; simp)⟩
 have : v = v' := by simpa using e
 rw [this]
 congr 1
 simpa using h3
theorem args_stay (hl : laidOutB P = true) {w' : World} (hb : Below w.heap.size w w') : ∀ {ts : List TypeId} {vs : List Value} {ds : List (DataW H)} {p : List MemPlace}, ts.all (fun t => P.readableRec t && decide (t < P.types.size)) = true → DataW.TrodAll enc P w 0 (fun _ => true) true ts vs ds p →
  DataW.TrodAll enc P w' 0 (fun b => decide (b < w.heap.size)) true ts vs ds p
 | [], vs, ds, p, _, h => by
  obtain ⟨rfl, rfl, rfl⟩ := trodAll_nil h
  exact rfl
 | t :: ts, vs, ds, p, ht, h => by
  rw [List.all_cons, Bool.and_eq_true, Bool.and_eq_true] at ht
  obtain ⟨v, vs', d, ds', p', q, rfl, rfl, rfl, h1, h2⟩ := trodAll_cons h
  have lt : ∀ x ∈ p', x.block < w.heap.size := by obtain ⟨m, hm⟩ := h1; exact DataW.trod_lt m _ _ _ hm
  exact ⟨p', q, hb.trod hl ht.1.1 (of_decide_eq_true ht.1.2) h1 lt, args_stay hl hb ht.2 h2, rfl⟩
end
end Go.V
end
