/- Turns of rules and least towers, plainly: the law gives true. Conditions: as each theorem states. My own. -/
import Derived.Test.YtcbhhbkghbnljaaGreatDoorQa
set_option linter.unusedVariables false
set_option linter.unusedSimpArgs false
namespace Go.Proofs.YtcbhhbkghbnljaaGreatDoor.Vf
open Go Go.V Go.RowKit
theorem stepA_rd {c : Int} : ∀ {j : Int} {G S T : List Int} {t : Nat}, Stt G S → stepA c j G S = some T → t < G.length → rd T t = if j + t = c then rd G t else rd S t - 1
  | j, [], [], T, t, _, _, ht => by simp at ht
  | j, g :: G, s :: S, T, t, hs, h, ht => by
    have hr : ∀ (a : Int) (l : List Int) (i : Nat), rd (a :: l) ((i + 1 : Nat) : Int) = rd l (i : Int) := fun a l i => by rw [rd_nat, rd_nat]; rfl
    have h0 : ∀ (a : Int) (l : List Int), rd (a :: l) ((0 : Nat) : Int) = a := fun a l => rfl
    simp only [stepA] at h
    by_cases e : j = c
    · rw [if_pos e] at h
      obtain ⟨T', h1, rfl⟩ := Option.map_eq_some_iff.1 h
      cases t with
      | zero => rw [h0, h0, if_pos (by omega)]
      | succ t =>
        rw [hr, hr, hr, stepA_rd hs.2 h1 (by simpa using ht), if_neg (by omega), if_neg (by omega)]
    · rw [if_neg e] at h
      split at h
      · cases h
      · obtain ⟨T', h1, rfl⟩ := Option.map_eq_some_iff.1 h
        cases t with
        | zero => rw [h0, h0, h0, if_neg (by omega)]
        | succ t =>
          rw [hr, hr, hr, stepA_rd hs.2 h1 (by simpa using ht)]
          by_cases e2 : j + 1 + (t : Int) = c
          · rw [if_pos e2, if_pos (by omega)]
          · rw [if_neg e2, if_neg (by omega)]
  | j, [], _ :: _, _, _, h, _, _ => h.elim
  | j, _ :: _, [], _, _, h, _, _ => h.elim
def endR (G : List Int) : Int → List Int → Int
  | a, [] => a
  | a, c :: cs => endR G (tgt G a c) cs
def OKR (G : List Int) : Int → List Int → Prop
  | _, [] => True
  | a, c :: cs => c ∈ keep G (lasting G) a ∧ OKR G (tgt G a c) cs
theorem endR_app (G : List Int) : ∀ (xs ys : List Int) (a : Int), endR G a (xs ++ ys) = endR G (endR G a xs) ys
  | [], ys, a => rfl
  | x :: xs, ys, a => endR_app G xs ys _
theorem OKR_app (G : List Int) : ∀ (xs ys : List Int) (a : Int), OKR G a (xs ++ ys) ↔ OKR G a xs ∧ OKR G (endR G a xs) ys
  | [], ys, a => by simp [OKR, endR]
  | x :: xs, ys, a => by
    show (x ∈ keep G (lasting G) a ∧ OKR G (tgt G a x) (xs ++ ys)) ↔ (x ∈ keep G (lasting G) a ∧ OKR G (tgt G a x) xs) ∧ OKR G (endR G (tgt G a x) xs) ys
    rw [OKR_app G xs ys, and_assoc]
theorem OKR.las {G : List Int} (h : isT G = true) : ∀ {cs : List Int} {a : Int}, Las G a → OKR G a cs → Las G (endR G a cs)
  | [], a, ha, _ => ha
  | c :: cs, a, ha, hk => OKR.las h (cs := cs) (keep_las h ha hk.1).1 hk.2
theorem OKR.mem {G : List Int} {m : Int} (hm : m = G.length) : ∀ {cs : List Int} {a : Int}, OKR G a cs → ∀ c ∈ cs, -1 ≤ c ∧ c ≤ m - 1
  | [], a, _, c, hc => by cases hc
  | x :: cs, a, hk, c, hc => by
    rcases List.mem_cons.1 hc with rfl | hc
    · obtain ⟨hm1, _⟩ := List.mem_filter.1 hk.1
      unfold chs at hm1
      obtain ⟨z, hz, e⟩ := List.mem_map.1 hm1
      have := List.mem_range.1 hz
      omega
    · exact OKR.mem hm hk.2 c hc
theorem OKR.turn {G : List Int} (h : isT G = true) {a : Int} (ha : Las G a) {cs : List Int} (hk : OKR G a cs) (he : endR G a cs = a) {t : Nat} (ht : t < G.length) : Turn cs (t : Int) (rd G t) (fun j => rd (ofN G (endR G a (cs.take j))) t) := by
  refine ⟨fun j hj => ?_, fun j _ => stt_at (ofN_st _ (isT_gp h)) ht, ?_⟩
  · have e1 : cs.take (j + 1) = cs.take j ++ [rd cs j] := by rw [rd_lt hj, List.take_succ_eq_append_getElem hj]
    have hk1 : OKR G a (cs.take j ++ [rd cs j]) := by
      have := hk
      rw [← List.take_append_drop (j + 1) cs, e1] at this
      exact ((OKR_app G _ _ a).1 this).1
    obtain ⟨k1, k2⟩ := (OKR_app G _ _ a).1 hk1
    have hl := OKR.las h ha k1
    obtain ⟨_, T, hs, hT, et, _⟩ := keep_las h hl k2.1
    have e2 : endR G a (cs.take (j + 1)) = num G T := by rw [e1, endR_app]; exact et
    show rd (ofN G (endR G a (cs.take (j + 1)))) t = if rd cs j = t then rd G t else rd (ofN G (endR G a (cs.take j))) t - 1
    rw [e2, ofN_num (isT_gp h) hT, stepA_rd (t := t) (ofN_st _ (isT_gp h)) hs ht]
    by_cases c : rd cs j = t
    · rw [if_pos c, if_pos (by omega)]
    · rw [if_neg c, if_neg (by omega)]
  · show rd (ofN G (endR G a (cs.take cs.length))) t = rd (ofN G (endR G a (cs.take 0))) t
    rw [List.take_length, he]; rfl
structure PlayJ (G : List Int) (a v : Int) (came out : List Int) : Prop where
  ok : OKR G a out
  at_ : endR G a out = v
  came_ : ∀ u : Nat, u < came.length → 0 ≤ rd came u → (rd came u).toNat < out.length ∧ endR G a (out.take (rd came u).toNat) = u
theorem play_round {G : List Int} (h : isT G = true) (hc : cnt G ≤ 4000) {a : Int} (ha : Las G a) : ∀ (n : Nat) (v : Int) (came out : List Int) (r : List Int × List Int), PlayI G v came out → PlayJ G a v came out → play G n v came out = some r →
    ∃ b, Las G b ∧ OKR G b r.2 ∧ endR G b r.2 = b ∧ 1 ≤ r.2.length
  | 0, v, came, out, r, I, J, hp => by cases hp
  | n + 1, v, came, out, r, I, J, hp => by
    have hv0 := I.v0; have hv1 := I.v1; have hcl := I.cl
    have ev : ((v.toNat : Nat) : Int) = v := by omega
    unfold play at hp
    split at hp
    · rename_i hb
      cases hp
      obtain ⟨j1, j2⟩ := J.came_ v.toNat (by omega) (by rw [ev]; exact hb)
      rw [ev] at j1 j2
      have hok := J.ok
      rw [← List.take_append_drop (rd came v).toNat out] at hok
      obtain ⟨k1, k2⟩ := (OKR_app G _ _ a).1 hok
      rw [j2] at k2
      refine ⟨v, ⟨hv0, hv1, I.lv⟩, k2, ?_, ?_⟩
      · have := J.at_
        rw [← List.take_append_drop (rd came v).toNat out, endR_app, j2] at this
        exact this
      · show 1 ≤ (out.drop (rd came v).toNat).length
        rw [List.length_drop]; omega
    · rename_i hb
      refine play_round h hc ha n _ _ _ r (I.next h hc hb) ?_ hp
      have hne := lasting_good h hc hv0 hv1 I.lv
      have hk : rd (keep G (lasting G) v) 0 ∈ keep G (lasting G) v := rd_mem (l := keep G (lasting G) v) (i := 0) (List.length_pos_iff.2 hne)
      refine ⟨(OKR_app G _ _ a).2 ⟨J.ok, by rw [J.at_]; exact ⟨hk, trivial⟩⟩, ?_, fun u hu hr => ?_⟩
      · rw [endR_app, J.at_]; rfl
      · have hu' : u < came.length := by simpa using hu
        have hvl : v.toNat < came.length := by omega
        have hset : rd (came.set v.toNat (out.length : Int)) u = if u = v.toNat then (out.length : Int) else rd came u := rd_set hvl
        rw [hset] at hr ⊢
        by_cases e : u = v.toNat
        · rw [if_pos e, Int.toNat_natCast]
          refine ⟨by simp, ?_⟩
          rw [List.take_append_of_le_length (Nat.le_refl _), List.take_length, J.at_, e, ev]
        · rw [if_neg e] at hr ⊢
          obtain ⟨j1, j2⟩ := J.came_ u hu' hr
          refine ⟨by simp; omega, ?_⟩
          rw [List.take_append_of_le_length (by omega)]
          exact j2
theorem playR_round {G : List Int} (hf : few G = 0) (hs : canB G = true) : ∃ b, Las G b ∧ OKR G b (playR G).2.1 ∧ endR G b (playR G).2.1 = b ∧ 1 ≤ (playR G).2.1.length ∧ (playR G).2.2 = 0 := by
  obtain ⟨h, hc⟩ := few_zero hf
  have hp := cnt_pos (isT_gp h)
  have hs' : (canR G).1 = true := by rw [canR_canB h hc]; exact hs
  obtain ⟨r, h1, h2, _, _⟩ := playR_eq hf hs'
  have hla : Las G (cnt G - 1) := ⟨by omega, by omega, hs⟩
  obtain ⟨b, b1, b2, b3, b4⟩ := play_round h hc hla 4001 _ _ _ r (play_start h hc hs') ⟨trivial, rfl, fun u hu hr => by
    exfalso
    have : rd (List.replicate (cnt G).toNat (-1 : Int)) u = -1 := by
      rw [rd_nat, List.getD_eq_getElem?_getD, List.getElem?_replicate, if_pos (by simpa using hu)]; rfl
    omega⟩ h1
  rw [h2]
  exact ⟨b, b1, b2, b3, b4, rfl⟩
def turnW (p c : Int) : Bool := decide (-1 ≤ c ∧ c ≤ wrap64 (p - 1))
def turnsW (p : Int) (cs : List Int) : Bool := decide (1 ≤ cs.length ∧ cs.length ≤ 120) && cs.all (turnW p)
theorem areTurnsW {k : Nat} {l : List Int} (hk : 2097152 ≤ k) (hl : l.length ≤ 1048576) (m : Int) : impl_areTurns.f k l m = some (turnsW m l) := by
  have key : impl_areAll_int64_impl_areTurns_1.f k l m = some (l.all (turnW m)) := by
    obtain ⟨j, h1, h2⟩ := idx_run (L := slices_IndexFunc_int64_int64_impl_areAll_int64_1_impl_areTurns_1.l0 k) (p := fun x => !turnW m x) (l := l) (c := m)
      (fun n i hi => by
        simp only [slices_IndexFunc_int64_int64_impl_areAll_int64_1_impl_areTurns_1.l0, slices_IndexFunc_int64_int64_impl_areAll_int64_1_impl_areTurns_1.s0]
        rw [if_pos (by omega), if_pos (by omega), if_pos (by omega)]
        simp only [impl_areAll_int64_1_impl_areTurns_1.f, impl_areTurns_1.f, within_f, Option.bind_some, w64n (show i ≤ 9223372036854775806 by omega)]
        unfold turnW
        cases decide (-1 ≤ rd l i ∧ rd l i ≤ wrap64 (m - 1)) <;> simp)
      (fun n => by
        simp only [slices_IndexFunc_int64_int64_impl_areAll_int64_1_impl_areTurns_1.l0, slices_IndexFunc_int64_int64_impl_areAll_int64_1_impl_areTurns_1.s0]
        rw [if_neg (by omega)]) l.length 0 k (by omega) (by omega) (by omega)
    unfold impl_areAll_int64_impl_areTurns_1.f slices_ContainsFunc_int64_int64_impl_areAll_int64_1_impl_areTurns_1.f slices_IndexFunc_int64_int64_impl_areAll_int64_1_impl_areTurns_1.f slices_IndexFunc_int64_int64_impl_areAll_int64_1_impl_areTurns_1.g
    rw [show slices_IndexFunc_int64_int64_impl_areAll_int64_1_impl_areTurns_1.l0 k k l m l.length 0 = some j from h1, Option.bind_some, Option.bind_some]
    rw [List.drop_zero] at h2
    congr 1
    exact all_iff (p := fun x => !turnW m x) (fun _ => rfl) h2
  unfold impl_areTurns.f turnsW
  rw [length_f, Option.bind_some, within_f, Option.bind_some]
  by_cases c : 1 ≤ l.length ∧ l.length ≤ 120
  · rw [if_pos (decide_eq_true (by omega)), key, Option.bind_some, decide_eq_true c, Bool.true_and]
  · rw [if_neg (by simp; omega), decide_eq_false c, Bool.false_and]
theorem turnsW_el {p : Int} {cs : List Int} (h1 : 1 ≤ p) (h2 : p ≤ 6) (h : turnsW p cs = true) : (1 ≤ cs.length ∧ cs.length ≤ 120) ∧ ∀ i : Nat, i < cs.length → -1 ≤ rd cs i ∧ rd cs i < p := by
  unfold turnsW at h
  rw [Bool.and_eq_true] at h
  refine ⟨of_decide_eq_true h.1, fun i hi => ?_⟩
  have := of_decide_eq_true (List.all_eq_true.1 h.2 _ (rd_mem hi))
  rw [w64 (x := p - 1) (by omega) (by omega)] at this
  omega
abbrev dd (i : Nat) : List UInt8 := Lib.decDigits i
theorem dd_one {i : Nat} (h : i < 10) : dd i = [UInt8.ofNat (48 + i)] := Lib.decDigits_one h
theorem dg_no : ∀ n : Nat, n < 10 → UInt8.ofNat (48 + n) ≠ 44 := by decide +kernel
theorem dg_back : ∀ n : Nat, n < 10 → (UInt8.ofNat (48 + n)).toNat - 48 = n := by decide +kernel
theorem dd_step {i : Nat} (h : ¬ i < 10) : dd i = dd (i / 10) ++ [UInt8.ofNat (48 + i % 10)] := by
  unfold dd
  rw [Lib.decDigits, dif_neg h]
theorem dd_no (i : Nat) : (44 : UInt8) ∉ dd i := by
  induction i using Nat.strongRecOn with
  | _ i ih =>
    by_cases h : i < 10
    · rw [dd_one h]
      intro e
      exact dg_no i h (List.mem_singleton.1 e).symm
    · rw [dd_step h]
      intro e
      rcases List.mem_append.1 e with e | e
      · exact ih (i / 10) (by omega) e
      · exact dg_no (i % 10) (by omega) (List.mem_singleton.1 e).symm
def undd (l : List UInt8) : Nat := l.foldl (fun v c => v * 10 + (c.toNat - 48)) 0
theorem undd_dd (i : Nat) : undd (dd i) = i := by
  induction i using Nat.strongRecOn with
  | _ i ih =>
    by_cases h : i < 10
    · rw [dd_one h]
      show 0 * 10 + ((UInt8.ofNat (48 + i)).toNat - 48) = i
      rw [dg_back i h]; omega
    · have := ih (i / 10) (by omega)
      unfold undd at this ⊢
      rw [dd_step h, List.foldl_append, this]
      show i / 10 * 10 + ((UInt8.ofNat (48 + i % 10)).toNat - 48) = i
      rw [dg_back (i % 10) (by omega)]; omega
theorem dd_inj {i j : Nat} (h : dd i = dd j) : i = j := by rw [← undd_dd i, ← undd_dd j, h]
theorem dd_len (i : Nat) : (dd i).length ≤ i + 1 := by
  induction i using Nat.strongRecOn with
  | _ i ih =>
    by_cases h : i < 10
    · rw [dd_one h]; simp
    · rw [dd_step h, List.length_append, List.length_singleton]
      have := ih (i / 10) (by omega)
      omega
def jn : List (List UInt8) → List UInt8
  | [] => []
  | [a] => a
  | a :: b :: r => a ++ 44 :: jn (b :: r)
theorem join_jn : ∀ xs : List (List UInt8), Lib.join xs [44] = jn xs
  | [] => rfl
  | [a] => by simp [Lib.join, jn, List.intercalate]
  | a :: b :: r => by
    have := join_jn (b :: r)
    unfold Lib.join at this ⊢
    simp only [List.intercalate, List.intersperse, List.flatten_cons, jn] at this ⊢
    rw [← this]; simp
theorem jn_len : ∀ xs : List (List UInt8), (∀ x ∈ xs, x.length ≤ 10001) → (jn xs).length ≤ 10002 * xs.length
  | [], _ => by simp [jn]
  | [a], h => by have := h a (by simp); simp [jn]; omega
  | a :: b :: r, h => by
    have h1 := h a (by simp)
    have h2 := jn_len (b :: r) fun x hx => h x (List.mem_cons_of_mem _ hx)
    simp only [jn, List.length_append, List.length_cons] at h2 ⊢
    omega
def Tl (X : List UInt8) : Prop := X = [] ∨ ∃ Y, X = 44 :: Y
theorem part : ∀ {a b X Y : List UInt8}, (44 : UInt8) ∉ a → (44 : UInt8) ∉ b → Tl X → Tl Y → a ++ X = b ++ Y → a = b ∧ X = Y
  | [], [], _, _, _, _, _, _, h => ⟨rfl, h⟩
  | [], y :: b, X, Y, _, hb, hX, _, h => by
    rcases hX with rfl | ⟨Z, rfl⟩
    · cases h
    · have h : (44 : UInt8) :: Z = y :: (b ++ Y) := h
      exact absurd (List.mem_cons.2 (.inl (List.cons.inj h).1)) hb
  | x :: a, [], X, Y, ha, _, _, hY, h => by
    rcases hY with rfl | ⟨Z, rfl⟩
    · cases h
    · have h : x :: (a ++ X) = (44 : UInt8) :: Z := h
      exact absurd (List.mem_cons.2 (.inl (List.cons.inj h).1.symm)) ha
  | x :: a, y :: b, X, Y, ha, hb, hX, hY, h => by
    have h : x :: (a ++ X) = y :: (b ++ Y) := h
    obtain ⟨h1, h2⟩ := List.cons.inj h
    obtain ⟨h3, h4⟩ := part (fun q => ha (List.mem_cons_of_mem _ q)) (fun q => hb (List.mem_cons_of_mem _ q)) hX hY h2
    exact ⟨by rw [h1, h3], h4⟩
theorem jn_cons (a : List UInt8) (r : List (List UInt8)) : ∃ X, Tl X ∧ jn (a :: r) = a ++ X ∧ (X = [] ↔ r = []) ∧ (∀ b t, r = b :: t → X = 44 :: jn r) := by
  cases r with
  | nil => exact ⟨[], .inl rfl, by simp [jn], by simp, fun b t h => by cases h⟩
  | cons b t => exact ⟨44 :: jn (b :: t), .inr ⟨_, rfl⟩, rfl, by simp, fun _ _ _ => rfl⟩
theorem jn_inj : ∀ {xs ys : List Nat}, xs ≠ [] → ys ≠ [] → jn (xs.map dd) = jn (ys.map dd) → xs = ys
  | [], _, h, _, _ => absurd rfl h
  | _, [], _, h, _ => absurd rfl h
  | x :: xs, y :: ys, _, _, h => by
    obtain ⟨X, tX, eX, nX, cX⟩ := jn_cons (dd x) (xs.map dd)
    obtain ⟨Y, tY, eY, nY, cY⟩ := jn_cons (dd y) (ys.map dd)
    rw [List.map_cons, List.map_cons, eX, eY] at h
    obtain ⟨h1, h2⟩ := part (dd_no x) (dd_no y) tX tY h
    have := dd_inj h1
    subst this
    cases xs with
    | nil =>
      have : ys.map dd = [] := nY.1 (by rw [← h2]; exact nX.2 rfl)
      rw [List.map_eq_nil_iff.1 this]
    | cons a xs =>
      cases ys with
      | nil => exact absurd (nX.1 (by rw [h2]; exact nY.2 rfl)) (by simp)
      | cons b ys =>
        have e1 := cX (dd a) (xs.map dd) rfl
        have e2 := cY (dd b) (ys.map dd) rfl
        rw [e1, e2] at h2
        rw [jn_inj (by simp) (by simp) (List.cons.inj h2).2]
def comma : ByteArray := ⟨#[44]⟩
def Sm (l : List Int) : Prop := l ≠ [] ∧ l.length ≤ 8 ∧ ∀ x ∈ l, 0 ≤ x ∧ x ≤ 10000
def keyOf (l : List Int) : ByteArray := joinS (l.map numS) comma
theorem key_data (l : List Int) : (l.map numS).map (·.data.toList) = (l.map Int.toNat).map dd := by
  induction l with
  | nil => rfl
  | cons a l ih =>
    simp only [List.map_cons]
    rw [ih]; rfl
theorem key_inj {l r : List Int} (hl : Sm l) (hr : Sm r) (h : keyOf l = keyOf r) : l = r := by
  have e : ∀ {l : List Int}, Sm l → (keyOf l).data.toList = jn ((l.map Int.toNat).map dd) := fun {l} hl => by
    show (Lib.join ((l.map numS).map (·.data.toList)) [44]) = _
    rw [key_data, join_jn]
  have h2 : jn ((l.map Int.toNat).map dd) = jn ((r.map Int.toNat).map dd) := by rw [← e hl, ← e hr, h]
  have h3 := jn_inj (by simpa using hl.1) (by simpa using hr.1) h2
  have back : ∀ {l : List Int}, Sm l → (l.map Int.toNat).map (fun n : Nat => (n : Int)) = l := fun {l} hl => by
    rw [List.map_map]
    conv => rhs; rw [← List.map_id l]
    exact List.map_congr_left fun x hx => by have := hl.2.2 x hx; show ((x.toNat : Nat) : Int) = x; omega
  rw [← back hl, ← back hr, h3]
theorem w64k {i : Nat} (h : i ≤ 9223372036854775806) : wrap64 ((i : Int) + 1) = ((i + 1 : Nat) : Int) := by
  unfold wrap64; omega
theorem joined_f {k : Nat} {l : List Int} (hk : 2097152 ≤ k) (h : Sm l) : impl_joined.f k l comma = some (keyOf l) := by
  obtain ⟨h1, h2, h3⟩ := h
  have key : ∀ (d i n : Nat), i + d = l.length → d < n → impl_joined.l0 k n comma ((l.take i).map numS) l (l.length : Int) i = some (keyOf l) := by
    intro d
    induction d with
    | zero =>
      intro i n hi hn
      obtain rfl : i = l.length := by omega
      cases n with
      | zero => omega
      | succ n =>
        simp only [impl_joined.l0, impl_joined.s0]
        rw [if_neg (by omega), List.take_length]
        have hj : ((Lib.join (((l.map numS)).map (·.data.toList)) comma.data.toList).length ≤ 1000000) := by
          show (Lib.join ((l.map numS).map (·.data.toList)) [44]).length ≤ _
          rw [key_data, join_jn]
          have := jn_len ((l.map Int.toNat).map dd) (fun x hx => by obtain ⟨y, hy, rfl⟩ := List.mem_map.1 hx; obtain ⟨z, hz, rfl⟩ := List.mem_map.1 hy; have := h3 z hz; have := dd_len z.toNat; omega)
          rw [List.length_map, List.length_map] at this; omega
        unfold strings_Join.f
        rw [if_pos ⟨by simpa using h1, by simp; omega, hj⟩]; rfl
    | succ d ih =>
      intro i n hi hn
      cases n with
      | zero => omega
      | succ n =>
        have hx := h3 (l[i]'(by omega)) (List.getElem_mem _)
        have e : rd l (i : Int) = l[i]'(by omega) := by unfold rd; rw [Int.toNat_natCast, List.getD_eq_getElem?_getD, List.getElem?_eq_getElem (by omega), Option.getD_some]
        have ht : (l.take (i + 1)).map numS = (l.take i).map numS ++ [numS (rd l (i : Int))] := by rw [List.take_succ_eq_append_getElem (by omega), List.map_append, e]; rfl
        have hd : impl_decimal.f (rd l (i : Int)) = some (numS (rd l (i : Int))) := by
          unfold impl_decimal.f strconv_FormatInt.f
          rw [if_pos ⟨by omega, by omega, rfl⟩]; rfl
        have hlen : ((l.take i).map numS).length ≤ 1000 := by rw [List.length_map, List.length_take]; omega
        simp only [impl_joined.l0, impl_joined.s0]
        rw [if_pos (by omega), if_pos (by omega), if_pos (by omega), hd, Option.bind_some, if_pos (by omega), w64k (by omega), ← ht]
        exact ih (i + 1) n (by omega) (by omega)
  unfold impl_joined.f impl_joined.g
  exact key l.length 0 k (by omega) (by omega)
theorem rd_ext {a b : List Int} (h : a.length = b.length) (h2 : ∀ i : Nat, i < a.length → rd a i = rd b i) : a = b :=
  List.ext_getElem h fun i h1 h3 => by have := h2 i h1; rwa [rd_lt h1, rd_lt h3] at this
def ahd (g h : List Int) : List Int := List.zipWith (fun x r => x + r) h g
theorem ahd_len {g h : List Int} (e : h.length = g.length) : (ahd g h).length = g.length := by simp [ahd, e]
theorem ahd_rd {g h : List Int} (e : h.length = g.length) {i : Nat} (hi : i < g.length) : rd (ahd g h) i = rd h i + rd g i := by
  rw [rd_lt (by rw [ahd_len e]; exact hi), rd_lt (by omega), rd_lt hi]; simp [ahd]
def Ht (g h : List Int) (B : Int) : Prop := h.length = g.length ∧ ∀ i : Nat, i < g.length → 0 ≤ rd h i ∧ rd h i ≤ B
theorem rates {g : List Int} (hg : isG g = true) {i : Nat} (hi : i < g.length) : 1 ≤ rd g i ∧ rd g i ≤ 20 := (isG_iff.1 hg).2 _ (rd_mem hi)
theorem grown_f {k : Nat} {g h : List Int} (hk : 2097152 ≤ k) (hg : isG g = true) {B : Int} (hh : Ht g h B) (hB : B ≤ 10000) : impl_Garden_grown.f k g h 1 = some (ahd g h) := by
  have hlen := (isG_iff.1 hg).1
  obtain ⟨e, hb⟩ := hh
  have key : ∀ (d i n : Nat) (x : List Int), i + d = g.length → d < n → x.length = g.length → (∀ j : Nat, j < g.length → rd x j = if j < i then rd h j + rd g j else rd h j) →
      impl_Garden_grown.l0 k n 1 x g (g.length : Int) i = some (ahd g h) := by
    intro d
    induction d with
    | zero =>
      intro i n x hi hn hx hr
      cases n with
      | zero => omega
      | succ n =>
        simp only [impl_Garden_grown.l0, impl_Garden_grown.s0]
        rw [if_neg (by omega)]
        congr 1
        refine rd_ext (by rw [hx, ahd_len e]) fun j hj => ?_
        rw [hr j (by omega), if_pos (by omega), ahd_rd e (by omega)]
    | succ d ih =>
      intro i n x hi hn hx hr
      cases n with
      | zero => omega
      | succ n =>
        have h1 := rates hg (show i < g.length by omega)
        have h2 := hb i (by omega)
        have h3 := hr i (by omega)
        rw [if_neg (by omega)] at h3
        simp only [impl_Garden_grown.l0, impl_Garden_grown.s0]
        rw [if_pos (by omega), if_pos (by omega), if_pos (by omega), if_pos (by omega), if_pos (by omega), if_pos (by omega), if_pos (by omega), h3, Int.mul_one, w64 (x := rd g i) (by omega) (by omega), w64 (by omega) (by omega), w64n (by omega), Int.toNat_natCast]
        refine ih (i + 1) n _ (by omega) (by omega) (by rw [List.length_set, hx]) fun j hj => ?_
        rw [rd_set (by omega), hr j hj]
        by_cases c : j = i
        · rw [if_pos c, if_pos (by omega), c]
        · rw [if_neg c]
          by_cases c2 : j < i
          · rw [if_pos c2, if_pos (by omega)]
          · rw [if_neg c2, if_neg (by omega)]
  unfold impl_Garden_grown.f impl_Garden_grown.g
  rw [clone_f (by omega), Option.bind_some]
  exact key g.length 0 k h (by omega) (by omega) e (fun j hj => by rw [if_neg (by omega)])
theorem grow_f {k : Nat} {g h : List Int} (hk : 2097152 ≤ k) (hg : isG g = true) {B : Int} (hh : Ht g h B) (hB : B ≤ 10000) : spec_l06Grow.f k g h 1 = some (ahd g h) := by
  have hlen := (isG_iff.1 hg).1
  obtain ⟨e, hb⟩ := hh
  have key : ∀ (d i n : Nat), i + d = g.length → d < n → spec_l06Grow.l0 k n h 1 g ((ahd g h).take i) i = some (ahd g h) := by
    intro d
    induction d with
    | zero =>
      intro i n hi hn
      cases n with
      | zero => omega
      | succ n =>
        simp only [spec_l06Grow.l0, spec_l06Grow.s0]
        rw [if_neg (by omega), List.take_of_length_le (by rw [ahd_len e]; omega)]
    | succ d ih =>
      intro i n hi hn
      cases n with
      | zero => omega
      | succ n =>
        have h1 := rates hg (show i < g.length by omega)
        have h2 := hb i (by omega)
        have h3 := ahd_rd e (show i < g.length by omega)
        have hl : i < (ahd g h).length := by rw [ahd_len e]; omega
        have ht : (ahd g h).take (i + 1) = (ahd g h).take i ++ [rd h i + rd g i] := by rw [List.take_succ_eq_append_getElem hl, ← h3, rd_lt hl]
        have hl2 : ((ahd g h).take i).length = i := by rw [List.length_take]; omega
        simp only [spec_l06Grow.l0, spec_l06Grow.s0]
        rw [if_pos (by omega), if_pos (by omega), if_pos (by omega), if_pos (by omega), if_pos (by omega), if_pos (by omega), Int.one_mul, w64 (x := rd g i) (by omega) (by omega), w64 (by omega) (by omega), w64n (by omega), ← ht]
        exact ih (i + 1) n (by omega) (by omega)
  unfold spec_l06Grow.f spec_l06Grow.g
  exact key g.length 0 k (by omega) (by omega)
def IsHi (a : List Int) (i : Nat) : Prop := i < a.length ∧ (∀ j : Nat, j < a.length → rd a j ≤ rd a i) ∧ ∀ j : Nat, j < i → rd a j < rd a i
theorem IsHi.same {a : List Int} {i j : Nat} (h : IsHi a i) (h' : IsHi a j) : i = j := by
  obtain ⟨h1, h2, h3⟩ := h
  obtain ⟨k1, k2, k3⟩ := h'
  have := h2 j k1
  have := k2 i h1
  by_cases c : i < j
  · have := k3 i c; omega
  · by_cases c2 : j < i
    · have := h3 j c2; omega
    · omega
theorem highest_ex {k : Nat} {a : List Int} (hk : 2097152 ≤ k) (h1 : 1 ≤ a.length) (h8 : a.length ≤ 1000) : ∃ i : Nat, spec_l06Highest.f k a = some (i : Int) ∧ IsHi a i := by
  have key : ∀ (d i n b : Nat), i + d = a.length → d < n → b < i → (∀ j : Nat, j < i → rd a j ≤ rd a b) → (∀ j : Nat, j < b → rd a j < rd a b) → ∃ r : Nat, spec_l06Highest.l0 k n a b i = some (r : Int) ∧ IsHi a r := by
    intro d
    induction d with
    | zero =>
      intro i n b hi hn hb q1 q2
      cases n with
      | zero => omega
      | succ n =>
        simp only [spec_l06Highest.l0, spec_l06Highest.s0]
        rw [if_neg (by omega)]
        exact ⟨b, rfl, by omega, fun j hj => q1 j (by omega), q2⟩
    | succ d ih =>
      intro i n b hi hn hb q1 q2
      cases n with
      | zero => omega
      | succ n =>
        simp only [spec_l06Highest.l0, spec_l06Highest.s0]
        rw [if_pos (by omega), if_pos (by omega), if_pos (by omega), if_pos (by omega), if_pos (by omega), w64n (by omega)]
        by_cases c : rd a b < rd a i
        · rw [if_pos c]
          refine ih (i + 1) n i (by omega) (by omega) (by omega) (fun j hj => ?_) fun j hj => ?_
          · by_cases e : j = i
            · rw [e]; exact Int.le_refl _
            · have := q1 j (by omega); omega
          · have := q1 j hj; omega
        · rw [if_neg c]
          refine ih (i + 1) n b (by omega) (by omega) (by omega) (fun j hj => ?_) q2
          by_cases e : j = i
          · rw [e]; omega
          · exact q1 j (by omega)
  unfold spec_l06Highest.f spec_l06Highest.g
  obtain ⟨r, h2, h3⟩ := key (a.length - 1) 1 k 0 (by omega) (by omega) (by omega) (fun j hj => by
    have e0 : j = 0 := by omega
    rw [e0]; exact Int.le_refl _) (fun j hj => by omega)
  exact ⟨r, h2, h3⟩
open Classical in
noncomputable def hi (a : List Int) : Nat := if h : ∃ i, IsHi a i then h.choose else 0
theorem hi_is {a : List Int} (h1 : 1 ≤ a.length) (h8 : a.length ≤ 1000) : IsHi a (hi a) := by
  obtain ⟨i, _, h⟩ := highest_ex (k := 2097152) (Nat.le_refl _) h1 h8
  unfold hi
  rw [dif_pos ⟨i, h⟩]
  exact Exists.choose_spec (⟨i, h⟩ : ∃ i, IsHi a i)
theorem highest_f {k : Nat} {a : List Int} (hk : 2097152 ≤ k) (h1 : 1 ≤ a.length) (h8 : a.length ≤ 1000) : spec_l06Highest.f k a = some (hi a : Int) := by
  obtain ⟨i, h2, h3⟩ := highest_ex hk h1 h8
  rw [h2, h3.same (hi_is h1 h8)]
theorem rmax_f {k : Nat} {l : List Int} (hk : 2097152 ≤ k) (h1 : 1 ≤ l.length) (h8 : l.length ≤ 1000) : ∃ t, slices_Max_int64_int64.f k l = some t ∧ t ∈ l ∧ ∀ j : Nat, j < l.length → rd l j ≤ t := by
  have key : ∀ (d i m : Nat) (a : Int), i + d = l.length → d < m → a ∈ l → (∀ j : Nat, j < i → rd l j ≤ a) → ∃ t, slices_Max_int64_int64.l0 k m l a i = some t ∧ t ∈ l ∧ ∀ j : Nat, j < l.length → rd l j ≤ t := by
    intro d
    induction d with
    | zero =>
      intro i m a hd hm ha hp
      cases m with
      | zero => omega
      | succ m =>
        simp only [slices_Max_int64_int64.l0, slices_Max_int64_int64.s0]
        rw [if_neg (by omega)]
        exact ⟨a, rfl, ha, fun j hj => hp j (by omega)⟩
    | succ d ih =>
      intro i m a hd hm ha hp
      cases m with
      | zero => omega
      | succ m =>
        simp only [slices_Max_int64_int64.l0, slices_Max_int64_int64.s0]
        rw [if_pos (by omega), if_pos (by omega), if_pos (by omega), w64n (by omega)]
        have hm2 := rd_mem (l := l) (i := i) (by omega)
        refine ih (i + 1) m _ (by omega) (by omega) ?_ fun j hj => ?_
        · unfold maxV; split <;> assumption
        · have hb : a ≤ maxV a (rd l i) ∧ rd l i ≤ maxV a (rd l i) := by unfold maxV; split <;> omega
          by_cases e : j = i
          · rw [e]; exact hb.2
          · exact Int.le_trans (hp j (by omega)) hb.1
  unfold slices_Max_int64_int64.f slices_Max_int64_int64.g
  rw [if_neg (by omega), if_pos (by omega)]
  have m0 : rd l 0 ∈ l := rd_mem (l := l) (i := 0) (by omega)
  exact key (l.length - 1) 1 k (rd l 0) (by omega) (by omega) m0 (fun j hj => by
    have e0 : j = 0 := by omega
    rw [e0]; exact Int.le_refl _)
theorem byHeight_f {k : Nat} {a : List Int} (hk : 2097152 ≤ k) (h1 : 1 ≤ a.length) (h8 : a.length ≤ 1000) : impl_byHeight.f k a = some (hi a : Int) := by
  obtain ⟨t, h2, h3, h4⟩ := rmax_f hk h1 h8
  obtain ⟨p, hp, rfl⟩ := List.getElem_of_mem h3
  have key : ∀ (d i n : Nat), i + d = a.length → d < n → (∀ j : Nat, j < i → rd a j ≠ a[p]) → ∃ r : Nat, slices_Index_int64_int64.l0 k n a a[p] (a.length : Int) i = some (r : Int) ∧ IsHi a r := by
    intro d
    induction d with
    | zero =>
      intro i n hi hn hq
      exact absurd (rd_lt hp) (hq p (by omega))
    | succ d ih =>
      intro i n hi hn hq
      cases n with
      | zero => omega
      | succ n =>
        simp only [slices_Index_int64_int64.l0, slices_Index_int64_int64.s0]
        rw [if_pos (by omega), if_pos (by omega), if_pos (by omega), w64n (by omega)]
        by_cases c : a[p] = rd a i
        · rw [if_pos c]
          refine ⟨i, rfl, by omega, fun j hj => by rw [← c]; exact h4 j hj, fun j hj => ?_⟩
          have := h4 j (by omega)
          have := hq j hj
          omega
        · rw [if_neg c]
          refine ih (i + 1) n (by omega) (by omega) fun j hj => ?_
          by_cases e : j = i
          · rw [e]; exact fun q => c q.symm
          · exact hq j (by omega)
  unfold impl_byHeight.f
  rw [h2, Option.bind_some]
  unfold slices_Index_int64_int64.f slices_Index_int64_int64.g
  obtain ⟨r, q1, q2⟩ := key a.length 0 k (by omega) (by omega) (fun j hj => by omega)
  rw [show slices_Index_int64_int64.l0 k k a a[p] (a.length : Int) 0 = some (r : Int) from q1, Option.bind_some, q2.same (hi_is h1 h8)]
def faL (g a : List Int) (x : Int) : Nat → Nat → Int → Int
  | 0, _, b => b
  | d + 1, i, b => faL g a x d (i + 1) (if x ≤ rd a i ∧ (b = -1 ∨ rd g b < rd g i) then (i : Int) else b)
def fa (g a : List Int) (x : Int) : Int := faL g a x a.length 0 (-1)
theorem faL_rng (g a : List Int) (x : Int) : ∀ (d i : Nat) (b : Int), i + d = a.length → (b = -1 ∨ (0 ≤ b ∧ b < i)) → faL g a x d i b = -1 ∨ (0 ≤ faL g a x d i b ∧ faL g a x d i b < a.length)
  | 0, i, b, h, hb => by
    show b = -1 ∨ _
    rcases hb with hb | hb
    · exact .inl hb
    · exact .inr (by show 0 ≤ b ∧ b < _; omega)
  | d + 1, i, b, h, hb => by
    refine faL_rng g a x d (i + 1) _ (by omega) ?_
    split
    · exact .inr (by omega)
    · rcases hb with hb | hb
      · exact .inl hb
      · exact .inr (by omega)
theorem fa_rng (g a : List Int) (x : Int) : fa g a x = -1 ∨ (0 ≤ fa g a x ∧ fa g a x < a.length) := faL_rng g a x a.length 0 (-1) (by omega) (.inl rfl)
theorem fastest_f {k : Nat} {g a : List Int} {x : Int} (hk : 2097152 ≤ k) (e : a.length = g.length) (h8 : a.length ≤ 1000) : spec_l06Fastest.f k g a x = some (fa g a x) := by
  have key : ∀ (d i n : Nat) (b : Int), i + d = a.length → d < n → (b = -1 ∨ (0 ≤ b ∧ b < i)) → spec_l06Fastest.l0 k n a x g b i = some (faL g a x d i b) := by
    intro d
    induction d with
    | zero =>
      intro i n b hi hn hb
      cases n with
      | zero => omega
      | succ n =>
        simp only [spec_l06Fastest.l0, spec_l06Fastest.s0]
        rw [if_neg (by omega)]; rfl
    | succ d ih =>
      intro i n b hi hn hb
      cases n with
      | zero => omega
      | succ n =>
        simp only [spec_l06Fastest.l0, spec_l06Fastest.s0, faL]
        rw [if_pos (by omega), if_pos (by omega), if_pos (by omega), w64n (by omega)]
        have i1 := ih (i + 1) n (i : Int) (by omega) (by omega) (.inr (by omega))
        have i2 := ih (i + 1) n b (by omega) (by omega) (by omega)
        by_cases c : x ≤ rd a i
        · rw [if_pos c]
          by_cases c2 : b = -1
          · rw [if_pos (by omega), if_pos ⟨c, .inl c2⟩]; exact i1
          · rw [if_neg (by omega), if_pos (by omega), if_pos (by omega), if_pos (by omega), if_pos (by omega)]
            by_cases c3 : rd g b < rd g i
            · rw [if_pos c3, if_pos ⟨c, .inr c3⟩]; exact i1
            · rw [if_neg c3, if_neg (by rintro ⟨_, q | q⟩ <;> contradiction)]; exact i2
        · rw [if_neg c, if_neg (fun q => c q.1)]; exact i2
  unfold spec_l06Fastest.f spec_l06Fastest.g fa
  exact key a.length 0 k (-1) (by omega) (by omega) (.inl rfl)
theorem bySpeed_f {k : Nat} {g a : List Int} {x : Int} (hk : 2097152 ≤ k) (e : a.length = g.length) (h8 : a.length ≤ 1000) : impl_Garden_bySpeed_1.f k a x g = some (fa g a x) := by
  have key : ∀ (d i n : Nat) (b : Int), i + d = a.length → d < n → (b = -1 ∨ (0 ≤ b ∧ b < i)) → impl_Garden_bySpeed_1.l0 k n x g b a (a.length : Int) i = some (faL g a x d i b) := by
    intro d
    induction d with
    | zero =>
      intro i n b hi hn hb
      cases n with
      | zero => omega
      | succ n =>
        simp only [impl_Garden_bySpeed_1.l0, impl_Garden_bySpeed_1.s0]
        rw [if_neg (by omega)]; rfl
    | succ d ih =>
      intro i n b hi hn hb
      cases n with
      | zero => omega
      | succ n =>
        simp only [impl_Garden_bySpeed_1.l0, impl_Garden_bySpeed_1.s0, faL]
        rw [if_pos (by omega), if_pos (by omega), if_pos (by omega), w64n (by omega)]
        have i1 := ih (i + 1) n (i : Int) (by omega) (by omega) (.inr (by omega))
        have i2 := ih (i + 1) n b (by omega) (by omega) (by omega)
        by_cases c : x ≤ rd a i
        · rw [if_pos c]
          by_cases c2 : b = -1
          · rw [if_pos c2, if_pos ⟨c, .inl c2⟩]; exact i1
          · rw [if_neg c2, if_pos (by omega), if_pos (by omega), if_pos (by omega), if_pos (by omega)]
            by_cases c3 : rd g b < rd g i
            · rw [if_pos c3, if_pos ⟨c, .inr c3⟩]; exact i1
            · rw [if_neg c3, if_neg (by rintro ⟨_, q | q⟩ <;> contradiction)]; exact i2
        · rw [if_neg c, if_neg (fun q => c q.1)]; exact i2
  unfold impl_Garden_bySpeed_1.f impl_Garden_bySpeed_1.g fa
  exact key a.length 0 k (-1) (by omega) (by omega) (.inl rfl)
def Rule (g : List Int) (cut : List Int → Int) : Prop := ∀ a : List Int, a.length = g.length → cut a = -1 ∨ (0 ≤ cut a ∧ cut a < g.length)
noncomputable def cutH (a : List Int) : Int := (hi a : Int)
def cutS (g : List Int) (x : Int) (a : List Int) : Int := fa g a x
theorem rule_H {g : List Int} (hg : isG g = true) : Rule g cutH := fun a ha => by
  have hl := (isG_iff.1 hg).1
  have := (hi_is (a := a) (by omega) (by omega)).1
  exact .inr (by unfold cutH; omega)
theorem rule_S (g : List Int) (x : Int) : Rule g (cutS g x) := fun a ha => by
  rw [← ha]; exact fa_rng g a x
noncomputable def dayN (g : List Int) (cut : List Int → Int) (h : List Int) : List Int := if cut (ahd g h) = -1 then ahd g h else (ahd g h).set (cut (ahd g h)).toNat 0
noncomputable def hts (g : List Int) (cut : List Int → Int) : Nat → List Int
  | 0 => List.replicate g.length 0
  | d + 1 => dayN g cut (hts g cut d)
noncomputable def cutsN (g : List Int) (cut : List Int → Int) : Nat → List Int
  | 0 => []
  | d + 1 => cutsN g cut d ++ [cut (ahd g (hts g cut d))]
theorem ahd_ht {g h : List Int} (hg : isG g = true) {B : Int} (hh : Ht g h B) : Ht g (ahd g h) (B + 20) := by
  refine ⟨ahd_len hh.1, fun i hi => ?_⟩
  have h1 := rates hg hi
  have h2 := hh.2 i hi
  rw [ahd_rd hh.1 hi]; omega
theorem day_ht {g h : List Int} {cut : List Int → Int} (hg : isG g = true) (hr : Rule g cut) {B : Int} (hh : Ht g h B) : Ht g (dayN g cut h) (B + 20) := by
  have ha := ahd_ht hg hh
  unfold dayN
  by_cases c : cut (ahd g h) = -1
  · rw [if_pos c]; exact ha
  · rw [if_neg c]
    refine ⟨by rw [List.length_set]; exact ha.1, fun i hi => ?_⟩
    have hc := (hr _ ha.1).resolve_left c
    rw [rd_set (by rw [ha.1]; omega)]
    have := ha.2 i hi
    split <;> omega
theorem hts_ht {g : List Int} {cut : List Int → Int} (hg : isG g = true) (hr : Rule g cut) : ∀ d : Nat, Ht g (hts g cut d) (20 * d)
  | 0 => ⟨by simp [hts], fun i hi => by
    have : rd (hts g cut 0) i = 0 := by
      show rd (List.replicate g.length 0) i = 0
      rw [rd_nat, List.getD_eq_getElem?_getD, List.getElem?_replicate, if_pos hi]; rfl
    omega⟩
  | d + 1 => by
    have := day_ht hg hr (hts_ht hg hr d)
    rw [show (20 : Int) * ((d + 1 : Nat) : Int) = 20 * (d : Int) + 20 by omega]
    exact this
theorem cutsN_len (g : List Int) (cut : List Int → Int) : ∀ d, (cutsN g cut d).length = d
  | 0 => rfl
  | d + 1 => by unfold cutsN; rw [List.length_append, cutsN_len g cut d]; rfl
theorem hts_sm {g : List Int} {cut : List Int → Int} (hg : isG g = true) (hr : Rule g cut) {d : Nat} (hd : d ≤ 400) : Sm (hts g cut d) := by
  obtain ⟨h1, h2⟩ := hts_ht hg hr d
  have hl := (isG_iff.1 hg).1
  refine ⟨fun e => ?_, by omega, fun x hx => ?_⟩
  · rw [e] at h1; simp at h1; omega
  · obtain ⟨p, hp, rfl⟩ := List.getElem_of_mem hx
    have := h2 p (by omega)
    rw [rd_lt hp] at this
    omega
theorem dayH_f {k : Nat} {g h : List Int} (hk : 2097152 ≤ k) (hg : isG g = true) {B : Int} (hh : Ht g h B) (hB : B ≤ 10000) :
    impl_Garden_day_impl_byHeight.f k g h () = some (dayN g cutH h, ahd g h, cutH (ahd g h)) := by
  have hl := (isG_iff.1 hg).1
  have ha := (ahd_ht hg hh).1
  unfold impl_Garden_day_impl_byHeight.f
  rw [grown_f hk hg hh hB, Option.bind_some, clone_f (by omega), Option.bind_some, byHeight_f hk (by omega) (by omega), Option.bind_some]
  have := (hi_is (a := ahd g h) (by omega) (by omega)).1
  rw [if_neg (by omega), if_pos (by omega), if_pos (by omega)]
  unfold dayN cutH
  rw [if_neg (by omega)]
theorem dayS_f {k : Nat} {g h : List Int} {x : Int} (hk : 2097152 ≤ k) (hg : isG g = true) {B : Int} (hh : Ht g h B) (hB : B ≤ 10000) :
    impl_Garden_day_impl_Garden_bySpeed_1.f k g h (x, g) = some (dayN g (cutS g x) h, ahd g h, cutS g x (ahd g h)) := by
  have hl := (isG_iff.1 hg).1
  have ha := (ahd_ht hg hh).1
  unfold impl_Garden_day_impl_Garden_bySpeed_1.f
  rw [grown_f hk hg hh hB, Option.bind_some, clone_f (by omega), Option.bind_some]
  dsimp only
  rw [bySpeed_f hk ha (by omega), Option.bind_some]
  unfold dayN cutS
  have := fa_rng g (ahd g h) x
  by_cases c : fa g (ahd g h) x = -1
  · rw [if_pos c, if_pos c]
  · rw [if_neg c, if_neg c, if_pos (by omega), if_pos (by omega)]
theorem mgS_nil {α : Type} (x : ByteArray) : mgS ([] : List (ByteArray × α)) x = none := rfl
theorem mgS_cons {α : Type} (a : ByteArray) (y : α) (l : List (ByteArray × α)) (x : ByteArray) : mgS ((a, y) :: l) x = if x = a then some y else mgS l x := by
  show (match keyS x a with | true => some y | false => mget .str l x) = _
  by_cases h : x = a
  · rw [(keyS_iff x a).2 h, if_pos h]
  · rw [if_neg h]
    cases hk : keyS x a with
    | true => exact absurd ((keyS_iff x a).1 hk) h
    | false => rfl
theorem mpS_nil {α : Type} (x : ByteArray) (y : α) : mpS ([] : List (ByteArray × α)) x y = [(x, y)] := rfl
theorem mpS_cons {α : Type} (a : ByteArray) (z : α) (l : List (ByteArray × α)) (x : ByteArray) (y : α) : mpS ((a, z) :: l) x y = if x = a then (x, y) :: l else (a, z) :: mpS l x y := by
  show (match keyS x a with | true => (x, y) :: l | false => (a, z) :: mput .str l x y) = _
  by_cases h : x = a
  · rw [(keyS_iff x a).2 h, if_pos h]
  · rw [if_neg h]
    cases hk : keyS x a with
    | true => exact absurd ((keyS_iff x a).1 hk) h
    | false => rfl
theorem mgS_mpS {α : Type} (l : List (ByteArray × α)) (x z : ByteArray) (y : α) : mgS (mpS l x y) z = if z = x then some y else mgS l z := by
  induction l with
  | nil => rw [mpS_nil, mgS_cons]
  | cons p l ih =>
    obtain ⟨a, w⟩ := p
    rw [mpS_cons]
    by_cases h : x = a
    · subst h
      rw [if_pos rfl, mgS_cons, mgS_cons]
      by_cases e : z = x
      · rw [if_pos e, if_pos e]
      · rw [if_neg e, if_neg e, if_neg e]
    · rw [if_neg h, mgS_cons, mgS_cons, ih]
      by_cases e : z = a
      · rw [if_pos e, if_pos e, if_neg (fun q => h (q.symm.trans e))]
      · rw [if_neg e, if_neg e]
def srch (H : Nat → List Int) : Nat → Nat → Option (Nat × Nat)
  | 0, _ => none
  | s + 1, d => match (List.range' 0 d).find? fun j => decide (H j = H d) with
    | some j => some (j, d)
    | none => srch H s (d + 1)
theorem srch_some {H : Nat → List Int} : ∀ {s d : Nat} {p : Nat × Nat}, srch H s d = some p → p.1 < p.2 ∧ p.2 < d + s ∧ H p.1 = H p.2
  | 0, _, _, h => by cases h
  | s + 1, d, p, h => by
    unfold srch at h
    split at h
    · rename_i j hj
      cases h
      have h1 := List.mem_of_find?_eq_some hj
      have h2 := List.find?_some hj
      rw [List.mem_range'_1] at h1
      exact ⟨by show j < d; omega, by show d < d + (s + 1); omega, of_decide_eq_true h2⟩
    · obtain ⟨a, b, c⟩ := srch_some h
      exact ⟨a, by omega, c⟩
def SeenI (H : Nat → List Int) (d : Nat) (seen : List (ByteArray × Int)) : Prop := ∀ l, Sm l → mgS seen (keyOf l) = ((List.range' 0 d).find? fun j => decide (H j = l)).map fun j : Nat => (j : Int)
theorem SeenI.next {H : Nat → List Int} {d : Nat} {seen : List (ByteArray × Int)} (h : SeenI H d seen) (hs : Sm (H d)) (hn : (List.range' 0 d).find? (fun j => decide (H j = H d)) = none) : SeenI H (d + 1) (mpS seen (keyOf (H d)) d) := by
  intro l hl
  rw [mgS_mpS, List.range'_1_concat, List.find?_append, Nat.zero_add]
  by_cases c : l = H d
  · subst c
    rw [if_pos rfl, hn]
    simp
  · rw [if_neg (fun e => c (key_inj hl hs e)), h l hl]
    have : List.find? (fun j => decide (H j = l)) [d] = none := by
      rw [List.find?_cons, decide_eq_false (fun e => c e.symm)]; rfl
    rw [this, Option.or_none]
def outI (C : Nat → List Int) : Option (Nat × Nat) → List Int × Int × Int
  | some (j, e) => ((C e).drop j, j, 0)
  | none => ([], 0, 3)
theorem roundH_run {k : Nat} {g : List Int} (hk : 2097152 ≤ k) (hg : isG g = true) : ∀ (s d n : Nat) (seen : List (ByteArray × Int)), d + s = 201 → s < n → SeenI (hts g cutH) d seen → (d ≤ 200 ∨ s = 0) → 1 ≤ s →
    impl_Garden_round_impl_byHeight.l0 k n () g seen (hts g cutH d) (cutsN g cutH d) = some (outI (cutsN g cutH) (srch (hts g cutH) s d)) := by
  have hr := rule_H hg
  have hl := (isG_iff.1 hg).1
  intro s
  induction s with
  | zero => intro d n seen _ _ _ _ h; omega
  | succ s ih =>
    intro d n seen hd hn hS _ _
    cases n with
    | zero => omega
    | succ n =>
      have hsm := hts_sm hg hr (d := d) (by omega)
      have hC := cutsN_len g cutH d
      simp only [impl_Garden_round_impl_byHeight.l0, impl_Garden_round_impl_byHeight.s0]
      rw [show (ByteArray.mk #[44]) = comma from rfl, joined_f hk hsm, Option.bind_some, hS _ hsm]
      unfold srch
      cases hf : (List.range' 0 d).find? fun j => decide (hts g cutH j = hts g cutH d) with
      | some j =>
        have hj := List.mem_of_find?_eq_some hf
        rw [List.mem_range'_1] at hj
        rw [Option.map_some, if_pos (show (some ((j : Nat) : Int)).isSome = true from rfl), Option.getD_some, if_pos (by omega), if_pos (by omega), if_pos (by omega), Int.toNat_natCast, Int.toNat_natCast, List.take_length, clone_f (by rw [List.length_drop]; omega), Option.bind_some]
        rfl
      | none =>
        rw [Option.map_none, if_neg (by simp)]
        by_cases c : d = 200
        · rw [if_pos (by omega)]
          obtain rfl : s = 0 := by omega
          rfl
        · rw [if_neg (by omega), length_f, Option.bind_some, dayH_f hk hg (hts_ht hg hr d) (by omega), Option.bind_some, if_pos (by omega), hC]
          exact ih (d + 1) n _ (by omega) (by omega) (hS.next hsm hf) (by omega) (by omega)
theorem roundH_f {k : Nat} {g : List Int} (hk : 2097152 ≤ k) (hg : isG g = true) : impl_Garden_round_impl_byHeight.f k g () = some (outI (cutsN g cutH) (srch (hts g cutH) 201 0)) := by
  have hl := (isG_iff.1 hg).1
  unfold impl_Garden_round_impl_byHeight.f impl_Garden_round_impl_byHeight.g impl_Garden_many.f
  rw [length_f, Option.bind_some, Option.bind_some, if_pos (by omega), if_pos (by omega), if_pos (by omega), Int.toNat_natCast]
  exact roundH_run hk hg 201 0 k [] (by omega) (by omega) (fun l _ => rfl) (by omega) (by omega)
theorem roundS_run {k : Nat} {g : List Int} {x : Int} (hk : 2097152 ≤ k) (hg : isG g = true) : ∀ (s d n : Nat) (seen : List (ByteArray × Int)), d + s = 201 → s < n → SeenI (hts g (cutS g x)) d seen → (d ≤ 200 ∨ s = 0) → 1 ≤ s →
    impl_Garden_round_impl_Garden_bySpeed_1.l0 k n (x, g) g seen (hts g (cutS g x) d) (cutsN g (cutS g x) d) = some (outI (cutsN g (cutS g x)) (srch (hts g (cutS g x)) s d)) := by
  have hr := rule_S g x
  have hl := (isG_iff.1 hg).1
  intro s
  induction s with
  | zero => intro d n seen _ _ _ _ h; omega
  | succ s ih =>
    intro d n seen hd hn hS _ _
    cases n with
    | zero => omega
    | succ n =>
      have hsm := hts_sm hg hr (d := d) (by omega)
      have hC := cutsN_len g (cutS g x) d
      simp only [impl_Garden_round_impl_Garden_bySpeed_1.l0, impl_Garden_round_impl_Garden_bySpeed_1.s0]
      rw [show (ByteArray.mk #[44]) = comma from rfl, joined_f hk hsm, Option.bind_some, hS _ hsm]
      unfold srch
      cases hf : (List.range' 0 d).find? fun j => decide (hts g (cutS g x) j = hts g (cutS g x) d) with
      | some j =>
        have hj := List.mem_of_find?_eq_some hf
        rw [List.mem_range'_1] at hj
        rw [Option.map_some, if_pos (show (some ((j : Nat) : Int)).isSome = true from rfl), Option.getD_some, if_pos (by omega), if_pos (by omega), if_pos (by omega), Int.toNat_natCast, Int.toNat_natCast, List.take_length, clone_f (by rw [List.length_drop]; omega), Option.bind_some]
        rfl
      | none =>
        rw [Option.map_none, if_neg (by simp)]
        by_cases c : d = 200
        · rw [if_pos (by omega)]
          obtain rfl : s = 0 := by omega
          rfl
        · rw [if_neg (by omega), length_f, Option.bind_some, dayS_f hk hg (hts_ht hg hr d) (by omega), Option.bind_some, if_pos (by omega), hC]
          exact ih (d + 1) n _ (by omega) (by omega) (hS.next hsm hf) (by omega) (by omega)
theorem roundS_f {k : Nat} {g : List Int} {x : Int} (hk : 2097152 ≤ k) (hg : isG g = true) : impl_Garden_round_impl_Garden_bySpeed_1.f k g (x, g) = some (outI (cutsN g (cutS g x)) (srch (hts g (cutS g x)) 201 0)) := by
  have hl := (isG_iff.1 hg).1
  unfold impl_Garden_round_impl_Garden_bySpeed_1.f impl_Garden_round_impl_Garden_bySpeed_1.g impl_Garden_many.f
  rw [length_f, Option.bind_some, Option.bind_some, if_pos (by omega), if_pos (by omega), if_pos (by omega), Int.toNat_natCast]
  exact roundS_run hk hg 201 0 k [] (by omega) (by omega) (fun l _ => rfl) (by omega) (by omega)
theorem same_f {k : Nat} {a b : List Int} (hk : 2097152 ≤ k) (e : a.length = b.length) (h8 : a.length ≤ 1000) : spec_l06Same.f k a b = some (decide (a = b)) := by
  have key : ∀ (d i n : Nat), i + d = a.length → d < n → (∀ j : Nat, j < i → rd a j = rd b j) → spec_l06Same.l0 k n a b i = some (decide (a = b)) := by
    intro d
    induction d with
    | zero =>
      intro i n hi hn hq
      cases n with
      | zero => omega
      | succ n =>
        simp only [spec_l06Same.l0, spec_l06Same.s0]
        rw [if_neg (by omega), decide_eq_true (rd_ext e fun j hj => hq j (by omega))]
    | succ d ih =>
      intro i n hi hn hq
      cases n with
      | zero => omega
      | succ n =>
        simp only [spec_l06Same.l0, spec_l06Same.s0]
        rw [if_pos (by omega), if_pos (by omega), if_pos (by omega), if_pos (by omega), if_pos (by omega), w64n (by omega)]
        by_cases c : rd a i = rd b i
        · rw [if_pos c]
          refine ih (i + 1) n (by omega) (by omega) fun j hj => ?_
          by_cases e2 : j = i
          · rw [e2]; exact c
          · exact hq j (by omega)
        · rw [if_neg c, decide_eq_false (fun q => c (by rw [q]))]
  unfold spec_l06Same.f spec_l06Same.g
  exact key a.length 0 k (by omega) (by omega) (fun j hj => by omega)
noncomputable def cutX (g : List Int) (x : Int) : List Int → Int := if 0 < x then cutS g x else cutH
theorem rule_X {g : List Int} (hg : isG g = true) (x : Int) : Rule g (cutX g x) := by
  unfold cutX
  split
  · exact rule_S g x
  · exact rule_H hg
def outS (C : Nat → List Int) : Option (Nat × Nat) → List Int × Int × Bool
  | some (j, e) => ((C e).drop j, j, true)
  | none => ([], 0, false)
theorem rdOf_map {H : Nat → List Int} {m j : Nat} (h : j < m) : rdOf ([] : List Int) ((List.range m).map H) (j : Int) = H j := by
  rw [rdOf_lt (by simpa using h)]; simp
theorem round_l1 {k : Nat} {g : List Int} {x : Int} {H : Nat → List Int} {C : List Int} {d : Nat} {r0 : Int → List Int → List (List Int) → List Int → Int → Option (List Int × Int × Bool)} (hk : 2097152 ≤ k) (hd : d < 200) (hC : C.length = d + 1) (hH : ∀ j, j ≤ d + 1 → (H j).length = g.length) (hl : g.length ≤ 8) :
    ∀ (s j n : Nat), j + s = d + 1 → s < n → spec_l06Round.l1 k r0 n x g ((List.range (d + 1)).map H) C d (H (d + 1)) j =
      match (List.range' j s).find? fun i => decide (H i = H (d + 1)) with
      | some i => some (C.drop i, (i : Int), true)
      | none => r0 x g ((List.range (d + 2)).map H) C ((d + 1 : Nat) : Int) := by
  intro s
  induction s with
  | zero =>
    intro j n hj hn
    cases n with
    | zero => omega
    | succ n =>
      simp only [spec_l06Round.l1, spec_l06Round.s1]
      rw [if_neg (by omega), if_pos (by simp; omega), w64n (by omega)]
      have : (List.range (d + 2)).map H = (List.range (d + 1)).map H ++ [H (d + 1)] := by rw [List.range_succ, List.map_append]; rfl
      rw [this]; rfl
  | succ s ih =>
    intro j n hj hn
    cases n with
    | zero => omega
    | succ n =>
      simp only [spec_l06Round.l1, spec_l06Round.s1]
      rw [if_pos (by omega), if_pos (by omega), if_pos (by simp; omega), rdOf_map (by omega), same_f hk (by rw [hH j (by omega), hH (d + 1) (by omega)]) (by rw [hH j (by omega)]; omega), Option.bind_some, List.range'_succ, List.find?_cons]
      by_cases c : H j = H (d + 1)
      · rw [if_pos (by rw [decide_eq_true c]), if_pos (by omega), if_pos (by omega), if_pos (by omega), Int.toNat_natCast, Int.toNat_natCast, List.take_length, own_f (by rw [List.length_drop]; omega), Option.bind_some, decide_eq_true c]
      · rw [if_neg (by rw [decide_eq_false c]; simp), w64n (by omega), ih (j + 1) n (by omega) (by omega), decide_eq_false c]
theorem round_l0 {k : Nat} {g : List Int} {x : Int} (hk : 2097152 ≤ k) (hg : isG g = true) : ∀ (s d n : Nat), d + s = 200 → s < n →
    spec_l06Round.l0 k n x g ((List.range (d + 1)).map (hts g (cutX g x))) (cutsN g (cutX g x) d) d = some (outS (cutsN g (cutX g x)) (srch (hts g (cutX g x)) s (d + 1))) := by
  have hr := rule_X hg x
  have hl := (isG_iff.1 hg).1
  intro s
  induction s with
  | zero =>
    intro d n hd hn
    cases n with
    | zero => omega
    | succ n =>
      simp only [spec_l06Round.l0, spec_l06Round.s0]
      rw [if_neg (by omega)]; rfl
  | succ s ih =>
    intro d n hd hn
    cases n with
    | zero => omega
    | succ n =>
      have hh := hts_ht hg hr d
      have ha := (ahd_ht hg hh).1
      have hC := cutsN_len g (cutX g x) d
      have hC1 : cutsN g (cutX g x) (d + 1) = cutsN g (cutX g x) d ++ [cutX g x (ahd g (hts g (cutX g x) d))] := rfl
      have hH1 : hts g (cutX g x) (d + 1) = dayN g (cutX g x) (hts g (cutX g x) d) := rfl
      have fin : spec_l06Round.l1 k (spec_l06Round.l0 k n) k x g ((List.range (d + 1)).map (hts g (cutX g x))) (cutsN g (cutX g x) (d + 1)) d (hts g (cutX g x) (d + 1)) 0 = some (outS (cutsN g (cutX g x)) (srch (hts g (cutX g x)) (s + 1) (d + 1))) := by
        rw [show (0 : Int) = ((0 : Nat) : Int) from rfl, round_l1 (H := hts g (cutX g x)) hk (by omega) (cutsN_len _ _ _) (fun j hj => (hts_ht hg hr j).1) (by omega) (d + 1) 0 k (by omega) (by omega)]
        unfold srch
        cases hf : (List.range' 0 (d + 1)).find? fun i => decide (hts g (cutX g x) i = hts g (cutX g x) (d + 1)) with
        | some j => rfl
        | none => exact ih (d + 1) n (by omega) (by omega)
      simp only [spec_l06Round.l0, spec_l06Round.s0]
      rw [if_pos (by omega), if_pos (by omega), if_pos (by simp; omega), rdOf_map (by omega), grow_f hk hg hh (by omega), Option.bind_some, highest_f hk (by omega) (by omega), Option.bind_some]
      by_cases c : 0 < x
      · have e : cutX g x = cutS g x := if_pos c
        have hc := fa_rng g (ahd g (hts g (cutX g x) d)) x
        rw [if_pos c, fastest_f hk ha (by omega), Option.bind_some]
        have e1 : cutX g x (ahd g (hts g (cutX g x) d)) = fa g (ahd g (hts g (cutX g x) d)) x := by rw [show cutX g x (ahd g (hts g (cutX g x) d)) = cutS g x (ahd g (hts g (cutX g x) d)) from congrFun e _]; rfl
        rw [hC1, hH1, dayN, e1] at fin
        by_cases c2 : fa g (ahd g (hts g (cutX g x) d)) x = -1
        · rw [if_pos c2] at fin
          rw [if_neg (by omega), if_pos (by omega)]
          exact fin
        · rw [if_neg c2] at fin
          rw [if_pos (by omega), if_pos (by omega), if_pos (by omega), if_pos (by omega)]
          exact fin
      · have e : cutX g x = cutH := if_neg c
        have e1 : cutX g x (ahd g (hts g (cutX g x) d)) = (hi (ahd g (hts g (cutX g x) d)) : Int) := by rw [show cutX g x (ahd g (hts g (cutX g x) d)) = cutH (ahd g (hts g (cutX g x) d)) from congrFun e _]; rfl
        have hc := (hi_is (a := ahd g (hts g (cutX g x) d)) (by omega) (by omega)).1
        rw [hC1, hH1, dayN, e1, if_neg (by omega)] at fin
        rw [if_neg c, if_pos (by omega), if_pos (by omega), if_pos (by omega), if_pos (by omega)]
        exact fin
theorem round_f {k : Nat} {g : List Int} {x : Int} (hk : 2097152 ≤ k) (hg : isG g = true) : spec_l06Round.f k g x = some (outS (cutsN g (cutX g x)) (srch (hts g (cutX g x)) 200 1)) := by
  have hl := (isG_iff.1 hg).1
  unfold spec_l06Round.f spec_l06Round.g
  rw [if_pos (by omega), if_pos (by omega), if_pos (by omega), Int.toNat_natCast]
  exact round_l0 hk hg 200 0 k (by omega) (by omega)
theorem srch_zero (H : Nat → List Int) (s : Nat) : srch H (s + 1) 0 = srch H s 1 := rfl
theorem srch_start (H : Nat → List Int) : srch H 201 0 = srch H 200 1 := srch_zero H 200
noncomputable def turnsR (g : List Int) (x : Int) : List Int × Int × Int := if isG g = true then outI (cutsN g (cutX g x)) (srch (hts g (cutX g x)) 201 0) else ([], 0, 1)
noncomputable def speedR (g : List Int) (x : Int) : List Int × Int × Int := if isG g = true then (if 1 ≤ x ∧ x ≤ 1000 then outI (cutsN g (cutX g x)) (srch (hts g (cutX g x)) 201 0) else ([], 0, 2)) else ([], 0, 1)
theorem cutX_H (g : List Int) : cutX g 0 = cutH := if_neg (by omega)
theorem cutX_S {g : List Int} {x : Int} (h : 0 < x) : cutX g x = cutS g x := if_pos h
theorem outS_sel (C : Nat → List Int) (p : Option (Nat × Nat)) : (if (outS C p).2.2 = true then some ((outS C p).1, (outS C p).2.1, (0 : Int)) else some ([], 0, 3)) = some (outI C p) := by
  cases p with
  | none => rfl
  | some p => rfl
theorem impl_TurnsByHeight_f {k : Nat} {g : List Int} (hk : 2097152 ≤ k) (hl : g.length ≤ 1048576) : impl_TurnsByHeight.f k g = some (turnsR g 0) := by
  unfold impl_TurnsByHeight.f turnsR
  rw [gardenCode_f hk hl, Option.bind_some]
  by_cases h : isG g = true
  · rw [if_pos h, if_pos h, if_pos rfl, if_pos rfl, cutX_H, roundH_f hk h, Option.bind_some]
  · rw [if_neg h, if_neg h, if_neg (by omega)]
theorem spec_TurnsByHeight_f {k : Nat} {g : List Int} (hk : 2097152 ≤ k) (hl : g.length ≤ 1048576) : spec_TurnsByHeight.f k g = some (turnsR g 0) := by
  unfold spec_TurnsByHeight.f turnsR
  rw [l06Is_f hk hl, Option.bind_some]
  by_cases h : isG g = true
  · rw [if_pos h, if_pos h, round_f hk h, Option.bind_some, srch_start]
    exact outS_sel _ _
  · rw [if_neg h, if_neg h]
theorem impl_TurnsBySpeed_f {k : Nat} {g : List Int} {x : Int} (hk : 2097152 ≤ k) (hl : g.length ≤ 1048576) : impl_TurnsBySpeed.f k g x = some (speedR g x) := by
  unfold impl_TurnsBySpeed.f impl_isTower.f speedR
  rw [within_f, Option.bind_some, Option.bind_some, gardenCode_f hk hl, Option.bind_some]
  by_cases h : isG g = true
  · rw [if_pos h, if_pos h]
    by_cases c : 1 ≤ x ∧ x ≤ 1000
    · rw [if_pos (decide_eq_true c), if_pos rfl, if_pos c, cutX_S (by omega)]
      unfold impl_Garden_bySpeed.f
      rw [Option.bind_some, roundS_f hk h, Option.bind_some]
    · have e : (if decide (1 ≤ x ∧ x ≤ 1000) = true then (0 : Int) else 2) = 2 := if_neg (by rw [decide_eq_false c]; simp)
      rw [e, if_neg (by omega), if_neg c]
  · rw [if_neg h, if_neg h, if_neg (by omega)]
theorem spec_TurnsBySpeed_f {k : Nat} {g : List Int} {x : Int} (hk : 2097152 ≤ k) (hl : g.length ≤ 1048576) : spec_TurnsBySpeed.f k g x = some (speedR g x) := by
  unfold spec_TurnsBySpeed.f speedR
  rw [l06Is_f hk hl, Option.bind_some]
  by_cases h : isG g = true
  · rw [if_neg (by rw [h]; simp), if_pos h, l01In_f, Option.bind_some]
    by_cases c : 1 ≤ x ∧ x ≤ 1000
    · rw [if_neg (by rw [decide_eq_true c]; simp), if_pos c, round_f hk h, Option.bind_some, srch_start]
      exact outS_sel _ _
    · rw [if_pos (by rw [decide_eq_false c]; rfl), if_neg c]
  · rw [if_pos (by simpa using h), if_neg h]
noncomputable def top (g : List Int) : Nat → Int
  | 0 => 0
  | d + 1 => maxV (top g d) (grt (ahd g (hts g cutH d)))
theorem grt_hi {a : List Int} (h1 : 1 ≤ a.length) (h8 : a.length ≤ 1000) (h0 : ∀ i : Nat, i < a.length → 0 ≤ rd a i) : grt a = rd a (hi a : Nat) := by
  obtain ⟨q1, q2, _⟩ := hi_is h1 h8
  have u : grt a ≤ rd a (hi a : Nat) := grt_le.2 ⟨h0 _ q1, fun y hy => by
    obtain ⟨p, hp, rfl⟩ := List.getElem_of_mem hy
    rw [← rd_lt hp]; exact q2 p hp⟩
  have v := grt_mem (rd_mem q1)
  omega
theorem impl_high {k : Nat} {g : List Int} (hk : 2097152 ≤ k) (hg : isG g = true) {m : Nat} (hm : m ≤ 200) : ∀ (s d n : Nat), d + s = m → s < n →
    impl_HighestByHeight.l0 k n g (hts g cutH d) (top g d) (m : Int) (d : Int) = some (top g m, 0) := by
  have hr := rule_H hg
  have hl := (isG_iff.1 hg).1
  intro s
  induction s with
  | zero =>
    intro d n hd hn
    obtain rfl : d = m := by omega
    cases n with
    | zero => omega
    | succ n =>
      simp only [impl_HighestByHeight.l0, impl_HighestByHeight.s0]
      rw [if_neg (by omega)]
  | succ s ih =>
    intro d n hd hn
    cases n with
    | zero => omega
    | succ n =>
      have hh := hts_ht hg hr d
      have ha := (ahd_ht hg hh).1
      simp only [impl_HighestByHeight.l0, impl_HighestByHeight.s0]
      rw [if_pos (by omega), dayH_f hk hg hh (by omega), Option.bind_some]
      dsimp only
      rw [impl_greatest_f hk (by omega), Option.bind_some, w64n (by omega)]
      exact ih (d + 1) n (by omega) (by omega)
theorem spec_high {k : Nat} {g : List Int} (hk : 2097152 ≤ k) (hg : isG g = true) {m : Nat} (hm : m ≤ 200) : ∀ (s d n : Nat), d + s = m → s < n →
    spec_HighestByHeight.l0 k n (s : Int) g (hts g cutH d) (top g d) = some (top g m, 0) := by
  have hr := rule_H hg
  have hl := (isG_iff.1 hg).1
  intro s
  induction s with
  | zero =>
    intro d n hd hn
    obtain rfl : d = m := by omega
    cases n with
    | zero => omega
    | succ n =>
      simp only [spec_HighestByHeight.l0, spec_HighestByHeight.s0]
      rw [if_neg (by omega)]
  | succ s ih =>
    intro d n hd hn
    cases n with
    | zero => omega
    | succ n =>
      have hh := hts_ht hg hr d
      have ha := ahd_ht hg hh
      have hA := ha.1
      have hc := (hi_is (a := ahd g (hts g cutH d)) (by omega) (by omega)).1
      have e := grt_hi (a := ahd g (hts g cutH d)) (by omega) (by omega) (fun i hi => (ha.2 i (by omega)).1)
      have ed : (ahd g (hts g cutH d)).set (hi (ahd g (hts g cutH d))) 0 = hts g cutH (d + 1) := by
        show _ = dayN g cutH (hts g cutH d)
        unfold dayN cutH
        rw [if_neg (by omega), Int.toNat_natCast]
      have et : maxV (top g d) (rd (ahd g (hts g cutH d)) (hi (ahd g (hts g cutH d)) : Nat)) = top g (d + 1) := by rw [← e]; rfl
      simp only [spec_HighestByHeight.l0, spec_HighestByHeight.s0]
      rw [if_pos (by omega), grow_f hk hg hh (by omega), Option.bind_some, highest_f hk (by omega) (by omega), Option.bind_some, if_pos (by omega), if_pos (by omega), if_pos (by omega), if_pos (by omega), Int.toNat_natCast, ed, et, show wrap64 (((s + 1 : Nat) : Int) - 1) = (s : Int) by rw [w64 (by omega) (by omega)]; omega]
      exact ih (d + 1) n (by omega) (by omega)
noncomputable def highR (g : List Int) (n : Int) : Int × Int := if isG g = true then (if 1 ≤ n ∧ n ≤ 200 then (top g n.toNat, 0) else (0, 2)) else (0, 1)
theorem impl_HighestByHeight_f {k : Nat} {g : List Int} {n : Int} (hk : 2097152 ≤ k) (hl : g.length ≤ 1048576) : impl_HighestByHeight.f k g n = some (highR g n) := by
  unfold impl_HighestByHeight.f impl_HighestByHeight.g highR
  rw [within_f, Option.bind_some, gardenCode_f hk hl, Option.bind_some]
  by_cases h : isG g = true
  · have h8 := (isG_iff.1 h).1
    rw [if_pos h, if_pos h]
    by_cases c : 1 ≤ n ∧ n ≤ 200
    · obtain ⟨m, rfl⟩ := Int.eq_ofNat_of_zero_le (show 0 ≤ n by omega)
      rw [if_pos (decide_eq_true c), if_pos rfl, if_pos c, impl_Garden_many.f, length_f, Option.bind_some, Option.bind_some, if_pos (by omega), if_pos (by omega), if_pos (by omega), Int.toNat_natCast, Int.toNat_natCast]
      exact impl_high hk h (by omega) m 0 k (by omega) (by omega)
    · have e : (if decide (1 ≤ n ∧ n ≤ 200) = true then (0 : Int) else 2) = 2 := if_neg (by rw [decide_eq_false c]; simp)
      rw [e, if_neg (by omega), if_neg c]
  · rw [if_neg h, if_neg h, if_neg (by omega)]
theorem spec_HighestByHeight_f {k : Nat} {g : List Int} {n : Int} (hk : 2097152 ≤ k) (hl : g.length ≤ 1048576) : spec_HighestByHeight.f k g n = some (highR g n) := by
  unfold spec_HighestByHeight.f spec_HighestByHeight.g highR
  rw [l06Is_f hk hl, Option.bind_some]
  by_cases h : isG g = true
  · have h8 := (isG_iff.1 h).1
    rw [if_neg (by rw [h]; simp), if_pos h, l01In_f, Option.bind_some]
    by_cases c : 1 ≤ n ∧ n ≤ 200
    · obtain ⟨m, rfl⟩ := Int.eq_ofNat_of_zero_le (show 0 ≤ n by omega)
      rw [if_neg (by rw [decide_eq_true c]; simp), if_pos c, if_pos (by omega), if_pos (by omega), if_pos (by omega), Int.toNat_natCast, Int.toNat_natCast]
      exact spec_high hk h (by omega) m 0 k (by omega) (by omega)
    · rw [if_pos (by rw [decide_eq_false c]; rfl), if_neg c]
  · rw [if_pos (by simpa using h), if_neg h]
theorem sumG_f {k : Nat} {l : List Int} (hk : 2097152 ≤ k) (hl : l.length ≤ 8) (hp : Plots l) : spec_l06Sum.f k l = some (l.sum, grt l) := by
  have key : ∀ (d i n : Nat) (s m : Int), l.length - i = d → i ≤ l.length → d < n → 0 ≤ s → s ≤ 20 * i →
      spec_l06Sum.l0 k n l s m i = some (s + (l.drop i).sum, (l.drop i).foldl maxV m) := by
    intro d
    induction d with
    | zero =>
      intro i n s m hd hi hn h0 h1
      cases n with
      | zero => omega
      | succ n =>
        simp only [spec_l06Sum.l0, spec_l06Sum.s0]
        rw [if_neg (by omega), List.drop_eq_nil_of_le (by omega)]
        simp
    | succ d ih =>
      intro i n s m hd hi hn h0 h1
      cases n with
      | zero => omega
      | succ n =>
        simp only [spec_l06Sum.l0, spec_l06Sum.s0]
        have hr := hp _ (rd_mem (l := l) (i := i) (by omega))
        rw [if_pos (by omega), if_pos (by omega), if_pos (by omega), if_pos (by omega), if_pos (by omega), w64n (by omega), w64 (by omega) (by omega), drop_cons (by omega)]
        rw [ih (i + 1) n (s + rd l i) (maxV m (rd l i)) (by omega) (by omega) (by omega) (by omega) (by omega), List.sum_cons, Int.add_assoc, List.foldl_cons]
  unfold spec_l06Sum.f spec_l06Sum.g
  exact (key l.length 0 k 0 0 (by omega) (by omega) (by omega) (by omega) (by omega)).trans (by simp [grt])
theorem impl_SumOfRates_f {k : Nat} {g : List Int} (hk : 2097152 ≤ k) (hg : isG g = true) : impl_SumOfRates.f k g = some (g.sum, 0) := by
  have h := isG_iff.1 hg
  unfold impl_SumOfRates.f
  rw [gardenCode_f hk (by omega), Option.bind_some, if_pos hg, if_pos rfl, if_pos rfl, sum_f hk h.1.2 h.2, Option.bind_some]
noncomputable def tasksR (g : List Int) (m : Int) : List Int × Int := if isG g = true then (if grt g ≤ m ∧ m ≤ 1000 then (if isT (towT g m) = true then (towT g m, 0) else ([], 4)) else ([], 2)) else ([], 1)
theorem tasksR_in {g : List Int} {m : Int} (h : isG g = true) (c : grt g ≤ m ∧ m ≤ 1000) : tasksR g m = if isT (towT g m) = true then (towT g m, 0) else ([], 4) := by
  unfold tasksR; rw [if_pos h, if_pos c]
theorem tasksR_out {g : List Int} {m : Int} (h : isG g = true) (c : ¬ (grt g ≤ m ∧ m ≤ 1000)) : tasksR g m = ([], 2) := by
  unfold tasksR; rw [if_pos h, if_neg c]
theorem tasksR_no {g : List Int} {m : Int} (h : ¬ isG g = true) : tasksR g m = ([], 1) := by
  unfold tasksR; rw [if_neg h]
theorem impl_TasksOfGarden_f {k : Nat} {g : List Int} {m : Int} (hk : 2097152 ≤ k) (hl : g.length ≤ 1048576) : impl_TasksOfGarden.f k g m = some (tasksR g m) := by
  unfold impl_TasksOfGarden.f
  rw [impl_greatest_f hk hl, Option.bind_some, gardenCode_f hk hl, Option.bind_some, gardenCode_f hk hl, Option.bind_some]
  by_cases h : isG g = true
  · have h8 := isG_iff.1 h
    rw [if_pos h, if_pos h]
    by_cases c : grt g ≤ m
    · rw [if_pos c]
      by_cases c2 : m ≤ 1000
      · have hx : ∀ a ∈ g, a ≤ m := fun a ha => Int.le_trans (grt_mem ha) c
        have h0 : 0 ≤ m := Int.le_trans (grt_nonneg g) c
        have e : (if decide (m ≤ 1000) = true then (0 : Int) else 2) = 0 := if_pos (decide_eq_true c2)
        rw [tasksR_in h ⟨c, c2⟩, e, if_pos (show (0 : Int) = 0 from rfl), tasks_f (k := k) hk h8.1.2 h8.2 hx h0 c2, Option.bind_some, isTasks_f hk (by rw [towT_len]; omega), Option.bind_some]
        by_cases c3 : isT (towT g m) = true
        · rw [if_pos c3, if_pos c3]
        · rw [if_neg c3, if_neg c3]
      · have e : (if decide (m ≤ 1000) = true then (0 : Int) else 2) = 2 := if_neg (by rw [decide_eq_false c2]; simp)
        rw [e, if_neg (by omega), tasksR_out h (fun q => c2 q.2)]
    · rw [if_neg c, tasksR_out h (fun q => c q.1)]; rfl
  · rw [if_neg h, if_neg h, tasksR_no h]
    by_cases c : grt g ≤ m
    · rw [if_pos c]; rfl
    · rw [if_neg c]; rfl
theorem spec_TasksOfGarden_f {k : Nat} {g : List Int} {m : Int} (hk : 2097152 ≤ k) (hl : g.length ≤ 1048576) : spec_TasksOfGarden.f k g m = some (tasksR g m) := by
  unfold spec_TasksOfGarden.f tasksR
  rw [l06Is_f hk hl, Option.bind_some]
  by_cases h : isG g = true
  · have h8 := isG_iff.1 h
    rw [if_pos h, if_pos h, sumG_f hk h8.1.2 h8.2, Option.bind_some, l01In_f, Option.bind_some]
    by_cases c : grt g ≤ m ∧ m ≤ 1000
    · have hx : ∀ a ∈ g, a ≤ m := fun a ha => Int.le_trans (grt_mem ha) c.1
      have h0 : 0 ≤ m := Int.le_trans (grt_nonneg g) c.1
      rw [if_pos (decide_eq_true c), if_pos c, l06Tasks_f hk h8.1.2 h8.2 hx h0 c.2, Option.bind_some, ← towT_isT h8.1 h8.2 hx]
      by_cases c3 : isT (towT g m) = true
      · rw [if_pos c3, if_pos rfl, if_pos c3]
      · rw [if_neg c3, if_neg (by simp), if_neg c3]
    · rw [if_neg (by rw [decide_eq_false c]; simp), if_neg c]
  · rw [if_neg h, if_neg h]
theorem drawOf_ok {k : Nat} (hk : 2097152 ≤ k) {s : SrcT} (S : Src s) : Gv (spec_l06DrawOf.f k s) fun r => Src r.2 ∧ r.1.length ≤ 100 := by
  have key : ∀ (d n : Nat) (out : List Int) (w : Int) (s : SrcT), Src s → out.length + d ≤ 100 → d < n → Gv (spec_l06DrawOf.l0 k n s.1 s.2.1 s.2.2 out w (d : Int)) fun r => Src r.2 ∧ r.1.length ≤ 100 := by
    intro d
    induction d with
    | zero =>
      intro n out w s S h1 hn
      cases n with
      | zero => omega
      | succ n =>
        simp only [spec_l06DrawOf.l0, spec_l06DrawOf.s0]
        exact Gv.neg (by omega) (Gv.ok ⟨S, by omega⟩)
    | succ d ih =>
      intro n out w s S h1 hn
      cases n with
      | zero => omega
      | succ n =>
        simp only [spec_l06DrawOf.l0, spec_l06DrawOf.s0]
        refine Gv.pos (by omega) (Gv.bind (next_ok S w) fun r hr => Gv.pos (by omega) ?_)
        rw [show wrap64 (((d + 1 : Nat) : Int) - 1) = (d : Int) by rw [w64 (by omega) (by omega)]; omega]
        exact ih n _ w _ hr.1 (by simp; omega) (by omega)
  unfold spec_l06DrawOf.f spec_l06DrawOf.g
  refine Gv.bind (pick_ok S [3, 6, 20] (by simp)) fun r hr => Gv.bind (pick_ok hr.1 [3, 4, 8] (by simp)) fun q hq => Gv.bind (next_ok hq.1 _) fun p hp => ?_
  have hq2 : 1 ≤ q.1 ∧ q.1 ≤ 8 := by
    have := hq.2
    simp at this
    omega
  have hp2 := hp.2.2 hq2.1
  obtain ⟨d, hd⟩ := Int.eq_ofNat_of_zero_le hp2.1
  rw [hd, show wrap64 (1 + (d : Int)) = ((1 + d : Nat) : Int) by rw [w64 (by omega) (by omega)]; omega]
  exact key (1 + d) k [] r.1 p.2 hp.1 (by simp; omega) (by omega)
theorem badG_ok {s : SrcT} (S : Src s) {g : List Int} (hg : g.length ≤ 100) : Gv (spec_l06Bad.f s g) fun r => r.1.length ≤ 101 := by
  unfold spec_l06Bad.f
  refine Gv.bind (next_ok S 40) fun r hr => Gv.ite (fun _ => ?_) fun _ => Gv.ite (fun _ => Gv.ok (by simp)) fun _ => Gv.ok (by simp only; omega)
  rw [own_f (by omega), Option.bind_some]
  refine Gv.bind (pick_ok hr.1 [0, 21, -1] (by simp)) fun q hq => Gv.pos (by omega) (Gv.ok (by simp only [List.length_append, List.length_singleton]; omega))
theorem drawG_ok {k : Nat} (hk : 2097152 ≤ k) {c : List Int} (hb : ∀ x ∈ c, 0 ≤ x ∧ x ≤ 255) (hl : c.length ≤ 4096) : Gv (spec_l06Draw.f k c) fun g => g.length ≤ 101 := by
  unfold spec_l06Draw.f
  exact Gv.bind (from_ok hk hb hl) fun s hs => Gv.bind (drawOf_ok hk hs) fun r hr => Gv.bind (badG_ok hr.1 hr.2) fun q hq => Gv.ok hq
theorem drawTurnsByHeight_ok {k : Nat} (hk : 2097152 ≤ k) {c : List Int} (hb : ∀ x ∈ c, 0 ≤ x ∧ x ≤ 255) (hl : c.length ≤ 4096) : Gv (spec_DrawTurnsByHeight.f k c) fun g => g.length ≤ 101 := by
  unfold spec_DrawTurnsByHeight.f
  exact Gv.bind (drawG_ok hk hb hl) fun q hq => Gv.ok hq
theorem drawTurnsBySpeed_ok {k : Nat} (hk : 2097152 ≤ k) {c : List Int} (hb : ∀ x ∈ c, 0 ≤ x ∧ x ≤ 255) (hl : c.length ≤ 4096) : Gv (spec_DrawTurnsBySpeed.f k c) fun r => r.1.length ≤ 101 := by
  unfold spec_DrawTurnsBySpeed.f
  exact Gv.bind (from_ok hk hb hl) fun s hs => Gv.bind (drawG_ok hk hb hl) fun g hg => Gv.bind (drawNear_ok hs _) fun q hq => Gv.bind (pick_ok hq _ (by simp)) fun p hp => Gv.ok hg
theorem drawHighest_ok {k : Nat} (hk : 2097152 ≤ k) {c : List Int} (hb : ∀ x ∈ c, 0 ≤ x ∧ x ≤ 255) (hl : c.length ≤ 4096) : Gv (spec_DrawHighestByHeight.f k c) fun r => r.1.length ≤ 101 := by
  unfold spec_DrawHighestByHeight.f
  exact Gv.bind (from_ok hk hb hl) fun s hs => Gv.bind (drawG_ok hk hb hl) fun g hg => Gv.bind (pick_ok hs _ (by simp)) fun q hq => Gv.bind (drawNear_ok hq.1 _) fun p hp => Gv.ok hg
theorem drawTasks_ok {k : Nat} (hk : 2097152 ≤ k) {c : List Int} (hb : ∀ x ∈ c, 0 ≤ x ∧ x ≤ 255) (hl : c.length ≤ 4096) : Gv (spec_DrawTasksOfGarden.f k c) fun r => r.1.length ≤ 101 := by
  unfold spec_DrawTasksOfGarden.f
  refine Gv.bind (from_ok hk hb hl) fun s hs => Gv.bind (drawG_ok hk hb hl) fun g hg => ?_
  rw [l06Is_f hk (by omega), Option.bind_some]
  refine Gv.ite (fun h => Gv.bind (next_ok hs 3) fun q hq => Gv.ite (fun _ => ?_) fun _ => Gv.bind (drawNear_ok hq.1 _) fun p hp => Gv.ok hg) fun _ => Gv.bind (drawNear_ok hs _) fun p hp => Gv.ok hg
  have h8 := isG_iff.1 h
  rw [sumG_f hk h8.1.2 h8.2, Option.bind_some]
  exact Gv.bind (pick_ok hq.1 _ (by simp)) fun p hp => Gv.ok hg
theorem drawLeastTower_ok {k : Nat} (hk : 2097152 ≤ k) {c : List Int} (hb : ∀ x ∈ c, 0 ≤ x ∧ x ≤ 255) (hl : c.length ≤ 4096) : Gv (spec_DrawLeastTower.f k c) fun g => g.length ≤ 101 := by
  unfold spec_DrawLeastTower.f
  refine Gv.bind (from_ok hk hb hl) fun s hs => Gv.bind (next_ok hs 3) fun q hq => Gv.ite (fun _ => Gv.bind (drawG_ok hk hb hl) fun g hg => Gv.ok hg) fun _ => Gv.bind (next_ok hq.1 12) fun p hp => ?_
  obtain ⟨h1, h2⟩ := hp.2.2 (by omega)
  refine Gv.pos h1 (Gv.pos h2 ?_)
  obtain ⟨i, hi⟩ := Int.eq_ofNat_of_zero_le h1
  have hlen : ∀ j : Nat, j < 12 → (rdOf ([] : List Int) [[1], [1, 1], [2, 1], [3, 1], [2, 1, 1], [3, 2, 1], [4, 2, 1], [5, 3], [3, 3, 2], [6, 5, 4], [4, 2, 1, 1], [5, 2, 2]] (j : Int)).length ≤ 4 := by decide
  have h3 := hlen i (by omega)
  rw [hi, own_f (by omega), Option.bind_some]
  exact Gv.bind (badG_ok hp.1 (by omega)) fun r hr => Gv.ok hr
def sc (n i : Nat) : Nat := (i + 1) % n
theorem sc_lt {n i : Nat} (h : 1 ≤ n) : sc n i < n := Nat.mod_lt _ h
theorem sc_eq {n i : Nat} (h : i < n) : sc n i = if i + 1 < n then i + 1 else 0 := by
  unfold sc
  by_cases c : i + 1 < n
  · rw [if_pos c, Nat.mod_eq_of_lt c]
  · rw [if_neg c, show i + 1 = n by omega, Nat.mod_self]
def lstP : List Int → Int
  | [] => 0
  | f :: Q => lastA f Q
theorem places_ext {cs : List Int} {t : Int} {i : Nat} : ∀ (d : Nat), ∃ R, places cs t (i + d) = places cs t i ++ R ∧ ∀ x ∈ R, (i : Int) ≤ x
  | 0 => ⟨[], by simp, by simp⟩
  | d + 1 => by
    obtain ⟨R, h1, h2⟩ := places_ext (cs := cs) (t := t) (i := i) d
    show ∃ R, (if rd cs ((i + d : Nat) : Int) = t then places cs t (i + d) ++ [((i + d : Nat) : Int)] else places cs t (i + d)) = places cs t i ++ R ∧ ∀ x ∈ R, (i : Int) ≤ x
    by_cases c : rd cs ((i + d : Nat) : Int) = t
    · rw [if_pos c]
      refine ⟨R ++ [((i + d : Nat) : Int)], by rw [h1, List.append_assoc], fun x hx => ?_⟩
      rcases List.mem_append.1 hx with hx | hx
      · exact h2 x hx
      · simp only [List.mem_singleton] at hx; omega
    · rw [if_neg c]; exact ⟨R, h1, h2⟩
theorem dif_mem : ∀ (Q R : List Int) (f q : Int), q - lastA f Q ∈ dif f (Q ++ q :: R)
  | [], R, f, q => by simp [dif, lastA]
  | b :: Q, R, f, q => List.mem_cons_of_mem _ (dif_mem Q R b q)
def left (cs : List Int) (t g : Int) (j : Nat) : Int := g - (if (places cs t (j + 1)).length = 0 then j + cs.length - lstP (places cs t cs.length) else j - lstP (places cs t (j + 1)))
theorem left_bnd {cs : List Int} {t g : Int} {j : Nat} (hok : okT cs t g = true) (hj : j < cs.length) : 1 ≤ left cs t g j ∧ left cs t g j ≤ g := by
  obtain ⟨o1, o2⟩ := of_decide_eq_true hok
  have o3 := (grt_le.1 o2).2
  have hb := places_bnd cs t cs.length
  obtain ⟨R, h1, h2⟩ := places_ext (cs := cs) (t := t) (i := j + 1) (cs.length - (j + 1))
  rw [show j + 1 + (cs.length - (j + 1)) = cs.length by omega] at h1
  have hbj := places_bnd cs t (j + 1)
  unfold wait at o1 o3
  unfold left
  cases hP : places cs t (j + 1) with
  | nil =>
    rw [hP, List.nil_append] at h1
    rw [if_pos List.length_nil]
    cases R with
    | nil => rw [h1] at o1; exact absurd o1 (by simp [wts])
    | cons f Q =>
      rw [h1] at o3 hb
      have q1 := o3 ((cs.length : Int) - lastA f Q + f) (List.mem_append_right _ (by simp))
      have q2 := h2 f (by simp)
      have q3 := hb _ (lastA_mem Q f)
      rw [h1]
      show 1 ≤ g - ((j : Int) + cs.length - lastA f Q) ∧ g - ((j : Int) + cs.length - lastA f Q) ≤ g
      omega
  | cons f Q =>
    rw [hP] at h1 hbj
    rw [if_neg (by simp)]
    have q3 := hbj _ (lastA_mem Q f)
    have q4 := hbj f (by simp)
    show 1 ≤ g - ((j : Int) - lastA f Q) ∧ g - ((j : Int) - lastA f Q) ≤ g
    cases R with
    | nil =>
      rw [List.append_nil] at h1
      rw [h1] at o3
      have q1 := o3 ((cs.length : Int) - lastA f Q + f) (List.mem_append_right _ (by simp))
      omega
    | cons q R =>
      rw [h1] at o3
      have q1 := o3 (q - lastA f Q) (List.mem_append_left _ (dif_mem Q R f q))
      have q2 := h2 q (by simp)
      omega
theorem left_at {cs : List Int} {t g : Int} {j : Nat} (h : rd cs j = t) : left cs t g j = g := by
  have e : places cs t (j + 1) = places cs t j ++ [(j : Int)] := if_pos h
  have e2 : lstP (places cs t j ++ [(j : Int)]) = j := by
    cases places cs t j with
    | nil => rfl
    | cons f Q => exact lastA_app Q f j
  unfold left
  rw [e, if_neg (by simp), e2]; omega
theorem left_next {cs : List Int} {t g : Int} {j : Nat} (hok : okT cs t g = true) (hj : j < cs.length) : left cs t g (sc cs.length j) = if rd cs (sc cs.length j : Nat) = t then g else left cs t g j - 1 := by
  by_cases c : rd cs (sc cs.length j : Nat) = t
  · rw [if_pos c]; exact left_at c
  · rw [if_neg c]
    rw [sc_eq hj] at c ⊢
    by_cases c2 : j + 1 < cs.length
    · rw [if_pos c2] at c ⊢
      have e : places cs t (j + 1 + 1) = places cs t (j + 1) := if_neg c
      unfold left
      rw [e]
      split
      · push_cast; omega
      · push_cast; omega
    · rw [if_neg c2] at c ⊢
      have e : places cs t (0 + 1) = [] := if_neg c
      have ej : j + 1 = cs.length := by omega
      obtain ⟨o1, _⟩ := of_decide_eq_true hok
      unfold wait at o1
      rw [wts_len] at o1
      unfold left
      rw [e, ej, if_pos List.length_nil, if_neg (by omega)]
      omega
theorem stepA_of {c : Int} : ∀ {j : Int} {G S T : List Int}, S.length = G.length → T.length = G.length → (∀ t : Nat, t < G.length → (j + t = c → rd T t = rd G t) ∧ (j + t ≠ c → 2 ≤ rd S t ∧ rd T t = rd S t - 1)) → stepA c j G S = some T
  | j, [], [], [], _, _, _ => rfl
  | j, g :: G, s :: S, u :: T, h1, h2, h => by
    have ih := stepA_of (c := c) (j := j + 1) (G := G) (S := S) (T := T) (by simpa using h1) (by simpa using h2) (fun t ht => by
      have := h (t + 1) (by simpa using ht)
      rw [rd_cons, rd_cons, rd_cons, show j + ((t + 1 : Nat) : Int) = j + 1 + t by omega] at this
      exact this)
    have h0 := h 0 (by simp)
    rw [rd_zero, rd_zero, rd_zero] at h0
    unfold stepA
    by_cases e : j = c
    · have := h0.1 (by omega)
      rw [if_pos e, ih, ← this]; rfl
    · obtain ⟨a1, a2⟩ := h0.2 (by omega)
      rw [if_neg e, if_neg (by omega), ih, a2]; rfl
  | j, [], _ :: _, _, h, _, _ => by simp at h
  | j, [], [], _ :: _, _, h, _ => by simp at h
  | j, _ :: _, [], _, h, _, _ => by simp at h
  | j, _ :: _, _ :: _, [], _, h, _ => by simp at h
theorem can_of {G cs : List Int} (h : isT G = true) (hc : cnt G ≤ 4000) (hn : 1 ≤ cs.length) (hok : ∀ t : Nat, t < G.length → okT cs t (rd G t) = true) : canB G = true := by
  have hG := isT_gp h
  have hcp := cnt_pos hG
  have lb : ∀ (t : Nat) (j : Nat), t < G.length → j < cs.length → 1 ≤ left cs t (rd G t) j ∧ left cs t (rd G t) j ≤ rd G t := fun t j ht hj => left_bnd (hok t ht) hj
  have ln : ∀ (t : Nat) (j : Nat), t < G.length → j < cs.length → left cs t (rd G t) (sc cs.length j) = if rd cs (sc cs.length j : Nat) = t then rd G t else left cs t (rd G t) j - 1 := fun t j ht hj => left_next (hok t ht) hj
  have key := lasting_sup (X := fun v => (v : Int) < cnt G ∧ ∃ j, j < cs.length ∧ ∀ t : Nat, t < G.length → left cs t (rd G t) j ≤ rd (ofN G (v : Int)) t) h hc (fun v hv => hv.1) (fun v hv => by
    obtain ⟨hv1, j, hj, hd⟩ := hv
    have hst := ofN_st (v : Int) hG
    have hsl := hst.length
    obtain ⟨x, hx⟩ : ∃ x, x = rd cs (sc cs.length j : Nat) := ⟨_, rfl⟩
    let T : List Int := (List.range G.length).map fun t : Nat => if x = (t : Int) then rd G t else rd (ofN G (v : Int)) t - 1
    have hTl : T.length = G.length := by simp [T]
    have hTr : ∀ t : Nat, t < G.length → rd T t = if x = (t : Int) then rd G t else rd (ofN G (v : Int)) t - 1 := fun t ht => by
      rw [rd_nat, List.getD_eq_getElem?_getD]
      simp only [T]
      rw [List.getElem?_map, List.getElem?_range ht]; rfl
    obtain ⟨c, hcd⟩ : ∃ c : Int, c = if 0 ≤ x ∧ x < G.length then x else -1 := ⟨_, rfl⟩
    have hcm : c ∈ chs G.length := by
      unfold chs
      refine List.mem_map.2 ⟨(c + 1).toNat, List.mem_range.2 ?_, ?_⟩
      · split at hcd <;> omega
      · split at hcd <;> omega
    have hct : ∀ t : Nat, t < G.length → ((0 : Int) + t = c ↔ x = (t : Int)) := fun t ht => by
      split at hcd <;> omega
    have hstep : step G (ofN G (v : Int)) c = some T := by
      unfold step
      refine stepA_of hsl hTl fun t ht => ?_
      rw [Ne, hct t ht, hTr t ht]
      have a1 := lb t (sc cs.length j) ht (sc_lt hn)
      have a2 := ln t j ht hj
      have a3 := hd t ht
      rw [← hx] at a2
      refine ⟨fun e => if_pos e, fun e => ?_⟩
      rw [if_neg e] at a2 ⊢
      omega
    have hT := step_st hG hst hstep
    obtain ⟨n1, n2⟩ := num_bnd hG hT
    refine ⟨c, T, hcm, hstep, by omega, sc cs.length j, sc_lt hn, fun t ht => ?_⟩
    rw [show ((num G T).toNat : Int) = num G T by omega, ofN_num hG hT, hTr t ht, ln t j ht hj, ← hx]
    have a3 := hd t ht
    split <;> omega)
  unfold canB
  refine key _ ⟨by omega, 0, by omega, fun t ht => ?_⟩
  rw [show ((cnt G - 1).toNat : Int) = cnt G - 1 by omega, ofN_full h]
  exact (lb t 0 ht (by omega)).2
theorem dif_sum : ∀ (P : List Int) (a : Int), (dif a P).sum = lastA a P - a
  | [], a => by simp [dif, lastA]
  | b :: P, a => by
    show (b - a) + (dif b P).sum = lastA b P - a
    rw [dif_sum P b]; omega
theorem wait_sum {cs : List Int} {t : Int} (h : 1 ≤ (wait cs t).length) : (wait cs t).sum = cs.length := by
  unfold wait at h ⊢
  cases hP : places cs t cs.length with
  | nil => rw [hP] at h; simp [wts] at h
  | cons f P =>
    show (dif f P ++ [(cs.length : Int) - lastA f P + f]).sum = cs.length
    rw [List.sum_append, dif_sum]; simp; omega
theorem sum_le : ∀ {w : List Int} {g : Int}, (∀ y ∈ w, y ≤ g) → w.sum ≤ w.length * g
  | [], g, _ => by simp
  | y :: w, g, h => by
    have h1 := h y (by simp)
    have h2 := sum_le (w := w) (g := g) fun z hz => h z (by simp [hz])
    rw [List.sum_cons, List.length_cons, Int.natCast_add, Int.add_mul]; omega
def plS (cs : List Int) (i : Nat) : Nat → Nat
  | 0 => 0
  | K + 1 => plS cs i K + (places cs (K : Nat) i).length
theorem plS_next (cs : List Int) (i : Nat) : ∀ K : Nat, plS cs (i + 1) K = plS cs i K + (if 0 ≤ rd cs i ∧ rd cs i < K then 1 else 0)
  | 0 => by simp only [plS]; rw [if_neg (by omega)]
  | K + 1 => by
    have ih := plS_next cs i K
    have e : (places cs (K : Nat) (i + 1)).length = (places cs (K : Nat) i).length + (if rd cs i = (K : Nat) then 1 else 0) := by
      show (if rd cs i = (K : Nat) then places cs (K : Nat) i ++ [(i : Int)] else places cs (K : Nat) i).length = _
      by_cases c : rd cs i = (K : Nat)
      · rw [if_pos c, if_pos c, List.length_append]; rfl
      · rw [if_neg c, if_neg c]; omega
    simp only [plS]
    rw [ih, e]
    by_cases c : rd cs i = (K : Nat)
    · rw [if_pos c, if_neg (by omega), if_pos (by omega)]; omega
    · rw [if_neg c]
      by_cases c2 : 0 ≤ rd cs i ∧ rd cs i < (K : Nat)
      · rw [if_pos c2, if_pos (by omega)]; omega
      · rw [if_neg c2, if_neg (by omega)]; omega
theorem plS_zero (cs : List Int) : ∀ K : Nat, plS cs 0 K = 0
  | 0 => rfl
  | K + 1 => by simp only [plS]; rw [plS_zero cs K]; rfl
theorem plS_le (cs : List Int) (K : Nat) : ∀ i : Nat, plS cs i K ≤ i
  | 0 => by rw [plS_zero]; omega
  | i + 1 => by
    rw [plS_next]
    have := plS_le cs K i
    split <;> omega
def towV (g cs : List Int) : Nat → Int
  | 0 => 0
  | i + 1 => maxV (towV g cs i) (rd g i * grt (wait cs (i : Nat)))
theorem towV_le {g cs : List Int} {x : Int} : ∀ {n : Nat}, towV g cs n ≤ x ↔ 0 ≤ x ∧ ∀ i : Nat, i < n → rd g i * grt (wait cs (i : Nat)) ≤ x
  | 0 => by
    show (0 : Int) ≤ x ↔ _
    exact ⟨fun h => ⟨h, fun i hi => by omega⟩, fun h => h.1⟩
  | n + 1 => by
    show maxV (towV g cs n) _ ≤ x ↔ _
    rw [maxV_le, towV_le (n := n)]
    constructor
    · rintro ⟨⟨h1, h2⟩, h3⟩
      refine ⟨h1, fun i hi => ?_⟩
      by_cases e : i = n
      · rw [e]; exact h3
      · exact h2 i (by omega)
    · rintro ⟨h1, h2⟩
      exact ⟨⟨h1, fun i hi => h2 i (by omega)⟩, h2 n (by omega)⟩
theorem wait_bnd {cs : List Int} {t : Int} : ∀ y ∈ wait cs t, y ≤ 2 * cs.length := by
  intro y hy
  obtain ⟨j, hj, rfl⟩ := List.getElem_of_mem hy
  rw [← rd_lt hj]
  have hl : (wait cs t).length = (places cs t cs.length).length := wts_len _ _
  have hb := places_bnd cs t cs.length
  have e : rd (wait cs t) j = _ := wts_rd (cs.length : Int) (P := places cs t cs.length) (j := j) (by omega)
  rw [e]
  have b1 := hb _ (rd_mem (l := places cs t cs.length) (i := j) (by omega))
  split
  · have b2 := hb _ (rd_mem (l := places cs t cs.length) (i := j + 1) (by omega))
    omega
  · have b2 := hb _ (rd_mem (l := places cs t cs.length) (i := 0) (by omega))
    omega
theorem towerOf_f {k : Nat} {g cs : List Int} (hk : 2097152 ≤ k) (hg : isG g = true) (ht : turnsW g.length cs = true) (hw : ∀ i : Nat, i < g.length → 1 ≤ (wait cs (i : Nat)).length) : impl_TowerOf.f k g cs = some (towV g cs g.length, 0) := by
  have h8 := isG_iff.1 hg
  have hcs : 1 ≤ cs.length ∧ cs.length ≤ 120 := by
    unfold turnsW at ht
    rw [Bool.and_eq_true] at ht
    exact of_decide_eq_true ht.1
  have key : ∀ (d i n : Nat), i + d = g.length → d < n → impl_TowerOf.l0 k n cs (towV g cs i) g (g.length : Int) i = some (towV g cs g.length, 0) := by
    intro d
    induction d with
    | zero =>
      intro i n hi hn
      obtain rfl : i = g.length := by omega
      cases n with
      | zero => omega
      | succ n =>
        simp only [impl_TowerOf.l0, impl_TowerOf.s0]
        rw [if_neg (by omega)]
    | succ d ih =>
      intro i n hi hn
      cases n with
      | zero => omega
      | succ n =>
        have h1 := hw i (by omega)
        have h2 := h8.2 _ (rd_mem (l := g) (i := i) (by omega))
        have h3 : grt (wait cs (i : Nat)) ≤ 2 * cs.length := grt_le.2 ⟨by omega, wait_bnd⟩
        have h4 := grt_nonneg (wait cs (i : Nat))
        have h5 : rd g i * grt (wait cs (i : Nat)) ≤ 20 * 240 := Int.mul_le_mul h2.2 (by omega) h4 (by omega)
        have h6 : 0 ≤ rd g i * grt (wait cs (i : Nat)) := Int.mul_nonneg (by omega) h4
        have h7 := wait_len (cs := cs) (i : Nat)
        simp only [impl_TowerOf.l0, impl_TowerOf.s0]
        rw [if_pos (by omega), if_pos (by omega), if_pos (by omega), impl_waits_f hk (by omega), Option.bind_some, if_neg (by omega), impl_greatest_f hk (by omega), Option.bind_some, w64 (by omega) (by omega), w64n (by omega)]
        exact ih (i + 1) n (by omega) (by omega)
  unfold impl_TowerOf.f impl_TowerOf.g impl_Garden_many.f
  rw [length_f, Option.bind_some, Option.bind_some, areTurnsW hk (by omega), Option.bind_some, gardenCode_f hk (by omega), Option.bind_some, if_pos hg, if_pos ht, if_pos rfl]
  exact key g.length 0 k (by omega) (by omega)
theorem tower_sum {g cs : List Int} (hg : isG g = true) (hn : 1 ≤ cs.length) (hw : ∀ i : Nat, i < g.length → 1 ≤ (wait cs (i : Nat)).length) : g.sum ≤ towV g cs g.length := by
  have h8 := isG_iff.1 hg
  obtain ⟨h0, hT⟩ := towV_le.1 (Int.le_refl (towV g cs g.length))
  have key : ∀ K : Nat, K ≤ g.length → (g.take K).sum * cs.length ≤ towV g cs g.length * plS cs cs.length K := by
    intro K
    induction K with
    | zero => intro _; simp [plS]
    | succ K ih =>
      intro hK
      have ih := ih (by omega)
      have e1 : (g.take (K + 1)).sum = (g.take K).sum + rd g K := by
        rw [List.take_succ_eq_append_getElem (by omega), List.sum_append, rd_lt (by omega)]; simp
      have w1 := hw K (by omega)
      have w2 := wait_sum w1
      have w3 := sum_le (w := wait cs (K : Nat)) (g := grt (wait cs (K : Nat))) fun y hy => grt_mem hy
      have w4 : (wait cs (K : Nat)).length = (places cs (K : Nat) cs.length).length := wts_len _ _
      have w5 := hT K (by omega)
      have r1 := h8.2 _ (rd_mem (l := g) (i := K) (by omega))
      rw [w2, w4] at w3
      have m1 : rd g K * cs.length ≤ rd g K * (((places cs (K : Nat) cs.length).length : Int) * grt (wait cs (K : Nat))) := Int.mul_le_mul_of_nonneg_left w3 (by omega)
      have m2 : ((places cs (K : Nat) cs.length).length : Int) * (rd g K * grt (wait cs (K : Nat))) ≤ ((places cs (K : Nat) cs.length).length : Int) * towV g cs g.length := Int.mul_le_mul_of_nonneg_left w5 (by omega)
      have m3 : rd g K * (((places cs (K : Nat) cs.length).length : Int) * grt (wait cs (K : Nat))) = ((places cs (K : Nat) cs.length).length : Int) * (rd g K * grt (wait cs (K : Nat))) := by rw [← Int.mul_assoc, ← Int.mul_assoc, Int.mul_comm (rd g K)]
      have m4 : towV g cs g.length * ((plS cs cs.length (K + 1) : Nat) : Int) = towV g cs g.length * (plS cs cs.length K : Nat) + ((places cs (K : Nat) cs.length).length : Int) * towV g cs g.length := by
        simp only [plS]
        rw [Int.natCast_add, Int.mul_add, Int.mul_comm ((places cs (K : Nat) cs.length).length : Int)]
      rw [e1, Int.add_mul, m4]
      omega
  have hk := key g.length (Nat.le_refl _)
  rw [List.take_length] at hk
  have h2 := plS_le cs g.length cs.length
  have h3 : towV g cs g.length * (plS cs cs.length g.length : Nat) ≤ towV g cs g.length * cs.length := Int.mul_le_mul_of_nonneg_left (by omega) h0
  exact Int.le_of_mul_le_mul_right (Int.le_trans hk h3) (by omega)
theorem tower_zero {l : List Int} : ∀ {d : Nat} {x m : Int}, tower l d x = (m, 0) → x ≤ m ∧ isT (towT l m) = true ∧ cnt (towT l m) ≤ 4000 ∧ (canR (towT l m)).1 = true ∧
    ∀ y, x ≤ y → y < m → isT (towT l y) = true ∧ cnt (towT l y) ≤ 4000 ∧ ¬ (canR (towT l y)).1 = true
  | 0, x, m, h => by
    have := congrArg Prod.snd h
    exact absurd this (by simp [tower])
  | d + 1, x, m, h => by
    unfold tower at h
    split at h
    · rename_i h1
      split at h
      · have := congrArg Prod.snd h; exact absurd this (by simp)
      · rename_i h2
        split at h
        · rename_i h3
          obtain rfl : x = m := congrArg Prod.fst h
          exact ⟨Int.le_refl _, h1, by omega, h3, fun y q1 q2 => by omega⟩
        · rename_i h3
          obtain ⟨p1, p2, p3, p4, p5⟩ := tower_zero (d := d) h
          refine ⟨by omega, p2, p3, p4, fun y q1 q2 => ?_⟩
          by_cases e : y = x
          · rw [e]; exact ⟨h1, by omega, h3⟩
          · exact p5 y (by omega) q2
    · have := congrArg Prod.snd h; exact absurd this (by simp)
theorem towT_rd {l : List Int} {m : Int} {i : Nat} (hi : i < l.length) : rd (towT l m) i = m / rd l i := by
  rw [rd_lt (by rw [towT_len]; exact hi), rd_lt hi]; simp [towT]
theorem tower_round {k : Nat} {g : List Int} {m : Int} (hk : 2097152 ≤ k) (hg : isG g = true) (ht : tower g 820 g.sum = (m, 0)) :
    (playR (towT g m)).2.2 = 0 ∧ 1 ≤ (playR (towT g m)).2.1.length ∧ ((playR (towT g m)).2.1.length ≤ 120 → impl_TowerOf.f k g (playR (towT g m)).2.1 = some (m, 0)) := by
  have h8 := isG_iff.1 hg
  obtain ⟨p1, p2, p3, p4, p5⟩ := tower_zero ht
  have hf : few (towT g m) = 0 := by unfold few; rw [if_pos p2, if_neg (by omega)]
  obtain ⟨b, b1, b2, b3, b4, b5⟩ := playR_round hf (by rw [← canR_canB p2 p3]; exact p4)
  refine ⟨b5, b4, fun hlen => ?_⟩
  generalize (playR (towT g m)).2.1 = cs at b2 b3 b4 hlen ⊢
  have hG := towT_len g m
  have okg : ∀ i : Nat, i < g.length → 1 ≤ (wait cs (i : Nat)).length ∧ ∀ x ∈ wait cs (i : Nat), x ≤ m / rd g i := fun i hi => by
    have T := OKR.turn p2 b1 b2 b3 (t := i) (by rw [hG]; exact hi)
    obtain ⟨w, e, w1, w2, w3⟩ := waits_f (k := k) hk T b4 (by omega)
    rw [impl_waits_f hk (by omega)] at e
    obtain rfl := Option.some.inj e
    rw [towT_rd hi] at w3
    exact ⟨w1, w3⟩
  have hw : ∀ i : Nat, i < g.length → 1 ≤ (wait cs (i : Nat)).length := fun i hi => (okg i hi).1
  have hcs : turnsW g.length cs = true := by
    have := OKR.mem (m := g.length) (by rw [hG]) b2
    unfold turnsW turnW
    rw [Bool.and_eq_true, List.all_eq_true]
    refine ⟨decide_eq_true ⟨b4, hlen⟩, fun c hc => decide_eq_true ?_⟩
    rw [w64 (by omega) (by omega)]
    exact this c hc
  rw [towerOf_f hk hg hcs hw]
  have hs := plots_sum h8.2
  have hm0 : 0 ≤ m := by omega
  have u : towV g cs g.length ≤ m := towV_le.2 ⟨hm0, fun i hi => by
    have r := h8.2 _ (rd_mem (l := g) (i := i) hi)
    have q : grt (wait cs (i : Nat)) ≤ m / rd g i := grt_le.2 ⟨Int.ediv_nonneg hm0 (by omega), (okg i hi).2⟩
    have := (Int.le_ediv_iff_mul_le (by omega)).1 q
    rw [Int.mul_comm]; exact this⟩
  have v := tower_sum hg b4 hw
  by_cases c : towV g cs g.length < m
  · exfalso
    obtain ⟨q1, q2, q3⟩ := p5 _ v c
    obtain ⟨h0, hT⟩ := towV_le.1 (Int.le_refl (towV g cs g.length))
    refine q3 ?_
    rw [canR_canB q1 q2]
    refine can_of q1 q2 b4 fun i hi => ?_
    rw [towT_len] at hi
    rw [towT_rd hi]
    have r := h8.2 _ (rd_mem (l := g) (i := i) hi)
    refine decide_eq_true ⟨hw i hi, (Int.le_ediv_iff_mul_le (by omega)).2 ?_⟩
    rw [Int.mul_comm]; exact hT i hi
  · rw [show towV g cs g.length = m by omega]
theorem day_rd {g h : List Int} {B : Int} (hg : isG g = true) (hh : Ht g h B) {i : Nat} (hi' : i < g.length) : rd (dayN g cutH h) i = if cutH (ahd g h) = (i : Nat) then 0 else rd h i + rd g i := by
  have ha := (ahd_ht hg hh).1
  have hl := (isG_iff.1 hg).1
  have hc := (hi_is (a := ahd g h) (by omega) (by omega)).1
  unfold dayN cutH
  rw [if_neg (by omega), Int.toNat_natCast, rd_set hc]
  by_cases c : i = hi (ahd g h)
  · rw [if_pos c, if_pos (by omega)]
  · rw [if_neg c, if_neg (by omega), ahd_rd hh.1 hi']
theorem hts_next {g : List Int} (hg : isG g = true) {i : Nat} (hi : i < g.length) (q : Nat) : rd (hts g cutH (q + 1)) i = if cutH (ahd g (hts g cutH q)) = (i : Nat) then 0 else rd (hts g cutH q) i + rd g i :=
  day_rd hg (hts_ht hg (rule_H hg) q) hi
theorem top_ge {g : List Int} (hg : isG g = true) {i : Nat} (hi : i < g.length) : ∀ {d q : Nat}, q < d → rd (hts g cutH q) i + rd g i ≤ top g d
  | d + 1, q, h => by
    have hm := (maxV_le (a := top g d) (b := grt (ahd g (hts g cutH d)))).1 (Int.le_refl _)
    show _ ≤ maxV (top g d) (grt (ahd g (hts g cutH d)))
    by_cases e : q = d
    · subst e
      have hh := hts_ht hg (rule_H hg) q
      have := grt_mem (rd_mem (l := ahd g (hts g cutH q)) (i := i) (by rw [ahd_len hh.1]; exact hi))
      rw [ahd_rd hh.1 hi] at this
      exact Int.le_trans this hm.2
    · exact Int.le_trans (top_ge hg hi (d := d) (q := q) (by omega)) hm.1
theorem cutsN_rd (g : List Int) (cut : List Int → Int) : ∀ {d q : Nat}, q < d → rd (cutsN g cut d) q = cut (ahd g (hts g cut q))
  | d + 1, q, h => by
    unfold cutsN
    rw [rd_app1, cutsN_len]
    by_cases e : q = d
    · rw [if_neg (by omega), if_pos e, e]
    · rw [if_pos (by omega)]; exact cutsN_rd g cut (by omega)
theorem rd_drop (l : List Int) (j s : Nat) : rd (l.drop j) s = rd l ((j + s : Nat) : Int) := by
  rw [rd_nat, rd_nat, List.getD_eq_getElem?_getD, List.getD_eq_getElem?_getD, List.getElem?_drop]
section
variable {g : List Int} {j L : Nat}
noncomputable def roundT (g : List Int) (j L : Nat) : List Int := (cutsN g cutH (j + L)).drop j
theorem roundT_len : (roundT g j L).length = L := by unfold roundT; rw [List.length_drop, cutsN_len]; omega
theorem roundT_rd {s : Nat} (h : s < L) : rd (roundT g j L) s = cutH (ahd g (hts g cutH (j + s))) := by
  unfold roundT
  rw [rd_drop, cutsN_rd g cutH (by omega)]
def Hgt (g : List Int) (j : Nat) (i : Nat) (n : Nat) : List Int → Prop
  | [] => rd (hts g cutH (j + n)) i = rd (hts g cutH j) i + n * rd g i
  | f :: Q => rd (hts g cutH (j + n)) i = rd g i * (n - 1 - lastA f Q) ∧ (∀ y ∈ dif f Q, rd g i * y ≤ top g 200) ∧ rd (hts g cutH j) i + rd g i * (f + 1) ≤ top g 200
theorem hgt_ok (hg : isG g = true) (hjL : j + L ≤ 200) {i : Nat} (hi : i < g.length) : ∀ n : Nat, n ≤ L → Hgt g j i n (places (roundT g j L) (i : Nat) n)
  | 0, _ => by
    show rd (hts g cutH (j + 0)) i = rd (hts g cutH j) i + (0 : Nat) * rd g i
    rw [Nat.add_zero]; simp
  | n + 1, hn => by
    have ih := hgt_ok hg hjL hi n (by omega)
    have nx := hts_next hg hi (j + n)
    have tp := top_ge hg hi (d := 200) (q := j + n) (by omega)
    have ec := roundT_rd (g := g) (j := j) (L := L) (s := n) (by omega)
    show Hgt g j i (n + 1) (if rd (roundT g j L) n = (i : Nat) then places (roundT g j L) (i : Nat) n ++ [(n : Int)] else places (roundT g j L) (i : Nat) n)
    rw [ec]
    by_cases c : cutH (ahd g (hts g cutH (j + n))) = (i : Nat)
    · rw [if_pos c] at nx ⊢
      cases hP : places (roundT g j L) (i : Nat) n with
      | nil =>
        rw [hP] at ih
        have ih : rd (hts g cutH (j + n)) i = rd (hts g cutH j) i + n * rd g i := ih
        show _ ∧ (∀ y ∈ ([] : List Int), rd g i * y ≤ top g 200) ∧ rd (hts g cutH j) i + rd g i * ((n : Int) + 1) ≤ top g 200
        refine ⟨?_, fun y hy => by simp at hy, ?_⟩
        · show rd (hts g cutH (j + n + 1)) i = rd g i * (((n + 1 : Nat) : Int) - 1 - (n : Int))
          rw [nx, show ((n + 1 : Nat) : Int) - 1 - (n : Int) = 0 by omega, Int.mul_zero]
        · have : rd g i * ((n : Int) + 1) = n * rd g i + rd g i := by rw [Int.mul_add, Int.mul_one, Int.mul_comm]
          rw [this]; omega
      | cons f Q =>
        rw [hP] at ih
        obtain ⟨i1, i2, i3⟩ := ih
        show _ ∧ (∀ y ∈ dif f (Q ++ [(n : Int)]), rd g i * y ≤ top g 200) ∧ _
        refine ⟨?_, fun y hy => ?_, i3⟩
        · show rd (hts g cutH (j + n + 1)) i = rd g i * (((n + 1 : Nat) : Int) - 1 - lastA f (Q ++ [(n : Int)]))
          rw [lastA_app, nx, show ((n + 1 : Nat) : Int) - 1 - (n : Int) = 0 by omega, Int.mul_zero]
        · rw [dif_app] at hy
          rcases List.mem_append.1 hy with hy | hy
          · exact i2 y hy
          · obtain rfl := List.mem_singleton.1 hy
            have : rd g i * ((n : Int) - lastA f Q) = rd g i * ((n : Int) - 1 - lastA f Q) + rd g i := by
              rw [show (n : Int) - lastA f Q = ((n : Int) - 1 - lastA f Q) + 1 by omega, Int.mul_add, Int.mul_one]
            rw [this]; omega
    · rw [if_neg c] at nx ⊢
      cases hP : places (roundT g j L) (i : Nat) n with
      | nil =>
        rw [hP] at ih
        have ih : rd (hts g cutH (j + n)) i = rd (hts g cutH j) i + n * rd g i := ih
        show rd (hts g cutH (j + n + 1)) i = rd (hts g cutH j) i + ((n + 1 : Nat) : Int) * rd g i
        rw [nx, ih, Int.natCast_add, Int.add_mul]; omega
      | cons f Q =>
        rw [hP] at ih
        obtain ⟨i1, i2, i3⟩ := ih
        refine ⟨?_, i2, i3⟩
        show rd (hts g cutH (j + n + 1)) i = rd g i * (((n + 1 : Nat) : Int) - 1 - lastA f Q)
        rw [nx, i1, show ((n + 1 : Nat) : Int) - 1 - lastA f Q = ((n : Int) - 1 - lastA f Q) + 1 by omega, Int.mul_add, Int.mul_one]
variable (hg : isG g = true) (hL : 1 ≤ L) (hjL : j + L ≤ 200) (he : hts g cutH j = hts g cutH (j + L))
include hg hL hjL he
theorem round_waits {i : Nat} (hi : i < g.length) : 1 ≤ (wait (roundT g j L) (i : Nat)).length ∧ rd g i * grt (wait (roundT g j L) (i : Nat)) ≤ top g 200 := by
  have h := hgt_ok (j := j) hg hjL hi L (Nat.le_refl _)
  have r := rates hg hi
  have hl : (wait (roundT g j L) (i : Nat)).length = (places (roundT g j L) (i : Nat) (roundT g j L).length).length := wts_len _ _
  rw [roundT_len] at hl
  cases hP : places (roundT g j L) (i : Nat) L with
  | nil =>
    exfalso
    rw [hP] at h
    have h : rd (hts g cutH (j + L)) i = rd (hts g cutH j) i + L * rd g i := h
    rw [← he] at h
    have : 1 * 1 ≤ (L : Int) * rd g i := Int.mul_le_mul (by omega) r.1 (by omega) (by omega)
    omega
  | cons f Q =>
    rw [hP] at h hl
    obtain ⟨h1, h2, h3⟩ := h
    rw [← he] at h1
    refine ⟨by rw [hl]; simp, ?_⟩
    have h0 : 0 ≤ top g 200 := by
      have := top_ge hg hi (d := 200) (q := 0) (by omega)
      have h4 := (hts_ht hg (rule_H hg) 0).2 i hi
      omega
    have ew : wait (roundT g j L) (i : Nat) = dif f Q ++ [(L : Int) - lastA f Q + f] := by unfold wait; rw [roundT_len, hP]; rfl
    have q : grt (wait (roundT g j L) (i : Nat)) ≤ top g 200 / rd g i := by
      refine grt_le.2 ⟨Int.ediv_nonneg h0 (by omega), fun y hy => (Int.le_ediv_iff_mul_le (by omega)).2 ?_⟩
      rw [ew] at hy
      rw [Int.mul_comm]
      rcases List.mem_append.1 hy with hy | hy
      · exact h2 y hy
      · obtain rfl := List.mem_singleton.1 hy
        have : rd g i * ((L : Int) - lastA f Q + f) = rd g i * ((L : Int) - 1 - lastA f Q) + rd g i * (f + 1) := by
          rw [← Int.mul_add]; congr 1; omega
        rw [this, ← h1]; exact h3
    have := (Int.le_ediv_iff_mul_le (by omega)).1 q
    rw [Int.mul_comm]; exact this
theorem round_has {i : Nat} (hi : i < g.length) : (i : Int) ∈ roundT g j L := by
  have h := (round_waits hg hL hjL he hi).1
  have hl : (wait (roundT g j L) (i : Nat)).length = (places (roundT g j L) (i : Nat) (roundT g j L).length).length := wts_len _ _
  rw [hl] at h
  have key : ∀ n : Nat, n ≤ L → 1 ≤ (places (roundT g j L) (i : Nat) n).length → (i : Int) ∈ roundT g j L := by
    intro n
    induction n with
    | zero => intro _ h; simp [places] at h
    | succ n ih =>
      intro hn h
      have h : 1 ≤ (if rd (roundT g j L) n = (i : Nat) then places (roundT g j L) (i : Nat) n ++ [(n : Int)] else places (roundT g j L) (i : Nat) n).length := h
      by_cases c : rd (roundT g j L) n = (i : Nat)
      · rw [← c]; exact rd_mem (by rw [roundT_len]; omega)
      · rw [if_neg c] at h; exact ih (by omega) h
  rw [roundT_len] at h
  exact key L (Nat.le_refl _) h
theorem round_turns (h120 : L ≤ 120) : turnsW g.length (roundT g j L) = true := by
  have _ := hjL
  have _ := he
  have h8 := isG_iff.1 hg
  unfold turnsW turnW
  rw [Bool.and_eq_true, List.all_eq_true, roundT_len]
  refine ⟨decide_eq_true ⟨hL, h120⟩, fun c hc => decide_eq_true ?_⟩
  rw [w64 (by omega) (by omega)]
  obtain ⟨s, hs, rfl⟩ := List.getElem_of_mem hc
  rw [← rd_lt hs, roundT_rd (by rw [roundT_len] at hs; exact hs)]
  have hh := hts_ht hg (rule_H hg) (j + s)
  rcases rule_H hg _ (ahd_len hh.1) with c | c <;> omega
theorem round_tower {k : Nat} (hk : 2097152 ≤ k) (h120 : L ≤ 120) : ∃ T, impl_TowerOf.f k g (roundT g j L) = some (T, 0) ∧ T ≤ top g 200 := by
  refine ⟨_, towerOf_f hk hg (round_turns hg hL hjL he h120) (fun i hi => (round_waits hg hL hjL he hi).1), towV_le.2 ⟨?_, fun i hi => (round_waits hg hL hjL he hi).2⟩⟩
  have h8 := isG_iff.1 hg
  have hi : 0 < g.length := by omega
  have := top_ge hg hi (d := 200) (q := 0) (by omega)
  have h4 := (hts_ht hg (rule_H hg) 0).2 0 hi
  have := rates hg hi
  omega
end
theorem turnsR_zero {g : List Int} (h : (turnsR g 0).2.2 = 0) : isG g = true ∧ ∃ j L, (turnsR g 0).1 = roundT g j L ∧ 1 ≤ L ∧ j + L ≤ 200 ∧ hts g cutH j = hts g cutH (j + L) := by
  unfold turnsR at h ⊢
  by_cases hg : isG g = true
  · rw [if_pos hg] at h ⊢
    rw [cutX_H] at h ⊢
    cases hs : srch (hts g cutH) 201 0 with
    | none => rw [hs] at h; exact absurd h (show ¬ ((3 : Int) = 0) by decide)
    | some p =>
      obtain ⟨a, b⟩ := p
      obtain ⟨q1, q2, q3⟩ := srch_some hs
      have q1 : a < b := q1
      have q2 : b < 0 + 201 := q2
      have q3 : hts g cutH a = hts g cutH b := q3
      have eb : a + (b - a) = b := by omega
      refine ⟨hg, a, b - a, ?_, by omega, by omega, by rw [eb]; exact q3⟩
      show (cutsN g cutH b).drop a = (cutsN g cutH (a + (b - a))).drop a
      rw [eb]
  · rw [if_neg hg] at h; exact absurd h (by decide)
theorem turnsR_bad {g : List Int} (h : (turnsR g 0).2.2 ≠ 0) : (turnsR g 0).1 = [] := by
  unfold turnsR at h ⊢
  by_cases hg : isG g = true
  · rw [if_pos hg] at h ⊢
    cases hs : srch (hts g (cutX g 0)) 201 0 with
    | none => rfl
    | some p => rw [hs] at h; exact absurd rfl h
  · rw [if_neg hg]
theorem likeR_self {k : Nat} (hk : 2097152 ≤ k) {l : List Int} (hl : l.length ≤ 1048576) : laws_likeInts.f k l l = some true := by
  have key : ∀ (d i n : Nat), i + d = l.length → d < n → laws_likeInts.l0 k n l l i = some true := by
    intro d
    induction d with
    | zero =>
      intro i n hi hn
      cases n with
      | zero => omega
      | succ n =>
        simp only [laws_likeInts.l0, laws_likeInts.s0]
        rw [if_neg (by omega)]
    | succ d ih =>
      intro i n hi hn
      cases n with
      | zero => omega
      | succ n =>
        simp only [laws_likeInts.l0, laws_likeInts.s0]
        rw [if_pos (by omega), if_pos (by omega), if_pos (by omega), if_pos (by omega), if_pos (by omega), if_pos trivial, w64n (by omega)]
        exact ih (i + 1) n (by omega) (by omega)
  unfold laws_likeInts.f laws_likeInts.g
  rw [if_pos rfl]
  exact key l.length 0 k (by omega) (by omega)
theorem has_f {k : Nat} (hk : 2097152 ≤ k) {l : List Int} {x : Int} (hl : l.length ≤ 1048576) (hx : x ∈ l) : laws_hasInt.f k l x = some true := by
  have key : ∀ (d i n : Nat), i + d = l.length → d < n → x ∈ l.drop i → laws_hasInt.l0 k n l x i = some true := by
    intro d
    induction d with
    | zero =>
      intro i n hi hn hm
      rw [List.drop_eq_nil_of_le (by omega)] at hm; cases hm
    | succ d ih =>
      intro i n hi hn hm
      cases n with
      | zero => omega
      | succ n =>
        simp only [laws_hasInt.l0, laws_hasInt.s0]
        rw [if_pos (by omega), if_pos (by omega), if_pos (by omega), w64n (by omega)]
        by_cases c : rd l i = x
        · rw [if_pos c]
        · rw [if_neg c]
          rw [drop_cons (by omega)] at hm
          rcases List.mem_cons.1 hm with e | e
          · exact absurd e.symm c
          · exact ih (i + 1) n (by omega) (by omega) e
  unfold laws_hasInt.f laws_hasInt.g
  exact key l.length 0 k (by omega) (by omega) (by simpa using hx)
theorem outI_len {H : Nat → List Int} {C : Nat → List Int} (hC : ∀ d, (C d).length = d) {s d : Nat} (h : d + s ≤ 1000) : (outI C (srch H s d)).1.length ≤ 1000 := by
  cases hs : srch H s d with
  | none => exact Nat.zero_le _
  | some p =>
    obtain ⟨a, b⟩ := p
    have := (srch_some hs).2.1
    show ((C b).drop a).length ≤ 1000
    rw [List.length_drop, hC]
    have : b < d + s := this
    omega
theorem turnsR_len (g : List Int) (x : Int) : (turnsR g x).1.length ≤ 1000 := by
  unfold turnsR
  split
  · exact outI_len (cutsN_len g _) (by omega)
  · exact Nat.zero_le _
theorem speedR_len (g : List Int) (x : Int) : (speedR g x).1.length ≤ 1000 := by
  unfold speedR
  split
  · split
    · exact outI_len (cutsN_len g _) (by omega)
    · exact Nat.zero_le _
  · exact Nat.zero_le _
theorem tasksR_len (g : List Int) (m : Int) : (tasksR g m).1.length ≤ g.length := by
  unfold tasksR
  split
  · split
    · split
      · show (towT g m).length ≤ _; rw [towT_len]; omega
      · exact Nat.zero_le _
    · exact Nat.zero_le _
  · exact Nat.zero_le _
theorem rules_l1 {k : Nat} {g : List Int} {j L : Nat} (hk : 2097152 ≤ k) (hg : isG g = true) (hL : 1 ≤ L) (hjL : j + L ≤ 200) (he : hts g cutH j = hts g cutH (j + L)) (x : Int) :
    laws_FnCuttingRules.l1 k k g (roundT g j L) x 0 = some true := by
  have h8 := isG_iff.1 hg
  have hlen : (roundT g j L).length = L := roundT_len
  have key : ∀ (d i n : Nat), i + d = g.length → d < n → laws_FnCuttingRules.l1 k n g (roundT g j L) x i = some true := by
    intro d
    induction d with
    | zero =>
      intro i n hi hn
      cases n with
      | zero => omega
      | succ n =>
        simp only [laws_FnCuttingRules.l1, laws_FnCuttingRules.s1]
        rw [if_neg (by omega)]
        by_cases c : 120 < L
        · rw [if_pos (by omega), decide_eq_true (by omega)]
        · rw [if_neg (by omega)]
          by_cases c2 : x = 0
          · obtain ⟨T, e1, e2⟩ := round_tower hg hL hjL he hk (by omega)
            rw [if_pos c2, e1, Option.bind_some, impl_HighestByHeight_f hk (by omega), Option.bind_some]
            have e3 : highR g 200 = (top g 200, 0) := by unfold highR; rw [if_pos hg, if_pos (by omega)]; rfl
            rw [e3, if_pos rfl, if_pos rfl, decide_eq_true e2]
          · rw [if_neg c2, decide_eq_true (by omega)]
    | succ d ih =>
      intro i n hi hn
      cases n with
      | zero => omega
      | succ n =>
        simp only [laws_FnCuttingRules.l1, laws_FnCuttingRules.s1]
        rw [if_pos (by omega), has_f hk (by omega) (round_has hg hL hjL he (by omega)), Option.bind_some, if_pos rfl, w64n (by omega)]
        exact ih (i + 1) n (by omega) (by omega)
  exact key g.length 0 k (by omega) (by omega)
theorem rules_end {k : Nat} {g : List Int} (hk : 2097152 ≤ k) (x : Int) : (if (turnsR g 0).2.2 = 0 then laws_FnCuttingRules.l1 k k g (turnsR g 0).1 x 0 else some (decide (((turnsR g 0).1.length : Int) = 0))) = some true := by
  by_cases c : (turnsR g 0).2.2 = 0
  · obtain ⟨hg, j, L, e, hL, hjL, he⟩ := turnsR_zero c
    rw [if_pos c, e]
    exact rules_l1 hk hg hL hjL he x
  · rw [if_neg c, turnsR_bad c]; rfl
theorem tasksR_zero {g : List Int} {m : Int} (h : (tasksR g m).2 = 0) : isG g = true ∧ (grt g ≤ m ∧ m ≤ 1000) ∧ (tasksR g m).1 = towT g m := by
  by_cases hg : isG g = true
  · by_cases c : grt g ≤ m ∧ m ≤ 1000
    · rw [tasksR_in hg c] at h ⊢
      by_cases c3 : isT (towT g m) = true
      · rw [if_pos c3]; exact ⟨hg, c, rfl⟩
      · rw [if_neg c3] at h; exact absurd h (show ¬ ((4 : Int) = 0) by decide)
    · rw [tasksR_out hg c] at h; exact absurd h (show ¬ ((2 : Int) = 0) by decide)
  · rw [tasksR_no hg] at h; exact absurd h (show ¬ ((1 : Int) = 0) by decide)
theorem rules_tail {k : Nat} {g z : List Int} {m : Int} (hk : 2097152 ≤ k) (x : Int) : (if (tasksR z m).2 = 0 then laws_FnCuttingRules.l0 k k g (turnsR g 0).1 (turnsR g 0).2.2 x z m (tasksR z m).1 0 else if (turnsR g 0).2.2 = 0 then laws_FnCuttingRules.l1 k k g (turnsR g 0).1 x 0 else some (decide (((turnsR g 0).1.length : Int) = 0))) = some true := by
  by_cases c : (tasksR z m).2 = 0
  · obtain ⟨hz, hm, e⟩ := tasksR_zero c
    have h8 := isG_iff.1 hz
    rw [if_pos c, e]
    have hl := towT_len z m
    have h0 : 0 ≤ m := Int.le_trans (grt_nonneg z) hm.1
    have key : ∀ (d i n : Nat), i + d = z.length → d < n → laws_FnCuttingRules.l0 k n g (turnsR g 0).1 (turnsR g 0).2.2 x z m (towT z m) i = some true := by
      intro d
      induction d with
      | zero =>
        intro i n hi hn
        cases n with
        | zero => omega
        | succ n =>
          simp only [laws_FnCuttingRules.l0, laws_FnCuttingRules.s0]
          rw [if_neg (by omega)]
          exact rules_end hk x
      | succ d ih =>
        intro i n hi hn
        cases n with
        | zero => omega
        | succ n =>
          have r := h8.2 _ (rd_mem (l := z) (i := i) (by omega))
          have e1 := towT_rd (l := z) (m := m) (i := i) (by omega)
          have d1 := div_bnd (Int.le_trans (grt_mem (rd_mem (l := z) (i := i) (by omega))) hm.1) r.1
          have d2 : m / rd z i * rd z i ≤ m := (Int.le_ediv_iff_mul_le (by omega)).1 (Int.le_refl _)
          have d3 : ¬ (m / rd z i + 1) * rd z i ≤ m := fun q => by
            have := (Int.le_ediv_iff_mul_le (by omega)).2 q
            omega
          have d4 : 0 ≤ m / rd z i * rd z i := Int.mul_nonneg (by omega) (by omega)
          have d5 : (m / rd z i + 1) * rd z i = m / rd z i * rd z i + rd z i := by rw [Int.add_mul, Int.one_mul]
          simp only [laws_FnCuttingRules.l0, laws_FnCuttingRules.s0]
          rw [if_pos (by omega), if_pos (by omega), if_pos (by omega), if_pos (by omega), if_pos (by omega), e1, w64 (x := m / rd z i * rd z i) (by omega) (by omega), if_neg (by omega), if_pos (by omega), if_pos (by omega), if_pos (by omega), if_pos (by omega), w64 (x := m / rd z i + 1) (by omega) (by omega), w64 (x := (m / rd z i + 1) * rd z i) (by omega) (by omega), if_neg d3, w64n (by omega)]
          exact ih (i + 1) n (by omega) (by omega)
    exact key z.length 0 k (by omega) (by omega)
  · rw [if_neg c]
    exact rules_end hk x
theorem law_FnCuttingRules {k : Nat} {l : List Int} (hk : 2097152 ≤ k) (hb : ∀ x ∈ l, 0 ≤ x ∧ x ≤ 255) : laws_FnCuttingRules.f k l = some true := by
  unfold laws_FnCuttingRules.f laws_FnCuttingRules.g laws_big.f
  rw [Option.bind_some]
  by_cases c : 4096 < (l.length : Int)
  · rw [if_pos (decide_eq_true c)]
  · have hl : l.length ≤ 4096 := by omega
    obtain ⟨g, e1, hg⟩ := drawTurnsByHeight_ok hk hb hl
    obtain ⟨x, e2, hx⟩ := drawTurnsBySpeed_ok hk hb hl
    obtain ⟨y, e3, hy⟩ := drawHighest_ok hk hb hl
    obtain ⟨z, e4, hz⟩ := drawTasks_ok hk hb hl
    obtain ⟨w, e5, hw⟩ := drawLeastTower_ok hk hb hl
    have l1 := turnsR_len g 0
    have l2 := speedR_len x.1 x.2
    have l3 := tasksR_len z.1 z.2
    rw [if_neg (by rw [decide_eq_false c]; simp), e1, Option.bind_some, impl_TurnsByHeight_f hk (by omega), Option.bind_some, spec_TurnsByHeight_f hk (by omega), Option.bind_some, if_pos rfl, likeR_self hk (by omega), Option.bind_some, if_pos rfl, if_pos rfl]
    rw [e2, Option.bind_some, impl_TurnsBySpeed_f hk (by omega), Option.bind_some, spec_TurnsBySpeed_f hk (by omega), Option.bind_some, if_pos rfl, likeR_self hk (by omega), Option.bind_some, if_pos rfl, if_pos rfl]
    rw [e3, Option.bind_some, impl_HighestByHeight_f hk (by omega), Option.bind_some, spec_HighestByHeight_f hk (by omega), Option.bind_some, if_pos rfl, if_pos rfl]
    rw [e4, Option.bind_some, impl_TasksOfGarden_f hk (by omega), Option.bind_some, spec_TasksOfGarden_f hk (by omega), Option.bind_some, if_pos rfl, likeR_self hk (by omega), Option.bind_some, if_pos rfl]
    rw [e5, Option.bind_some, impl_LeastTower_f hk (by omega), Option.bind_some, spec_LeastTower_f hk (by omega), Option.bind_some, if_pos rfl, if_pos rfl]
    have tail := rules_tail (k := k) (g := g) (z := z.1) (m := z.2) hk (highR y.1 y.2).2
    by_cases c2 : (towerR w).2 = 0
    · rw [if_pos c2]
      have hgw : isG w = true := by
        cases h : isG w with
        | true => rfl
        | false =>
          unfold towerR at c2
          rw [if_neg (by rw [h]; simp)] at c2
          exact absurd c2 (show ¬ ((1 : Int) = 0) by decide)
      have ht : tower w 820 w.sum = ((towerR w).1, 0) := by
        have : towerR w = tower w 820 w.sum := if_pos hgw
        rw [← this]
        exact Prod.ext rfl c2
      have h8 := isG_iff.1 hgw
      obtain ⟨p1, p2, p3, p4, p5⟩ := tower_zero ht
      have hfar : (towerR w).1 ≤ 1000 := by
        by_cases q : 820 ≤ (towerR w).1
        · rw [tower_far h8.1.1 h8.2 q] at p2; cases p2
        · omega
      have hgr : grt w ≤ (towerR w).1 := grt_le.2 ⟨by have := plots_sum h8.2; omega, fun a ha => Int.le_trans (plots_le h8.2 a ha) p1⟩
      have et : tasksR w (towerR w).1 = (towT w (towerR w).1, 0) := by rw [tasksR_in hgw ⟨hgr, hfar⟩, if_pos p2]
      obtain ⟨r1, r2, r3⟩ := tower_round hk hgw ht
      rw [impl_TasksOfGarden_f hk (by omega), Option.bind_some, et]
      dsimp only
      rw [impl_LeastPlay_f hk (by rw [towT_len]; omega), Option.bind_some, impl_SumOfRates_f hk hgw, Option.bind_some, if_pos rfl, if_pos r1, if_neg (by omega)]
      dsimp only
      rw [if_pos rfl, if_neg (by omega)]
      by_cases c3 : (playR (towT w (towerR w).1)).2.1.length ≤ 120
      · rw [if_pos (by omega), r3 c3, Option.bind_some, if_pos rfl, if_pos rfl]
        exact tail
      · rw [if_neg (by omega)]
        exact tail
    · rw [if_neg c2]
      exact tail
end Go.Proofs.YtcbhhbkghbnljaaGreatDoor.Vf
