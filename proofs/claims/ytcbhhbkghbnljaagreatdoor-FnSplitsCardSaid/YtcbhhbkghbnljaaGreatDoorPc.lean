/- The program's search of a split: what the walk gives. Conditions: as each theorem states. My own. -/
import Derived.Test.YtcbhhbkghbnljaaGreatDoorPb
import Derived.Deep.AppendLies
import Derived.BigRegion
import Derived.Handy
import Derived.Carry
section
set_option linter.unusedVariables false
set_option linter.unusedSimpArgs false
set_option linter.unusedSimpArgs false
noncomputable section
namespace Go.Proofs.YtcbhhbkghbnljaaGreatDoor.Vf
open Go Go.V Go.RowKit
def dd (i : Nat) : List UInt8 := if i < 10 then [UInt8.ofNat (48 + i)] else [UInt8.ofNat (48 + i / 10), UInt8.ofNat (48 + i % 10)]
theorem dec_dd {i : Nat} (h : i < 100) : Lib.decDigits i = dd i := by
 rw [Lib.decDigits]
 unfold dd
 by_cases c : i < 10
 ·rw [dif_pos c, if_pos c]
 ·rw [dif_neg c, if_neg c, Lib.decDigits, dif_pos (by omega)]; rfl
theorem dd_inj : ∀ i : Nat, i < 100 → ∀ j : Nat, j < 100 → dd i = dd j → i = j := by decide +kernel
theorem dd_no : ∀ i : Nat, i < 100 → (44 : UInt8) ∉ dd i := by decide +kernel
theorem dd_len (i : Nat) : (dd i).length ≤ 2 := by unfold dd; split <;> simp
def jn : List (List UInt8) → List UInt8
 | [] => []
 | [a] => a
 | a :: b :: r => a ++ 44 :: jn (b :: r)
theorem join_jn : ∀ xs : List (List UInt8), Lib.join xs [44] = jn xs
 | [] => rfl
 | [a] => by simp [Lib.join, jn, List.intercalate]
 | a :: b :: r => by
  have := join_jn (b :: r)
  unfold Lib.join at this ⊢
  simp only [List.intercalate, List.intersperse, List.flatten_cons, jn] at this ⊢
  rw [← this]; simp
theorem jn_len : ∀ xs : List (List UInt8), (∀ x ∈ xs, x.length ≤ 2) → (jn xs).length ≤ 3 * xs.length
 | [], _ => by simp [jn]
 | [a], h => by have := h a (by simp); simp [jn]; omega
 | a :: b :: r, h => by
  have h1 := h a (by simp)
  have h2 := jn_len (b :: r) fun x hx => h x (List.mem_cons_of_mem _ hx)
  simp only [jn, List.length_append, List.length_cons] at h2 ⊢
  omega
def Tl (X : List UInt8) : Prop := X = [] ∨ ∃ Y, X = 44 :: Y
theorem part : ∀ {a b X Y : List UInt8}, (44 : UInt8) ∉ a → (44 : UInt8) ∉ b → Tl X → Tl Y → a ++ X = b ++ Y → a = b ∧ X = Y
 | [], [], _, _, _, _, _, _, h => ⟨rfl, h⟩
 | [], y :: b, X, Y, _, hb, hX, _, h => by
  rcases hX with rfl | ⟨Z, rfl⟩
  ·cases h
  ·have h : (44 : UInt8) :: Z = y :: (b ++ Y) := h
   exact absurd (List.mem_cons.2 (.inl (List.cons.inj h).1)) hb
 | x :: a, [], X, Y, ha, _, _, hY, h => by
  rcases hY with rfl | ⟨Z, rfl⟩
  ·cases h
  ·have h : x :: (a ++ X) = (44 : UInt8) :: Z := h
   exact absurd (List.mem_cons.2 (.inl (List.cons.inj h).1.symm)) ha
 | x :: a, y :: b, X, Y, ha, hb, hX, hY, h => by
  have h : x :: (a ++ X) = y :: (b ++ Y) := h
  obtain ⟨h1, h2⟩ := List.cons.inj h
  obtain ⟨h3, h4⟩ := part (fun q => ha (List.mem_cons_of_mem _ q)) (fun q => hb (List.mem_cons_of_mem _ q)) hX hY h2
  exact ⟨by rw [h1, h3], h4⟩
def SmN (xs : List Nat) : Prop := ∀ x ∈ xs, x < 100
theorem jn_cons (a : List UInt8) (r : List (List UInt8)) : ∃ X, Tl X ∧ jn (a :: r) = a ++ X ∧ (X = [] ↔ r = []) ∧ (∀ b t, r = b :: t → X = 44 :: jn r) := by
 cases r with
 | nil => exact ⟨[], .inl rfl, by simp [jn], by simp, fun b t h => by cases h⟩
 | cons b t => exact ⟨44 :: jn (b :: t), .inr ⟨_, rfl⟩, rfl, by simp, fun _ _ _ => rfl⟩
theorem jn_inj : ∀ {xs ys : List Nat}, SmN xs → SmN ys → xs ≠ [] → ys ≠ [] → jn (xs.map dd) = jn (ys.map dd) → xs = ys
 | [], _, _, _, h, _, _ => absurd rfl h
 | _, [], _, _, _, h, _ => absurd rfl h
 | x :: xs, y :: ys, hx, hy, _, _, h => by
  obtain ⟨X, tX, eX, nX, cX⟩ := jn_cons (dd x) (xs.map dd)
  obtain ⟨Y, tY, eY, nY, cY⟩ := jn_cons (dd y) (ys.map dd)
  have hx0 := hx x (by simp); have hy0 := hy y (by simp)
  rw [List.map_cons, List.map_cons, eX, eY] at h
  obtain ⟨h1, h2⟩ := part (dd_no x hx0) (dd_no y hy0) tX tY h
  have := dd_inj x hx0 y hy0 h1
  subst this
  cases xs with
  | nil =>
   have : ys.map dd = [] := nY.1 (by rw [← h2]; exact nX.2 rfl)
   rw [List.map_eq_nil_iff.1 this]
  | cons a xs =>
   cases ys with
   | nil => exact absurd (nX.1 (by rw [h2]; exact nY.2 rfl)) (by simp)
   | cons b ys =>
    have e1 := cX (dd a) (xs.map dd) rfl
    have e2 := cY (dd b) (ys.map dd) rfl
    rw [e1, e2] at h2
    rw [jn_inj (fun z hz => hx z (List.mem_cons_of_mem _ hz)) (fun z hz => hy z (List.mem_cons_of_mem _ hz)) (by simp) (by simp) (List.cons.inj h2).2]
def comma : ByteArray := ⟨#[44]⟩
def Sm (l : List Int) : Prop := l ≠ [] ∧ l.length ≤ 1000 ∧ ∀ x ∈ l, 0 ≤ x ∧ x < 100
def keyOf (l : List Int) : ByteArray := joinS (l.map numS) comma
theorem key_data {l : List Int} (h : ∀ x ∈ l, 0 ≤ x ∧ x < 100) : (l.map numS).map (·.data.toList) = (l.map Int.toNat).map dd := by
 induction l with
 | nil => rfl
 | cons a l ih =>
  have ha := h a (by simp)
  simp only [List.map_cons]
  rw [ih fun x hx => h x (List.mem_cons_of_mem _ hx)]
  congr 1
  exact dec_dd (show a.toNat < 100 by omega)
theorem key_inj {l r : List Int} (hl : Sm l) (hr : Sm r) (h : keyOf l = keyOf r) : l = r := by
 have e : ∀ {l : List Int}, Sm l → (keyOf l).data.toList = jn ((l.map Int.toNat).map dd) := fun {l} hl => by
  show (Lib.join ((l.map numS).map (·.data.toList)) [44]) = _
  rw [key_data hl.2.2, join_jn]
 have h2 : jn ((l.map Int.toNat).map dd) = jn ((r.map Int.toNat).map dd) := by rw [← e hl, ← e hr, h]
 have sm : ∀ {l : List Int}, Sm l → SmN (l.map Int.toNat) := fun {l} hl x hx => by
  obtain ⟨y, hy, rfl⟩ := List.mem_map.1 hx
  have := hl.2.2 y hy; omega
 have h3 := jn_inj (sm hl) (sm hr) (by simpa using hl.1) (by simpa using hr.1) h2
 have back : ∀ {l : List Int}, Sm l → (l.map Int.toNat).map (fun n : Nat => (n : Int)) = l := fun {l} hl => by
  rw [List.map_map]
  conv => rhs; rw [← List.map_id l]
  exact List.map_congr_left fun x hx => by have := hl.2.2 x hx; show ((x.toNat : Nat) : Int) = x; omega
 rw [← back hl, ← back hr, h3]
theorem w64k {i : Nat} (h : i ≤ 9223372036854775806) : wrap64 ((i : Int) + 1) = ((i + 1 : Nat) : Int) := by
 unfold wrap64; omega
theorem joined_f {k : Nat} {l : List Int} (hk : 2097152 ≤ k) (h : Sm l) : impl_joined.f k l comma = some (keyOf l) := by
 obtain ⟨h1, h2, h3⟩ := h
 have key : ∀ (d i n : Nat), i + d = l.length → d < n → impl_joined.l0 k n comma ((l.take i).map numS) l (l.length : Int) i = some (keyOf l) := by
  intro d
  induction d with
  | zero =>
   intro i n hi hn
   obtain rfl : i = l.length := by omega
   cases n with
   | zero => omega
   | succ n =>
    simp only [impl_joined.l0, impl_joined.s0]
    rw [if_neg (by omega), List.take_length]
    have hj : ((Lib.join (((l.map numS)).map (·.data.toList)) comma.data.toList).length ≤ 1000000) := by
     show (Lib.join ((l.map numS).map (·.data.toList)) [44]).length ≤ _
     rw [key_data h3, join_jn]
     have := jn_len ((l.map Int.toNat).map dd) (fun x hx => by obtain ⟨y, _, rfl⟩ := List.mem_map.1 hx; exact dd_len y)
     rw [List.length_map, List.length_map] at this; omega
    unfold strings_Join.f
    rw [if_pos ⟨by simpa using h1, by simpa using h2, hj⟩]; rfl
  | succ d ih =>
   intro i n hi hn
   cases n with
   | zero => omega
   | succ n =>
    have hx := h3 (l[i]'(by omega)) (List.getElem_mem _)
    have e : rd l (i : Int) = l[i]'(by omega) := by unfold rd; rw [Int.toNat_natCast, List.getD_eq_getElem?_getD, List.getElem?_eq_getElem (by omega), Option.getD_some]
    have ht : (l.take (i + 1)).map numS = (l.take i).map numS ++ [numS (rd l (i : Int))] := by rw [List.take_succ_eq_append_getElem (by omega), List.map_append, e]; rfl
    have hd : impl_decimal.f (rd l (i : Int)) = some (numS (rd l (i : Int))) := by
     unfold impl_decimal.f strconv_FormatInt.f
     rw [if_pos ⟨by omega, by omega, rfl⟩]; rfl
    have hlen : ((l.take i).map numS).length ≤ 1000 := by rw [List.length_map, List.length_take]; omega
    simp only [impl_joined.l0, impl_joined.s0]
    rw [if_pos (by omega), if_pos (by omega), if_pos (by omega), hd, Option.bind_some, if_pos (by omega), w64k (by omega), ← ht]
    exact ih (i + 1) n (by omega) (by omega)
 unfold impl_joined.f impl_joined.g
 exact key l.length 0 k (by omega) (by omega)
end Go.Proofs.YtcbhhbkghbnljaaGreatDoor.Vf
end
section
set_option linter.unusedVariables false
set_option linter.unusedSimpArgs false
set_option maxRecDepth 100000
noncomputable section
namespace Go.Proofs.YtcbhhbkghbnljaaGreatDoor.Vf
open Go Go.V Go.RowKit Go.Proofs
theorem mi100 : Nonempty (MapInfo Tryz.prog 100 .str .bool) := mapTys_ok tbOk (by rfl)
abbrev Tab := List (ByteArray × Bool)
def hasTab (w : World) (q : Nat) (T : Tab) : Prop := ∃ es cl, w.heap[q]? = some (.map es cl) ∧ entsOf es = mapEnts .str .bool T
section
variable {ops : Array Oper} {rest : List Oper} {o : Oper} {a : Act} {Q : Exit → Act → World → Prop} {w : World}
theorem wpList_look (hg : o.guard = none) (m x : Operand) (hop : o.op = Op.lookup 100 m x true) {q : Nat} {T : Tab} {s : ByteArray} (hm : a.eval m = .map (some q)) (hx : a.eval x = .string s) (hT : hasTab w q T)
  (hK : wpList Tryz.prog ops Q rest (a.put o.dst (.tuple #[.bool ((mget .str T s).getD false), .bool (mget .str T s).isSome])) w) : wpList Tryz.prog ops Q (o :: rest) a w := by
 obtain ⟨mi⟩ := mi100
 obtain ⟨es, cl, h1, h2⟩ := hT
 have hrun := run_look mi h1 h2 s true
 refine wpList_plain hg fun K' hK' => ?_
 have hrun : (Instr.lookup 100 (.map (some q)) (.string s) true).run Tryz.prog w = .ok (.tuple #[.bool ((mget .str T s).getD false), .bool (mget .str T s).isSome]) w := hrun
 unfold Oper.wp
 simp [execOp, hop, hm, hx, hrun, Result.andThen]
 exact hK' _ _ hK
theorem wpList_put (hg : o.guard = none) (m x v : Operand) (hop : o.op = Op.mapUpdate 100 m x v) {q : Nat} {T : Tab} {s : ByteArray} {b : Bool} (hm : a.eval m = .map (some q)) (hx : a.eval x = .string s) (hv : a.eval v = .bool b) (hT : hasTab w q T)
  (hK : ∀ w', hasTab w' q (mput .str T s b) → (∀ r, r ≠ q → w'.heap[r]? = w.heap[r]?) → w'.heap.size = w.heap.size → (w'.os = w.os ∧ w'.tape = w.tape ∧ w'.output = w.output) → wpList Tryz.prog ops Q rest (a.put o.dst undef) w') : wpList Tryz.prog ops Q (o :: rest) a w := by
 obtain ⟨mi⟩ := mi100
 obtain ⟨es, cl, h1, h2⟩ := hT
 obtain ⟨es', cl', hrun, h3⟩ := run_mput mi h1 h2 s b
 refine wpList_plain hg fun K' hK' => ?_
 have hrun : (Instr.mapUpdate 100 (.map (some q)) (.string s) (.bool b)).run Tryz.prog w = .ok () { w with heap := w.heap.setIfInBounds q (.map es' cl') } := hrun
 unfold Oper.wp
 simp [execOp, hop, hm, hx, hv, hrun, Result.andThen]
 refine hK' _ _ (hK _ ⟨es', cl', ?_, h3⟩ (fun r hr => ?_) (by simp) ⟨rfl, rfl, rfl⟩)
 ·simp [Array.getElem?_setIfInBounds, n_lt h1]
 ·simp [Array.getElem?_setIfInBounds, Ne.symm hr]
end
theorem gl_stay {w w' : World} {Q : Nat → Prop} (h : Gl Tryz.prog w Q) (hs : w.heap.size ≤ w'.heap.size) (hk : ∀ r, ¬ Q r → r < w.heap.size → w'.heap[r]? = w.heap[r]?) : Gl Tryz.prog w' Q := by
 intro g hg
 obtain ⟨h1, h2, h3⟩ := h g hg
 refine ⟨h1, Nat.lt_of_lt_of_le h2 hs, ?_⟩
 unfold Lib.TabIs World.var? at h3 ⊢
 rw [hg, Option.bind_some] at h3 ⊢
 rw [hk g h1 h2]
 exact h3
def subL (l G : List Int) (c : Int) : Nat → List Int
 | 0 => []
 | i + 1 => subL l G c i ++ (if V.rd l i = c then [V.rd G i] else [])
def ownG (l G : List Int) (c : Int) : List Int := subL l G c l.length
def canO (k : Nat) (x : List Int) : Option Bool := (impl_CanServe.f k x).map (·.1)
def TG (k : Nat) (T : Tab) : Prop := ∀ e ∈ T, ∃ x, Sm x ∧ e.1 = keyOf x ∧ canO k x = some e.2
theorem mget_mem {T : Tab} {s : ByteArray} {b : Bool} (h : mget .str T s = some b) : (s, b) ∈ T := by
 induction T with
 | nil => cases h
 | cons e T ih =>
  obtain ⟨a, x⟩ := e
  simp only [mget] at h
  split at h
  ·rename_i hk
   have : s = a := (keyS_iff _ _).1 hk
   obtain rfl := Option.some.inj h
   rw [this]; exact List.mem_cons_self
  ·exact List.mem_cons_of_mem _ (ih h)
theorem mput_mem {T : Tab} {s : ByteArray} {b : Bool} {e : ByteArray × Bool} (h : e ∈ mput .str T s b) : e = (s, b) ∨ e ∈ T := by
 induction T with
 | nil => exact .inl (List.mem_singleton.1 h)
 | cons e' T ih =>
  obtain ⟨a, x⟩ := e'
  simp only [mput] at h
  split at h
  ·rcases List.mem_cons.1 h with h | h
   ·exact .inl h
   ·exact .inr (List.mem_cons_of_mem _ h)
  ·rcases List.mem_cons.1 h with h | h
   ·exact .inr (h ▸ List.mem_cons_self)
   ·rcases ih h with h | h
    ·exact .inl h
    ·exact .inr (List.mem_cons_of_mem _ h)
theorem TG.get {k : Nat} {T : Tab} {x : List Int} {b : Bool} (h : TG k T) (hx : Sm x) (hg : mget .str T (keyOf x) = some b) : canO k x = some b := by
 obtain ⟨y, h1, h2, h3⟩ := h _ (mget_mem hg)
 rw [key_inj hx h1 h2]; exact h3
theorem TG.put {k : Nat} {T : Tab} {x : List Int} {b : Bool} (h : TG k T) (hx : Sm x) (hb : canO k x = some b) : TG k (mput .str T (keyOf x) b) := by
 intro e he
 rcases mput_mem he with rfl | he
 ·exact ⟨x, hx, rfl, hb⟩
 ·exact h e he
structure sP (w : World) (base g q : Nat) (G : List Int) (m : Int) (l : List Int) (T : Tab) (vG vL : Value) : Prop where
 hg : w.heap[g]? = some (.cells #[vG, .int .i64 m, vL, .map (some q)] 102 (0, 0))
 gG : bRL w (fun r => r = g ∨ r = q ∨ base ≤ r) vG G
 lL : bOw w base vL l
 hq : hasTab w q T
 lt : g < base ∧ q < base ∧ base ≤ w.heap.size ∧ g ≠ q
 gl : Gl Tryz.prog w (fun r => r = g ∨ r = q ∨ base ≤ r)
structure sF (base g q : Nat) (w w' : World) : Prop where
 os : w'.os = w.os
 tape : w'.tape = w.tape
 output : w'.output = w.output
 size : w.heap.size ≤ w'.heap.size
 block : ∀ r, r < base → r ≠ g → r ≠ q → w'.heap[r]? = w.heap[r]?
theorem sF.refl (base g q : Nat) (w : World) : sF base g q w w := ⟨rfl, rfl, rfl, Nat.le_refl _, fun _ _ _ _ => rfl⟩
theorem sF.trans {base g q : Nat} {w w1 w2 : World} (h : sF base g q w w1) (k : sF base g q w1 w2) : sF base g q w w2 := ⟨k.os.trans h.os, k.tape.trans h.tape, k.output.trans h.output, Nat.le_trans h.size k.size, fun r a b c => (k.block r a b c).trans (h.block r a b c)⟩
theorem sF.of {base g q : Nat} {w w' : World} (h : Below w.heap.size w w') (hb : base ≤ w.heap.size) : sF base g q w w' := ⟨h.os, h.tape, h.output, h.size, fun r hr _ _ => h.block r (Nat.lt_of_lt_of_le hr hb)⟩
section
variable {w w' : World} {base g q : Nat} {G l : List Int} {m : Int} {T : Tab} {vG vL : Value}
theorem sP.later (h : sP w base g q G m l T vG vL) (hb : Below w.heap.size w w') : sP w' base g q G m l T vG vL := by
 obtain ⟨es, cl, h1, h2⟩ := h.hq
 have o := h.lt
 exact ⟨(hb.block g (n_lt h.hg)).trans h.hg, h.gG.keep fun r hn hr => ⟨hn, hb.block r hr⟩, h.lL.keep fun r _ hr => hb.block r hr, ⟨es, cl, (hb.block q (n_lt h1)).trans h1, h2⟩, ⟨o.1, o.2.1, Nat.le_trans o.2.2.1 hb.size, o.2.2.2⟩, gl_stay h.gl hb.size fun r _ hr => hb.block r hr⟩
theorem sP.gb (h : sP w base g q G m l T vG vL) : GB w.heap.size w := GB.new (h.gl.move (Frame0.refl _ _) fun r h => h.elim)
theorem sP.c0 (h : sP w base g q G m l T vG vL) : w.cell? ⟨g, 0, none⟩ = some vG := by simp [World.cell?, h.hg]
theorem sP.c1 (h : sP w base g q G m l T vG vL) : w.cell? ⟨g, 1, none⟩ = some (.int .i64 m) := by simp [World.cell?, h.hg]
theorem sP.c2 (h : sP w base g q G m l T vG vL) : w.cell? ⟨g, 2, none⟩ = some vL := by simp [World.cell?, h.hg]
theorem sP.c3 (h : sP w base g q G m l T vG vL) : w.cell? ⟨g, 3, none⟩ = some (.map (some q)) := by simp [World.cell?, h.hg]
theorem sP.fr (h : sP w base g q G m l T vG vL) (i : Nat) : w.frozen? ⟨g, i, none⟩ = false := by simp [World.frozen?, h.hg]
theorem sP.tab (h : sP w base g q G m l T vG vL) {T' : Tab} (hT : hasTab w' q T') (hk : ∀ r, r ≠ q → w'.heap[r]? = w.heap[r]?) (hs : w'.heap.size = w.heap.size) : sP w' base g q G m l T' vG vL := by
 have o := h.lt
 exact ⟨(hk g o.2.2.2).trans h.hg, h.gG.keep fun r hn hr => ⟨hn, hk r fun e => hn (.inr (.inl e))⟩, h.lL.keep fun r hr _ => hk r (by omega), hT, ⟨o.1, o.2.1, by omega, o.2.2.2⟩, gl_stay h.gl (Nat.le_of_eq hs.symm) fun r hn _ => hk r fun e => hn (.inr (.inl e))⟩
end
end Go.Proofs.YtcbhhbkghbnljaaGreatDoor.Vf
end
section
set_option linter.unusedVariables false
set_option linter.unusedSimpArgs false
set_option maxRecDepth 100000
noncomputable section
namespace Go.Proofs.YtcbhhbkghbnljaaGreatDoor.Vf
open Go Go.V Go.RowKit Go.Proofs
theorem b_froz {w : World} {b : Nat} {v : Value} {e : TypeId} (h : w.heap[b]? = some (.cells #[v] e (0, 0))) : w.frozen? ⟨b, 0, none⟩ = false := by simp [World.frozen?, h]
theorem b_set {w : World} {b : Nat} {v u : Value} {e : TypeId} (h : w.heap[b]? = some (.cells #[v] e (0, 0))) : (w.setCell ⟨b, 0, none⟩ u).heap[b]? = some (.cells #[u] e (0, 0)) := by
 simp [World.setCell, Array.getElem?_modify, h]
theorem bOw.own {w : World} {base b : Nat} {v : Value} {l : List Int} (h : bOw w base v l) (hb : v.ownBlock = some b) : base ≤ b := by
 rcases h.2 with ⟨rfl, _⟩ | ⟨g, cap, cur, rfl, hg, _⟩
 ·cases hb
 ·have : g = b := by simpa [Value.ownBlock] using hb
  omega
theorem ap_step {w wr W w1 : World} {vO : Value} {x : List Int} {o : Nat} (ho : o = w.heap.size) (HO : wr.heap[o]? = some (.cells #[vO] 37 (0, 0))) (HR : bOw wr (o + 1) vO x) (HB : Below o w wr) (hW : Below wr.heap.size wr W) (hg : W.grownBy w1 vO.ownBlock) :
  w1.heap[o]? = some (.cells #[vO] 37 (0, 0)) ∧ Below o w w1 := by
 have ho1 := n_lt HO
 have hs := hW.size
 have h1 : Below o w W := HB.trans (hW.mono (by omega))
 have h2 : Below o w w1 := h1.grown hg (by omega) fun k hk => by have := HR.own hk; omega
 refine ⟨?_, h2⟩
 rw [hg.block o (by omega) fun hk => by have := HR.own hk.symm; omega]
 exact (hW.block o ho1).trans HO
theorem ap_store {w w1 : World} {vO v : Value} {x : List Int} {y : Int} {o : Nat} (ho : o = w.heap.size) (HO : w1.heap[o]? = some (.cells #[vO] 37 (0, 0))) (hr : w1.ownsRow (o + 1) 2 1 v (x.length + 1) (x.map (Value.int .i64) ++ [Value.int .i64 y])) (HB : Below o w w1) :
  (w1.setCell ⟨o, 0, none⟩ v).heap[o]? = some (.cells #[v] 37 (0, 0)) ∧ bOw (w1.setCell ⟨o, 0, none⟩ v) (o + 1) v (x ++ [y]) ∧ Below o w (w1.setCell ⟨o, 0, none⟩ v) := by
 have far : ∀ r, r ≠ o → (w1.setCell ⟨o, 0, none⟩ v).heap[r]? = w1.heap[r]? := fun r hr => Below.heap_setCell _ _ _ _ hr
 have h1 : bOw w1 (o + 1) v (x ++ [y]) := by
  unfold bOw
  rw [List.length_append, List.map_append]; exact hr
 exact ⟨b_set HO, h1.keep fun r hb _ => far r (by omega), HB.os, HB.tape, HB.output, by simpa [World.setCell] using HB.size, fun r hr => (far r (by omega)).trans (HB.block r hr)⟩
theorem subL_len (l G : List Int) (c : Int) : ∀ i, (subL l G c i).length ≤ i
 | 0 => Nat.le_refl _
 | i + 1 => by
  have := subL_len l G c i
  simp only [subL]
  rw [List.length_append]
  split <;> simp <;> omega
set_option maxHeartbeats 4000000 in
theorem canBe_calls (k : Nat) (hk : 2097152 ≤ k) {w : World} {base g q : Nat} {G l : List Int} {m c : Int} {T : Tab} {vG vL : Value} {b : Bool} (P : sP w base g q G m l T vG vL) (hl : l ≠ []) (hG : l.length ≤ G.length) (hn : G.length ≤ 1000) (hx : Sm (ownG l G c)) (hb : canO k (ownG l G c) = some b) (hT : TG k T) :
  Calls Tryz.prog 120 #[.pointer (some ⟨g, 0, none⟩), .int .i64 c] w fun e w' => e = .returned (.bool b) ∧ ∃ T', TG k T' ∧ sP w' base g q G m l T' vG vL ∧ sF base g q w w' := by
 obtain ⟨rL, cL, rfl, hcL, hrL, helL⟩ := P.lL.sl hl
 have hG0 : G ≠ [] := by
  rintro rfl
  cases l with
  | nil => exact hl rfl
  | cons a l => simp at hG
 obtain ⟨AG, cG, rfl, hcG, helG⟩ := P.gG.sl hG0
 have HB1 : Aside0 (Below w.heap.size w (w.alloc (.cells #[.slice none 0 0] 37))) := ⟨(Below.refl _ _).alloc (Nat.le_refl _) _⟩
 have HP := Aside0.mk P
 have HC : Aside0 (∀ W, Below w.heap.size w W → W.cell? ⟨g, 0, none⟩ = some (.slice (some AG) G.length cG) ∧ W.cell? ⟨g, 2, none⟩ = some (.slice (some ⟨rL, 0, none⟩) l.length cL) ∧ W.cell? ⟨g, 3, none⟩ = some (.map (some q))) := ⟨fun W hW => ⟨(P.later hW).c0, (P.later hW).c2, (P.later hW).c3⟩⟩
 have hc2 := (HC.out _ HB1.out).2.1
 clear P
 have HI : Aside0 (∃ i0 : TypeInfo, Tryz.prog.info? 2 = some i0 ∧ i0.zero = some (.int .i64 0) ∧ i0.size = 1 ∧ i0.bytes = 8) := ⟨by
  have hinfo : (Tryz.prog.info? 2).map (fun i => (i.zero, i.size, i.bytes)) = some (some (.int .i64 0), 1, 8) := by kernel_rfl
  obtain ⟨i0, h1, h2⟩ := Option.map_eq_some_iff.1 hinfo
  simp only [Prod.mk.injEq] at h2
  exact ⟨i0, h1, h2.1, h2.2.1, h2.2.2⟩⟩
 have HU : Aside0 (Tryz.prog.underlying 24 = some (.slice 2)) := ⟨by kernel_rfl⟩
 go_enter Tryz.func120, Tryz.ntmps120
 go_wp2
 go_loopg [16] l.length (fun gg s16 wr => ∃ (i : Nat) (vO : Value), i ≤ l.length ∧ l.length - i ≤ gg ∧ s16 = .int .i64 i ∧ Aside0 (wr.heap[w.heap.size]? = some (.cells #[vO] 37 (0, 0))) ∧ Aside0 (bOw wr (w.heap.size + 1) vO (subL l G c i)) ∧ Aside0 (Below w.heap.size w wr))
 case atStart => exact ⟨0, .slice none 0 0, Nat.zero_le _, by omega, rfl, ⟨heap_alloc_new w _⟩, ⟨⟨rfl, .inl ⟨rfl, rfl⟩⟩⟩, HB1⟩
 case round =>
  obtain ⟨i, vO, hi, hgg, rfl, HO, HR, HBw⟩ := hrel
  have hwr := HC.out _ HBw.out
  have hc0 := hwr.1
  have hc3 := hwr.2.2
  have hco : wr.cell? ⟨w.heap.size, 0, none⟩ = some vO := by simp [World.cell?, HO.out]
  have hfo : wr.frozen? ⟨w.heap.size, 0, none⟩ = false := by simp [World.frozen?, HO.out]
  clear hwr
  by_cases hlt : i < l.length
  ·have hltz : decide ((i : Int) < (l.length : Int)) = true := decide_eq_true (by omega)
   have hel : wr.cell? ⟨rL, i, none⟩ = some (.int .i64 (V.rd l i)) := by
    have h1 := helL i hlt
    exact (HBw.out.cell (World.block_lt_of_cell? w _ h1)).trans h1
   have heg : wr.cell? (AG.add i) = some (.int .i64 (V.rd G i)) := by
    have h1 := helG i (by omega)
    exact (HBw.out.cell (World.block_lt_of_cell? w _ h1)).trans h1
   have hiG : i < G.length := by omega
   by_cases hq : V.rd l i = c
   ·have hq1 : (V.rd l i == c) = true := by simp [hq]
    have hq2 : decide (V.rd l i = c) = true := decide_eq_true hq
    have HRi := HR
    obtain ⟨i0, hi0, hz0, hs0, hy0⟩ := HI.out
    have HI0 := Aside0.mk hi0
    have HZ0 := Aside0.mk hz0
    have HS0 := Aside0.mk hs0
    have HY0 := Aside0.mk hy0
    have HP : Aside0 (∀ W, Below wr.heap.size wr W → W.ownsRow (w.heap.size + 1) 2 1 vO (subL l G c i).length ((subL l G c i).map (Value.int .i64))) := ⟨fun W hW => bOw.keep HR.out fun r _ hr => hW.block r hr⟩
    have HC1 : Aside0 (∀ (W : World) (j : Nat) (u : Value), W.heap[wr.heap.size]? = some (.cells #[Value.int .i64 (V.rd G i)] 2 (0, 0)) → [Value.int .i64 (V.rd G i)][j]? = some u → W.cell? ((⟨wr.heap.size, 0, none⟩ : Addr).add j) = some u) := ⟨fun W j u hW hu => by
      match j, hu with
      | 0, hu =>
       have hu : some (Value.int .i64 (V.rd G i)) = some u := hu
       cases hu
       have ea : (⟨wr.heap.size, 0, none⟩ : Addr).add 0 = ⟨wr.heap.size, 0, none⟩ := by unfold Addr.add; split <;> simp_all
       rw [ea]
       exact b_cell hW
      | j + 1, hu => simp at hu⟩
    have HC2 : Aside0 (∀ u ∈ [Value.int .i64 (V.rd G i)], u.oneCell' = true) := ⟨fun u hu => by rw [List.mem_singleton.1 hu]; rfl⟩
    have HM1 : Aside0 ((subL l G c i).length + 1 ≤ maxLen ∧ ((subL l G c i).length + 1) * 8 ≤ 140737488355328) := ⟨by have := subL_len l G c i; unfold maxLen; omega⟩
    have HWb : Aside0 (∀ o, Below wr.heap.size wr (wr.alloc o).drew ∧ Below wr.heap.size wr (wr.drew.alloc o)) := ⟨fun o => ⟨Below.drew ((Below.refl _ _).alloc (Nat.le_refl _) _), (Below.drew (Below.refl _ _)).alloc (Nat.le_refl _) _⟩⟩
    have HAP : Aside0 (∀ W w1, Below wr.heap.size wr W → W.grownBy w1 vO.ownBlock → w1.heap[w.heap.size]? = some (.cells #[vO] 37 (0, 0)) ∧ Below w.heap.size w w1) := ⟨fun W w1 h1 h2 => ap_step rfl HO.out HR.out HBw.out h1 h2⟩
    have HSZ : Aside0 (w.heap.size + 1 ≤ wr.heap.size + 1) := ⟨Nat.succ_le_succ HBw.out.size⟩
    clear hi0 hz0 hs0 hy0 hco hfo
    have hco : wr.cell? ⟨w.heap.size, 0, none⟩ = some vO := b_cell HO.out
    have hco2 : (wr.alloc (.cells #[Value.int .i64 (V.rd G i)] 2)).cell? ⟨w.heap.size, 0, none⟩ = some vO := b_cell ((heap_alloc_old wr _ (n_lt HO.out)).trans HO.out)
    go_wp2
    go_region_law (first
     | (go_loud (refine step_append_lies _ rfl _ _ 24 rfl (w.heap.size + 1) 2 i0 (.int .i64 0) 1 8 HU.out HI0.out HZ0.out HS0.out HY0.out rfl (by decide) vO (subL l G c i).length ((subL l G c i).map (Value.int .i64)) rfl (HP.out _ (by first | exact (HWb.out _).1 | exact (HWb.out _).2)) ⟨wr.heap.size, 0, none⟩ 1 1 [Value.int .i64 (V.rd G i)] rfl rfl (fun j u hu => HC1.out _ j u (by exact heap_alloc_new wr _) hu) HC2.out (by decide) HM1.out.1 HM1.out.2 (by exact Nat.le_trans HSZ.out (Nat.le_of_eq (by simp))) (wr.heap.size + 1) (by simp) ?_; intro g1 cap1 w1 hown1 hgr1 _ _; obtain ⟨hO1, hB1⟩ := HAP.out _ _ (by first | exact (HWb.out _).1 | exact (HWb.out _).2) hgr1; have hc1 := b_cell hO1; have hf1 := b_froz hO1)))
    all_goals (
     obtain ⟨hO2, hR2, hB2⟩ := ap_store rfl hO1 hown1 hB1
     clear hown1 hgr1 hO1 hB1 hc1 hf1
     generalize (w1.setCell ⟨w.heap.size, 0, none⟩ (.slice (some ⟨g1, 0, none⟩) ((subL l G c i).length + 1) cap1)) = w2 at hO2 hR2 hB2 ⊢
     have hR3 : bOw w2 (w.heap.size + 1) (.slice (some ⟨g1, 0, none⟩) ((subL l G c i).length + 1) cap1) (subL l G c (i + 1)) := by
      simp only [subL]; rw [if_pos hq]; exact hR2
     have HO2 := Aside0.mk hO2
     have HR3 := Aside0.mk hR3
     have HB2 := Aside0.mk hB2
     clear hO2 hR2 hR3 hB2
     go_wp2
     go_roundg (l.length - (i + 1))
     case measure => omega
     case rel => exact ⟨i + 1, _, by omega, Nat.le_refl _, (by first | go_num | (rw [show wrap64 ((i : Int) + 1) = ((i + 1 : Nat) : Int) by unfold wrap64; omega])), HO2, HR3, HB2⟩)
   ·have hq1 : (V.rd l i == c) = false := by simp [hq]
    have hq2 : decide (V.rd l i = c) = false := decide_eq_false hq
    have HR3 : Aside0 (bOw wr (w.heap.size + 1) vO (subL l G c (i + 1))) := ⟨by simp only [subL]; rw [if_neg hq, List.append_nil]; exact HR.out⟩
    go_wp2
    go_roundg (l.length - (i + 1))
    case measure => omega
    case rel => exact ⟨i + 1, _, by omega, Nat.le_refl _, (by first | go_num | (rw [show wrap64 ((i : Int) + 1) = ((i + 1 : Nat) : Int) by unfold wrap64; omega])), HO, HR3, HBw⟩
  ·have hltz : decide ((i : Int) < (l.length : Int)) = false := decide_eq_false (by omega)
   obtain rfl : i = l.length := by omega
   have HR : Aside0 (bOw wr (w.heap.size + 1) vO (ownG l G c)) := HR
   have HJ : Aside0 (∀ W, Below wr.heap.size wr W → Calls Tryz.prog 108 #[vO, .string ⟨#[44]⟩] W fun e w' => e = .returned (.string (keyOf (ownG l G c))) ∧ Below W.heap.size W w') := ⟨fun W hW => c_LS_s (M108 k) ((HP.out.later (HBw.out.trans (hW.mono HBw.out.size))).gb) ((bOw.rl HR.out (N := fun _ => False) (fun _ _ h => h)).keep (N' := fun _ => False) fun r _ hr => ⟨id, hW.block r hr⟩) (joined_f hk hx)⟩
   have HTr : Aside0 (∀ {A C : World}, Below wr.heap.size wr A → Below A.heap.size A C → Below wr.heap.size wr C) := ⟨fun h1 h2 => h1.trans (h2.mono h1.size)⟩
   have HTb : Aside0 (∀ W, Below wr.heap.size wr W → hasTab W q T) := ⟨fun W hW => (HP.out.later (HBw.out.trans (hW.mono HBw.out.size))).hq⟩
   have HW : Aside0 (∀ W, Below wr.heap.size wr W → W.cell? ⟨g, 3, none⟩ = some (.map (some q)) ∧ W.cell? ⟨w.heap.size, 0, none⟩ = some vO) := ⟨fun W hW => ⟨(HP.out.later (HBw.out.trans (hW.mono HBw.out.size))).c3, b_cell ((hW.block _ (n_lt HO.out)).trans HO.out)⟩⟩
   cases hm : mget .str T (keyOf (ownG l G c)) with
   | some b' =>
    obtain rfl : b' = b := Option.some.inj ((hT.get hx hm).symm.trans hb)
    go_wp2_with (first
     | (go_at_call 108; refine (HJ.out _ (Below.refl _ _)).mono ?_; rintro e w2 ⟨rfl, hb2⟩; obtain ⟨hc3, hco⟩ := HW.out _ hb2)
     | (at_lookup; refine wpList_look rfl _ _ rfl rfl rfl (HTb.out _ hb2) ?_; rw [hm]))
    go_returns
    have hb3 := HBw.out.trans (hb2.mono HBw.out.size)
    exact ⟨rfl, T, hT, HP.out.later hb3, sF.of hb3 HP.out.lt.2.2.1⟩
   | none =>
    obtain ⟨⟨b', cc⟩, e1, e2⟩ := Option.map_eq_some_iff.1 hb
    have e2 : b' = b := e2
    subst e2
    have HCn : Aside0 (∀ W, Below wr.heap.size wr W → Calls Tryz.prog 40 #[.agg #[vO]] W fun e w' => e = .returned (.tuple #[.bool b', .int .i64 cc]) ∧ Below W.heap.size W w') := ⟨fun W hW => c_T_bi (M40 k) ((HP.out.later (HBw.out.trans (hW.mono HBw.out.size))).gb) ((bOw.rl HR.out (N := fun _ => False) (fun _ _ h => h)).keep (N' := fun _ => False) fun r _ hr => ⟨id, hW.block r hr⟩) e1⟩
    have HTG : Aside0 (TG k (mput .str T (keyOf (ownG l G c)) b')) := ⟨hT.put hx hb⟩
    clear e1 hb
    go_wp2_with (first
     | (go_at_call 108; refine (HJ.out _ (Below.refl _ _)).mono ?_; rintro e w2 ⟨rfl, hb2⟩; obtain ⟨hc3, hco⟩ := HW.out _ hb2)
     | (go_at_call 40; refine (HCn.out _ hb2).mono ?_; rintro e w3 ⟨rfl, hb3⟩; have hb23 := HTr.out hb2 hb3; obtain ⟨hc3, hco⟩ := HW.out _ hb23)
     | (at_lookup; refine wpList_look rfl _ _ rfl rfl rfl (HTb.out _ hb2) ?_; rw [hm])
     | (at_mapUpdate; refine wpList_put rfl _ _ _ rfl rfl rfl rfl (HTb.out _ hb23) ?_; intro w4 hT4 hk4 hs4 ho4))
    go_returns
    have hb5 := HBw.out.trans (hb23.mono HBw.out.size)
    have hP3 := HP.out.later hb5
    have hq3 := hP3.lt
    exact ⟨rfl, _, HTG.out, hP3.tab hT4 hk4 hs4, ho4.1.trans hb5.os, ho4.2.1.trans hb5.tape, ho4.2.2.trans hb5.output, by rw [hs4]; exact hb5.size, fun r h1 h2 h3 => (hk4 r h3).trans (hb5.block r (Nat.lt_of_lt_of_le h1 HP.out.lt.2.2.1))⟩
end Go.Proofs.YtcbhhbkghbnljaaGreatDoor.Vf
end
section
set_option linter.unusedVariables false
set_option linter.unusedSimpArgs false
set_option maxRecDepth 100000
noncomputable section
namespace Go.Proofs.YtcbhhbkghbnljaaGreatDoor.Vf
open Go Go.V Go.RowKit Go.Proofs
def splL (rec : List Int → Option (Bool × List Int)) (can : List Int → Int → Option Bool) (l : List Int) : Nat → Nat → Option (Bool × List Int)
 | 0, _ => some (false, l)
 | d + 1, i => (can (l ++ [(i : Int)]) i).bind fun b => if b = true then (rec (l ++ [(i : Int)])).bind fun r => if r.1 = true then some r else splL rec can l d (i + 1) else splL rec can l d (i + 1)
def splO (k : Nat) (G : List Int) (m : Nat) : Nat → List Int → Option (Bool × List Int)
 | 0, _ => none
 | f + 1, l => if l.length = G.length then some (true, l) else splL (splO k G m f) (fun x c => canO k (ownG x G c)) l m 0
theorem splL_false {rec : List Int → Option (Bool × List Int)} {can : List Int → Int → Option Bool} {l : List Int} : ∀ {d i : Nat} {r : List Int}, splL rec can l d i = some (false, r) → r = l
 | 0, i, r, h => (Prod.mk.inj (Option.some.inj h)).2.symm
 | d + 1, i, r, h => by
  simp only [splL] at h
  obtain ⟨b, -, h⟩ := Option.bind_eq_some_iff.1 h
  split at h
  ·obtain ⟨s, -, h⟩ := Option.bind_eq_some_iff.1 h
   split at h
   ·rename_i hs
    obtain rfl := Option.some.inj h
    cases hs
   ·exact splL_false h
  ·exact splL_false h
theorem splO_false {k m : Nat} {G : List Int} : ∀ {f : Nat} {l r : List Int}, splO k G m f l = some (false, r) → r = l
 | 0, l, r, h => by cases h
 | f + 1, l, r, h => by
  simp only [splO] at h
  split at h
  ·cases h
  ·exact splL_false h
theorem subL_mem {l G : List Int} {c : Int} : ∀ {i : Nat} {x : Int}, i ≤ G.length → x ∈ subL l G c i → x ∈ G
 | 0, x, _, h => by cases h
 | i + 1, x, hi, h => by
  simp only [subL] at h
  rcases List.mem_append.1 h with h | h
  ·exact subL_mem (by omega) h
  ·split at h
   ·rw [List.mem_singleton.1 h]
    unfold V.rd
    rw [Int.toNat_natCast, List.getD_eq_getElem?_getD, List.getElem?_eq_getElem (by omega), Option.getD_some]; exact List.getElem_mem _
   ·cases h
theorem own_sm {l G : List Int} {c : Int} (hl : l.length + 1 ≤ G.length) (hn : G.length ≤ 1000) (hG : ∀ x ∈ G, 0 ≤ x ∧ x < 100) : Sm (ownG (l ++ [c]) G c) := by
 have e : (l ++ [c]).length = l.length + 1 := by simp
 unfold ownG
 rw [e]
 refine ⟨?_, ?_, fun x hx => hG x (subL_mem (by omega) hx)⟩
 ·have h1 : V.rd (l ++ [c]) (l.length : Int) = c := by
   unfold V.rd
   rw [Int.toNat_natCast, List.getD_eq_getElem?_getD, List.getElem?_append_right (Nat.le_refl _)]; simp
  simp only [subL]
  rw [if_pos h1]; simp
 ·have := subL_len (l ++ [c]) G c (l.length + 1); omega
section
variable {w wr W w3 : World} {base g q : Nat} {G l : List Int} {m x : Int} {T : Tab} {vG vL v3 : Value}
theorem g_set {w : World} {g : Nat} {a b c d v : Value} {e : TypeId} (h : w.heap[g]? = some (.cells #[a, b, c, d] e (0, 0))) : (w.setCell ⟨g, 2, none⟩ v).heap[g]? = some (.cells #[a, b, v, d] e (0, 0)) := by
 simp [World.setCell, Array.getElem?_modify, h]
theorem sP.app (P : sP wr base g q G m l T vG vL) (hW : Below wr.heap.size wr W) (hg : W.grownBy w3 vL.ownBlock) (ho : w3.ownsRow base 2 1 v3 (l.length + 1) (l.map (Value.int .i64) ++ [Value.int .i64 x])) :
  w3.heap[g]? = some (.cells #[vG, .int .i64 m, vL, .map (some q)] 102 (0, 0)) ∧ sP (w3.setCell ⟨g, 2, none⟩ v3) base g q G m (l ++ [x]) T vG v3 ∧ sF base g q wr (w3.setCell ⟨g, 2, none⟩ v3) := by
 obtain ⟨o1, o2, o3, o4⟩ := P.lt
 have old : ∀ r, r < base → w3.heap[r]? = wr.heap[r]? := fun r hr => by
  have h1 : r < wr.heap.size := by omega
  have := hW.size
  rw [hg.block r (by omega) fun hk => by have := P.lL.own hk.symm; omega]
  exact hW.block r h1
 have far : ∀ r, r ≠ g → (w3.setCell ⟨g, 2, none⟩ v3).heap[r]? = w3.heap[r]? := fun r hr => Below.heap_setCell _ _ _ _ hr
 have hs : (w3.setCell ⟨g, 2, none⟩ v3).heap.size = w3.heap.size := by simp [World.setCell]
 have h2 := hg.size
 have h3 := hW.size
 have hgg := (old g o1).trans P.hg
 obtain ⟨es, cl, t1, t2⟩ := P.hq
 have hrow : bOw w3 base v3 (l ++ [x]) := by
  unfold bOw
  rw [List.length_append, List.map_append]; exact ho
 refine ⟨hgg, ⟨g_set hgg, P.gG.keep fun r hn hr => ⟨hn, ?_⟩, hrow.keep fun r hb _ => far r (by omega), ⟨es, cl, ?_, t2⟩, ⟨o1, o2, by omega, o4⟩, gl_stay P.gl (by omega) fun r hn _ => (far r fun e => hn (.inl e)).trans (old r (Nat.lt_of_not_le fun e => hn (.inr (.inr e))))⟩, ⟨hg.os.trans hW.os, hg.tape.trans hW.tape, hg.output.trans hW.output, by omega, fun r a b _ => (far r b).trans (old r a)⟩⟩
 ·rw [far r fun e => hn (.inl e)]
  exact old r (Nat.lt_of_not_le fun e => hn (.inr (.inr e)))
 ·rw [far q fun e => o4 e.symm]; exact (old q o2).trans t1
theorem sP.cut {r c : Nat} (P : sP w base g q G m (l ++ [x]) T vG (.slice (some ⟨r, 0, none⟩) (l ++ [x]).length c)) :
  sP (w.setCell ⟨g, 2, none⟩ (.slice (some ⟨r, 0, none⟩) l.length c)) base g q G m l T vG (.slice (some ⟨r, 0, none⟩) l.length c) ∧ sF base g q w (w.setCell ⟨g, 2, none⟩ (.slice (some ⟨r, 0, none⟩) l.length c)) := by
 obtain ⟨o1, o2, o3, o4⟩ := P.lt
 have far : ∀ k, k ≠ g → (w.setCell ⟨g, 2, none⟩ (.slice (some ⟨r, 0, none⟩) l.length c)).heap[k]? = w.heap[k]? := fun k hk => Below.heap_setCell _ _ _ _ hk
 have hs : (w.setCell ⟨g, 2, none⟩ (.slice (some ⟨r, 0, none⟩) l.length c)).heap.size = w.heap.size := by simp [World.setCell]
 obtain ⟨es, cl, t1, t2⟩ := P.hq
 have hrow := P.lL.take (n := l.length) (by simp)
 rw [List.take_left] at hrow
 exact ⟨⟨g_set P.hg, P.gG.keep fun k hn hk => ⟨hn, far k fun e => hn (.inl e)⟩, hrow.keep fun k hb _ => far k (by omega), ⟨es, cl, (far q fun e => o4 e.symm).trans t1, t2⟩, ⟨o1, o2, by omega, o4⟩, gl_stay P.gl (Nat.le_of_eq hs.symm) fun k hn _ => far k fun e => hn (.inl e)⟩, rfl, rfl, rfl, Nat.le_of_eq hs.symm, fun k _ b _ => far k b⟩
end
theorem k_wrap64 (x : Int) : IntKind.i64.wrap x = wrap64 x := by
 unfold wrap64
 simp [IntKind.wrap, IntKind.bits, IntKind.signed]
 split <;> omega
set_option maxHeartbeats 4000000 in
theorem split_calls (k : Nat) (hk : 2097152 ≤ k) {base g q m : Nat} {G : List Int} {vG : Value} (hn : G.length ≤ 1000) (m2 : m ≤ 1000) (hG9 : ∀ x ∈ G, 0 ≤ x ∧ x < 100) : ∀ (f : Nat) {w : World} {l l2 : List Int} {T : Tab} {vL : Value} {b : Bool}, sP w base g q G (m : Int) l T vG vL → l.length ≤ G.length → TG k T → splO k G m f l = some (b, l2) →
  Calls Tryz.prog 80 #[.pointer (some ⟨g, 0, none⟩)] w fun e w' => e = .returned (.bool b) ∧ ∃ T' vL', TG k T' ∧ sP w' base g q G (m : Int) l2 T' vG vL' ∧ sF base g q w w' := by
 intro f
 induction f with
 | zero => intro w l l2 T vL b _ _ _ hy; cases hy
 | succ f ih =>
  intro w l l2 T vL b P hl hT hy
  have HP := Aside0.mk P
  have HL : Aside0 (∀ W, Below w.heap.size w W → Calls Tryz.prog 93 #[vL] W fun e w' => e = .returned (.int .i64 l.length) ∧ Below W.heap.size W w') := ⟨fun W hW => c_L_i (M93 k) ((HP.out.later hW).gb) ((bOw.rl HP.out.lL (N := fun _ => False) (fun _ _ h => h)).keep (N' := fun _ => False) fun r _ hr => ⟨id, hW.block r hr⟩) rfl⟩
  have HM : Aside0 (∀ W, Below w.heap.size w W → Calls Tryz.prog 104 #[.agg #[vG]] W fun e w' => e = .returned (.int .i64 G.length) ∧ Below W.heap.size W w') := ⟨fun W hW => c_T_i (M104 k) ((HP.out.later hW).gb) ((HP.out.later hW).gG) rfl⟩
  have HC : Aside0 (∀ W, Below w.heap.size w W → W.cell? ⟨g, 0, none⟩ = some vG ∧ W.cell? ⟨g, 1, none⟩ = some (.int .i64 m) ∧ W.cell? ⟨g, 2, none⟩ = some vL) := ⟨fun W hW => ⟨(HP.out.later hW).c0, (HP.out.later hW).c1, (HP.out.later hW).c2⟩⟩
  have HTr : Aside0 (∀ {A C : World}, Below w.heap.size w A → Below A.heap.size A C → Below w.heap.size w C) := ⟨fun h1 h2 => h1.trans (h2.mono h1.size)⟩
  obtain ⟨hc0, hc1, hc2⟩ := HC.out w (Below.refl _ _)
  unfold splO at hy
  by_cases hq : l.length = G.length
  ·rw [if_pos hq] at hy
   have hy := Prod.mk.inj (Option.some.inj hy)
   obtain ⟨rfl, rfl⟩ := hy
   have hd : ((l.length : Int) == (G.length : Int)) = true := by rw [hq]; simp
   have hd2 : decide ((l.length : Int) = (G.length : Int)) = true := by rw [hq]; simp
   clear P ih
   go_enter Tryz.func80, Tryz.ntmps80
   go_wp2
   go_region_with (first
    | (go_at_call 93; refine (HL.out _ (Below.drew (Below.refl _ _))).mono ?_; rintro e w1 ⟨rfl, hb1⟩; have hb1 := HTr.out (Below.drew (Below.refl _ _)) hb1; obtain ⟨hd0, hd1, hd3⟩ := HC.out _ hb1)
    | (go_at_call 104; refine (HM.out _ hb1).mono ?_; rintro e w2 ⟨rfl, hb2⟩; have hb2 := HTr.out hb1 hb2))
   all_goals (
    go_wp2
    go_returns
    exact ⟨rfl, T, vL, hT, HP.out.later hb2, sF.of hb2 HP.out.lt.2.2.1⟩)
  ·rw [if_neg hq] at hy
   have hl1 : l.length + 1 ≤ G.length := by omega
   have hd : ((l.length : Int) == (G.length : Int)) = false := by rw [beq_eq_false_iff_ne]; omega
   have hd2 : decide ((l.length : Int) = (G.length : Int)) = false := decide_eq_false (by omega)
   have HY := Aside0.mk hy
   have HT := Aside0.mk hT
   have HI : Aside0 (∃ i0 : TypeInfo, Tryz.prog.info? 2 = some i0 ∧ i0.zero = some (.int .i64 0) ∧ i0.size = 1 ∧ i0.bytes = 8) := ⟨by
    have hinfo : (Tryz.prog.info? 2).map (fun i => (i.zero, i.size, i.bytes)) = some (some (.int .i64 0), 1, 8) := by kernel_rfl
    obtain ⟨i0, h1, h2⟩ := Option.map_eq_some_iff.1 hinfo
    simp only [Prod.mk.injEq] at h2
    exact ⟨i0, h1, h2.1, h2.2.1, h2.2.2⟩⟩
   have HU : Aside0 (Tryz.prog.underlying 24 = some (.slice 2)) := ⟨by kernel_rfl⟩
   have HIH : Aside0 (∀ {w : World} {l l2 : List Int} {T : Tab} {vL : Value} {b : Bool}, sP w base g q G (m : Int) l T vG vL → l.length ≤ G.length → TG k T → splO k G m f l = some (b, l2) →
    Calls Tryz.prog 80 #[.pointer (some ⟨g, 0, none⟩)] w fun e w' => e = .returned (.bool b) ∧ ∃ T' vL', TG k T' ∧ sP w' base g q G (m : Int) l2 T' vG vL' ∧ sF base g q w w') := ⟨@ih⟩
   have HSm : Aside0 (∀ c : Int, Sm (ownG (l ++ [c]) G c)) := ⟨fun c => own_sm hl1 hn hG9⟩
   have HB0 : Aside0 (base ≤ w.heap.size) := ⟨P.lt.2.2.1⟩
   clear P ih hy hT
   go_enter Tryz.func80, Tryz.ntmps80
   go_wp2
   go_region_with (first
    | (go_at_call 93; refine (HL.out _ (Below.drew (Below.refl _ _))).mono ?_; rintro e w1 ⟨rfl, hb1⟩; have hb1 := HTr.out (Below.drew (Below.refl _ _)) hb1; obtain ⟨hd0, hd1, hd3⟩ := HC.out _ hb1)
    | (go_at_call 104; refine (HM.out _ hb1).mono ?_; rintro e w2 ⟨rfl, hb2⟩; have hb2 := HTr.out hb1 hb2; obtain ⟨hf0, hf1, hf3⟩ := HC.out _ hb2))
   all_goals (
    clear hc0 hc1 hc2 hd0 hd1 hd3 hb1
    go_wp2
    go_loopg [19] m (fun gg s19 wr => ∃ (i : Nat) (T' : Tab) (vL' : Value), i ≤ m ∧ m - i ≤ gg ∧ s19 = .int .i64 i ∧ Aside0 (TG k T') ∧ Aside0 (sP wr base g q G (m : Int) l T' vG vL') ∧ Aside0 (sF base g q w wr) ∧ Aside0 (splL (splO k G m f) (fun x c => canO k (ownG x G c)) l (m - i) i = some (b, l2)))
    case atStart => exact ⟨0, T, vL, Nat.zero_le _, by omega, rfl, HT, ⟨HP.out.later hb2⟩, ⟨sF.of hb2 HB0.out⟩, ⟨by rw [Nat.sub_zero]; exact HY.out⟩⟩
    case round =>
     obtain ⟨i, T1, vL1, hi, hgg, rfl, HT1, HP1, HF1, HA⟩ := hrel
     by_cases hlt : i < m
     ·have ha := HA.out
      obtain ⟨d, ed⟩ : ∃ d, m - i = d + 1 := ⟨m - i - 1, by omega⟩
      rw [ed] at ha
      simp only [splL] at ha
      obtain ⟨bc, ec, ha⟩ := Option.bind_eq_some_iff.1 ha
      have hltz : decide ((i : Int) < (m : Int)) = true := decide_eq_true (by omega)
      obtain ⟨i0, hi0, hz0, hs0, hy0⟩ := HI.out
      have HI0 := Aside0.mk hi0
      have HZ0 := Aside0.mk hz0
      have HS0 := Aside0.mk hs0
      have HY0 := Aside0.mk hy0
      have HPo : Aside0 (∀ W, Below wr.heap.size wr W → W.ownsRow base 2 1 vL1 l.length (l.map (Value.int .i64))) := ⟨fun W hW => bOw.keep HP1.out.lL fun r _ hr => hW.block r hr⟩
      have HC1 : Aside0 (∀ (W : World) (j : Nat) (u : Value), W.heap[wr.heap.size]? = some (.cells #[Value.int .i64 (i : Int)] 2 (0, 0)) → [Value.int .i64 (i : Int)][j]? = some u → W.cell? ((⟨wr.heap.size, 0, none⟩ : Addr).add j) = some u) := ⟨fun W j u hW hu => by
       match j, hu with
       | 0, hu =>
        have hu : some (Value.int .i64 (i : Int)) = some u := hu
        cases hu
        have ea : (⟨wr.heap.size, 0, none⟩ : Addr).add 0 = ⟨wr.heap.size, 0, none⟩ := by unfold Addr.add; split <;> simp_all
        rw [ea]
        exact b_cell hW
       | j + 1, hu => simp at hu⟩
      have HC2 : Aside0 (∀ u ∈ [Value.int .i64 (i : Int)], u.oneCell' = true) := ⟨fun u hu => by rw [List.mem_singleton.1 hu]; rfl⟩
      have HM1 : Aside0 (l.length + 1 ≤ maxLen ∧ (l.length + 1) * 8 ≤ 140737488355328) := ⟨by unfold maxLen; omega⟩
      have HWb : Aside0 (∀ o, Below wr.heap.size wr (wr.alloc o)) := ⟨fun o => (Below.refl _ _).alloc (Nat.le_refl _) _⟩
      have HAP : Aside0 (∀ W w3 v3, Below wr.heap.size wr W → W.grownBy w3 vL1.ownBlock → w3.ownsRow base 2 1 v3 (l.length + 1) (l.map (Value.int .i64) ++ [Value.int .i64 (i : Int)]) → w3.cell? ⟨g, 2, none⟩ = some vL1 ∧ w3.frozen? ⟨g, 2, none⟩ = false ∧ sP (w3.setCell ⟨g, 2, none⟩ v3) base g q G (m : Int) (l ++ [(i : Int)]) T1 vG v3 ∧ sF base g q wr (w3.setCell ⟨g, 2, none⟩ v3)) := ⟨fun W w3 v3 h1 h2 h3 => by
       obtain ⟨a1, a2, a3⟩ := HP1.out.app h1 h2 h3
       exact ⟨by simp [World.cell?, a1], by simp [World.frozen?, a1], a2, a3⟩⟩
      have HBs : Aside0 (base ≤ wr.heap.size) := ⟨HP1.out.lt.2.2.1⟩
      have HCB : Aside0 (∀ W v, sP W base g q G (m : Int) (l ++ [(i : Int)]) T1 vG v → Calls Tryz.prog 120 #[.pointer (some ⟨g, 0, none⟩), .int .i64 (i : Int)] W fun e w' => e = .returned (.bool bc) ∧ ∃ T', TG k T' ∧ sP w' base g q G (m : Int) (l ++ [(i : Int)]) T' vG v ∧ sF base g q W w') := ⟨fun W v h => canBe_calls k hk h (by simp) (by simp; omega) hn (HSm.out _) ec HT1.out⟩
      have HLE : Aside0 ((l ++ [(i : Int)]).length ≤ G.length) := ⟨by simp; omega⟩
      have hcL := HP1.out.c2
      have HN : Aside0 ((l ++ [(i : Int)]).length = l.length + 1) := ⟨by simp⟩
      have hwr : IntKind.i64.wrap ((((l.length + 1 : Nat) : Int)) - 1) = (l.length : Int) := by rw [k_wrap64]; unfold wrap64; omega
      clear hi0 hz0 hs0 hy0 ec
      cases bc with
      | true =>
       rw [if_pos rfl] at ha
       obtain ⟨⟨br, lr⟩, er, ha⟩ := Option.bind_eq_some_iff.1 ha
       have HER := Aside0.mk er
       cases br with
       | true =>
        have ha := Prod.mk.inj (Option.some.inj ((if_pos rfl).symm.trans ha))
        obtain ⟨rfl, rfl⟩ := ha
        clear er
        go_wp2_with (first
         | (at_builtin; go_loud (refine wpList_append_own_at _ rfl _ _ 24 rfl base 2 i0 (.int .i64 0) 1 8 HU.out HI0.out HZ0.out HS0.out HY0.out rfl (by decide) vL1 l.length (l.map (Value.int .i64)) rfl (HPo.out _ (HWb.out _)) ⟨wr.heap.size, 0, none⟩ 1 1 [Value.int .i64 (i : Int)] rfl rfl (fun j u hu => HC1.out _ j u (by exact heap_alloc_new wr _) hu) HC2.out HM1.out.1 HM1.out.2 (by exact Nat.le_trans HBs.out (by simp)) ?_; intro v3 w3 hown3 hgr3 _ _; obtain ⟨rv3, cv3, rfl⟩ := own_shape hown3; obtain ⟨hx3, hf3, hP3, hF3⟩ := HAP.out _ _ _ (HWb.out _) hgr3 hown3; clear hown3 hgr3))
         | (go_at_call 120; refine (HCB.out _ _ hP3).mono ?_; rintro e w5 ⟨rfl, T2, hT2, hP5, hF5⟩)
         | (go_at_call 80; refine (HIH.out hP5 HLE.out hT2 HER.out).mono ?_; rintro e w6 ⟨rfl, T3, vL3, hT3, hP6, hF6⟩))
        go_returns
        exact ⟨rfl, T3, vL3, hT3, hP6, HF1.out.trans (hF3.trans (hF5.trans hF6))⟩
       | false =>
        obtain rfl := splO_false er
        have HEC : Aside0 (splL (splO k G m f) (fun x c => canO k (ownG x G c)) l (m - (i + 1)) (i + 1) = some (b, l2)) := ⟨by rw [show m - (i + 1) = d by omega]; exact (if_neg (fun h => by cases h)).symm.trans ha⟩
        clear er ha ed
        go_wp2_with (first
         | (at_builtin; go_loud (refine wpList_append_own_at _ rfl _ _ 24 rfl base 2 i0 (.int .i64 0) 1 8 HU.out HI0.out HZ0.out HS0.out HY0.out rfl (by decide) vL1 l.length (l.map (Value.int .i64)) rfl (HPo.out _ (HWb.out _)) ⟨wr.heap.size, 0, none⟩ 1 1 [Value.int .i64 (i : Int)] rfl rfl (fun j u hu => HC1.out _ j u (by exact heap_alloc_new wr _) hu) HC2.out HM1.out.1 HM1.out.2 (by exact Nat.le_trans HBs.out (by simp)) ?_; intro v3 w3 hown3 hgr3 _ _; obtain ⟨rv3, cv3, rfl⟩ := own_shape hown3; obtain ⟨hx3, hf3, hP3, hF3⟩ := HAP.out _ _ _ (HWb.out _) hgr3 hown3; clear hown3 hgr3))
         | (go_at_call 120; refine (HCB.out _ _ hP3).mono ?_; rintro e w5 ⟨rfl, T2, hT2, hP5, hF5⟩)
         | (go_at_call 80; refine (HIH.out hP5 HLE.out hT2 HER.out).mono ?_; rintro e w6 ⟨rfl, T3, vL3, hT3, hP6, hF6⟩; obtain ⟨r6, c6, rfl, hle6, -, -⟩ := hP6.lL.sl (by simp); have HP6 := Aside0.mk hP6; have hcx := hP6.c2; have hfx := hP6.fr 2; rw [HN.out] at hcx hle6; clear hP6))
        go_region
        all_goals (
         obtain ⟨hP7, hF7⟩ := HP6.out.cut
         generalize (w6.setCell ⟨g, 2, none⟩ (.slice (some ⟨r6, 0, none⟩) l.length c6)) = w7 at hP7 hF7 ⊢
         have HP7 := Aside0.mk (hP7.later (Below.drew (Below.refl _ _)))
         have HF7 : Aside0 (sF base g q w w7.drew) := ⟨(HF1.out.trans (hF3.trans (hF5.trans (hF6.trans hF7)))).trans (sF.of (Below.drew (Below.refl _ _)) hP7.lt.2.2.1)⟩
         have HT7 := Aside0.mk hT3
         clear hP7 hF7
         go_wp2
         go_roundg (m - (i + 1))
         case measure => omega
         case rel => exact ⟨i + 1, _, _, by omega, Nat.le_refl _, (by first | go_num | (rw [show wrap64 ((i : Int) + 1) = ((i + 1 : Nat) : Int) by unfold wrap64; omega])), HT7, HP7, HF7, HEC⟩)
      | false =>
       rw [if_neg (by decide)] at ha
       have HEC : Aside0 (splL (splO k G m f) (fun x c => canO k (ownG x G c)) l (m - (i + 1)) (i + 1) = some (b, l2)) := ⟨by rw [show m - (i + 1) = d by omega]; exact ha⟩
       have hLx : Aside0 (∀ {W : World} {T' : Tab} {r c : Nat}, sP W base g q G (m : Int) (l ++ [(i : Int)]) T' vG (.slice (some ⟨r, 0, none⟩) (l.length + 1) c) → sP W base g q G (m : Int) (l ++ [(i : Int)]) T' vG (.slice (some ⟨r, 0, none⟩) (l ++ [(i : Int)]).length c)) := ⟨fun h => by rw [HN.out]; exact h⟩
       have hLc : Aside0 (∀ {W : World} {T' : Tab} {r c : Nat}, sP W base g q G (m : Int) (l ++ [(i : Int)]) T' vG (.slice (some ⟨r, 0, none⟩) (l.length + 1) c) → l.length + 1 ≤ c) := ⟨fun h => by
        rcases h.lL.2 with ⟨h0, _⟩ | ⟨g', cap, cur, h0, _, _, hc, _⟩
        ·cases h0
        ·simp only [Value.slice.injEq] at h0
         obtain ⟨_, _, rfl⟩ := h0
         rw [HN.out] at hc; exact hc⟩
       clear ha ed
       go_wp2_with (first
         | (at_builtin; go_loud (refine wpList_append_own_at _ rfl _ _ 24 rfl base 2 i0 (.int .i64 0) 1 8 HU.out HI0.out HZ0.out HS0.out HY0.out rfl (by decide) vL1 l.length (l.map (Value.int .i64)) rfl (HPo.out _ (HWb.out _)) ⟨wr.heap.size, 0, none⟩ 1 1 [Value.int .i64 (i : Int)] rfl rfl (fun j u hu => HC1.out _ j u (by exact heap_alloc_new wr _) hu) HC2.out HM1.out.1 HM1.out.2 (by exact Nat.le_trans HBs.out (by simp)) ?_; intro v3 w3 hown3 hgr3 _ _; obtain ⟨rv3, cv3, rfl⟩ := own_shape hown3; obtain ⟨hx3, hf3, hP3, hF3⟩ := HAP.out _ _ _ (HWb.out _) hgr3 hown3; clear hown3 hgr3))
         | (go_at_call 120; refine (HCB.out _ _ hP3).mono ?_; rintro e w5 ⟨rfl, T2, hT2, hP5, hF5⟩; have HP6 := Aside0.mk (hLx.out hP5); have hcx := hP5.c2; have hfx := hP5.fr 2; have hle6 := hLc.out hP5; clear hP5))
       go_region
       all_goals (
        obtain ⟨hP7, hF7⟩ := HP6.out.cut
        generalize (w5.setCell ⟨g, 2, none⟩ (.slice (some ⟨rv3, 0, none⟩) l.length cv3)) = w7 at hP7 hF7 ⊢
        have HP7 := Aside0.mk (hP7.later (Below.drew (Below.refl _ _)))
        have HF7 : Aside0 (sF base g q w w7.drew) := ⟨(HF1.out.trans (hF3.trans (hF5.trans hF7))).trans (sF.of (Below.drew (Below.refl _ _)) hP7.lt.2.2.1)⟩
        have HT7 := Aside0.mk hT2
        clear hP7 hF7
        go_wp2
        go_roundg (m - (i + 1))
        case measure => omega
        case rel => exact ⟨i + 1, _, _, by omega, Nat.le_refl _, (by first | go_num | (rw [show wrap64 ((i : Int) + 1) = ((i + 1 : Nat) : Int) by unfold wrap64; omega])), HT7, HP7, HF7, HEC⟩)
     ·have hltz : decide ((i : Int) < (m : Int)) = false := decide_eq_false (by omega)
      have ha := HA.out
      rw [show m - i = 0 by omega] at ha
      have ha := Prod.mk.inj (Option.some.inj (show some (false, l) = some (b, l2) from ha))
      obtain ⟨rfl, rfl⟩ := ha
      go_wp2
      go_returns
      exact ⟨rfl, T1, vL1, HT1.out, HP1.out, HF1.out⟩)
end Go.Proofs.YtcbhhbkghbnljaaGreatDoor.Vf
end
section
set_option linter.unusedVariables false
set_option linter.unusedSimpArgs false
set_option maxRecDepth 100000
noncomputable section
namespace Go.Proofs.YtcbhhbkghbnljaaGreatDoor.Vf
open Go Go.V Go.RowKit Go.Proofs
def impl_FirstSplit.f (k : Nat) (G : List Int) (m : Int) : Option (List Int × Int) :=
 if 2097152 ≤ k then (impl_isChannels.f m).bind fun t1 => (impl_statesCode.f k G t1).bind fun c => if c = 0 then
  (if 0 ≤ m ∧ m ≤ 1000 ∧ G.length ≤ 1000 ∧ ∀ x ∈ G, 0 ≤ x ∧ x < 100 then (splO k G m.toNat k []).bind fun r => if r.1 = true then some (r.2, 0) else some ([], 4) else none)
 else some ([], c) else none
def spW (w2 : World) (v : Value) (m : Int) : World := (w2.alloc (.map #[] 0)).alloc (.cells #[v, .int .i64 m, .slice none 0 0, .map (some w2.heap.size)] 102)
theorem spW_size (w2 : World) (v : Value) (m : Int) : (spW w2 v m).heap.size = w2.heap.size + 2 := by simp [spW]
theorem spW_old (w2 : World) (v : Value) (m : Int) {r : Nat} (h : r < w2.heap.size) : (spW w2 v m).heap[r]? = w2.heap[r]? :=
 (heap_alloc_old (w2.alloc (.map #[] 0)) _ (by simp; omega)).trans (heap_alloc_old w2 _ h)
theorem sP_start {w w2 : World} {N : Nat → Prop} {v : Value} {G : List Int} {m : Int} (hv : bRL w N v G) (hN : ∀ r, w.heap.size ≤ r → N r) (hb : Below w.heap.size w w2) (hgb : GB w.heap.size w) : sP (spW w2 v m) (w2.heap.size + 2) (w2.heap.size + 1) w2.heap.size G m [] [] v (.slice none 0 0) := by
 have hs := hb.size
 refine ⟨?_, hv.keep fun r hn hr => ⟨?_, (spW_old w2 v m (by omega)).trans (hb.block r hr)⟩, ⟨rfl, .inl ⟨rfl, rfl⟩⟩, ⟨#[], 0, ?_, rfl⟩, ⟨by omega, by omega, by rw [spW_size]; omega, by omega⟩, ?_⟩
 ·have := heap_alloc_new (w2.alloc (.map #[] 0)) (.cells #[v, .int .i64 m, .slice none 0 0, .map (some w2.heap.size)] 102)
  rw [show (w2.alloc (.map #[] 0)).heap.size = w2.heap.size + 1 by simp] at this
  exact this
 ·rintro (h | h | h) <;> exact hn (hN r (by omega))
 ·exact (heap_alloc_old (w2.alloc (.map #[] 0)) _ (by simp)).trans (heap_alloc_new w2 _)
 ·intro t ht
  have hk := (hgb.below hb).keep (W' := spW w2 v m) (by rw [spW_size]; omega) (fun r hr => spW_old w2 v m (by omega))
  obtain ⟨h1, h2, h3⟩ := hk t ht
  exact ⟨fun h => h1 (by show w.heap.size ≤ t; omega), h2, h3⟩
theorem first_split (k : Nat) (hk : 2097152 ≤ k) {w w2 : World} {N : Nat → Prop} {v : Value} {G lr : List Int} {m : Nat} {b : Bool} (hv : bRL w N v G) (hN : ∀ r, w.heap.size ≤ r → N r) (hb : Below w.heap.size w w2) (hgb : GB w.heap.size w) (hn : G.length ≤ 1000) (m2 : m ≤ 1000) (hG9 : ∀ x ∈ G, 0 ≤ x ∧ x < 100) (hy : splO k G m k [] = some (b, lr)) :
  Calls Tryz.prog 80 #[.pointer (some ⟨w2.heap.size + 1, 0, none⟩)] (spW w2 v m) fun e w' => e = .returned (.bool b) ∧ ∃ vL, w'.cell? ⟨w2.heap.size + 1, 2, none⟩ = some vL ∧ bOw w' w.heap.size vL lr ∧ Below w.heap.size w w' := by
 refine (split_calls k hk hn m2 hG9 k (sP_start (m := (m : Int)) hv hN hb hgb) (Nat.zero_le _) (fun e he => by cases he) hy).mono ?_
 rintro e w' ⟨rfl, T', vL, -, hP, hF⟩
 have hs := hb.size
 refine ⟨rfl, vL, hP.c2, hP.lL.mono (by omega), hF.os.trans hb.os, hF.tape.trans hb.tape, hF.output.trans hb.output, ?_, fun r hr => ?_⟩
 ·have := hF.size; rw [spW_size] at this; omega
 ·exact ((hF.block r (by omega) (by omega) (by omega)).trans (spW_old w2 v m (by omega))).trans (hb.block r hr)
set_option maxHeartbeats 4000000 in
theorem first_calls (k : Nat) {w : World} {N : Nat → Prop} {v : Value} {G l : List Int} {m c : Int} (hv : bRL w N v G) (hN : ∀ r, w.heap.size ≤ r → N r) (hgb : GB w.heap.size w) (hy : impl_FirstSplit.f k G m = some (l, c)) :
  Calls Tryz.prog 27 #[.agg #[v], .int .i64 m] w fun e w' => ∃ u, e = .returned (.tuple #[u, .int .i64 c]) ∧ bOw w' w.heap.size u l ∧ Below w.heap.size w w' := by
 unfold impl_FirstSplit.f at hy
 split at hy
 case isFalse => cases hy
 rename_i hk
 obtain ⟨t1, e1, hy⟩ := Option.bind_eq_some_iff.1 hy
 obtain ⟨c1, e2, hy⟩ := Option.bind_eq_some_iff.1 hy
 have HGB : Aside0 (∀ W, Below w.heap.size w W → GB w.heap.size W) := ⟨fun W hW => hgb.below hW⟩
 have HT : Aside0 (Below w.heap.size w (w.alloc (.cells #[v] 37))) := ⟨(Below.refl _ _).alloc (Nat.le_refl _) _⟩
 have HTr : Aside0 (∀ {A C : World}, Below w.heap.size w A → Below A.heap.size A C → Below w.heap.size w C) := ⟨fun h1 h2 => h1.trans (h2.mono h1.size)⟩
 have H18 : Aside0 (∀ W : World, Below w.heap.size w W → Calls Tryz.prog 79 #[.int .i64 m] W fun e w' => e = .returned (.bool t1) ∧ Below W.heap.size W w') := ⟨fun W hW => c_I_b (M79 k) (HGB.out W hW) e1⟩
 have H17 : Aside0 (∀ W : World, Below w.heap.size w W → Calls Tryz.prog 78 #[.agg #[v], .bool t1] W fun e w' => e = .returned (.int .i64 c1) ∧ Below W.heap.size W w') := ⟨fun W hW => c_TB_i (M78 k) (HGB.out W hW) (hv.keep (N' := N) fun r hn hr => ⟨hn, hW.block r hr⟩) e2⟩
 have HX : Aside0 (∀ W : World, Below (w.alloc (.cells #[v] 37)).heap.size (w.alloc (.cells #[v] 37)).drew W → W.cell? ⟨w.heap.size, 0, none⟩ = some v ∧ Below w.heap.size w W) := ⟨fun W hW => ⟨b_cell ((hW.block _ (by simp)).trans (heap_alloc_new w _)), (Below.drew HT.out).trans (hW.mono (by simp))⟩⟩
 obtain ⟨hx1, hbx⟩ := HX.out _ (Below.refl _ _)
 have hx0 : (w.alloc (.cells #[v] 37)).cell? ⟨w.heap.size, 0, none⟩ = some v := b_cell (heap_alloc_new w _)
 by_cases hc : c1 = 0
 ·subst hc
  rw [if_pos rfl] at hy
  split at hy
  case isFalse => cases hy
  rename_i hcond
  obtain ⟨m0, m2, hn, hG9⟩ := hcond
  obtain ⟨mm, rfl⟩ := Int.eq_ofNat_of_zero_le m0
  rw [Int.toNat_natCast] at hy
  obtain ⟨⟨b, lr⟩, er, hy⟩ := Option.bind_eq_some_iff.1 hy
  have HS : Aside0 (∀ w2, Below w.heap.size w w2 → Calls Tryz.prog 80 #[.pointer (some ⟨w2.heap.size + 1, 0, none⟩)] (spW w2 v mm) fun e w' => e = .returned (.bool b) ∧ ∃ vL, w'.cell? ⟨w2.heap.size + 1, 2, none⟩ = some vL ∧ bOw w' w.heap.size vL lr ∧ Below w.heap.size w w') := ⟨fun w2 hb => first_split k hk hv hN hb hgb hn (by omega) hG9 er⟩
  clear e1 e2 er hv
  cases b with
  | true =>
   obtain ⟨rfl, rfl⟩ := Prod.mk.inj (Option.some.inj ((if_pos rfl).symm.trans hy))
   have hmm := @run_makeMap Tryz.prog
   go_enter Tryz.func27, Tryz.ntmps27
   go_wp2
   go_region_with (first
    | (go_at_call 79; refine (H18.out _ (Below.drew HT.out)).mono ?_; rintro e w1 ⟨rfl, hb1⟩; obtain ⟨hx2, hb3⟩ := HX.out _ hb1)
    | (go_at_call 78; refine (H17.out _ hb3).mono ?_; rintro e w2 ⟨rfl, hb2⟩; have hb4 := HTr.out hb3 hb2; obtain ⟨hx5, -⟩ := HX.out _ (hb1.trans (hb2.mono hb1.size))))
   all_goals (
    go_wp2_with (go_at_call 80; refine (HS.out _ hb4).mono ?_; rintro e w3 ⟨rfl, vL, hcL, hoL, hbL⟩)
    go_returns
    exact ⟨vL, rfl, hoL, hbL⟩)
  | false =>
   obtain ⟨rfl, rfl⟩ := Prod.mk.inj (Option.some.inj ((if_neg (fun h => by cases h)).symm.trans hy))
   have hmm := @run_makeMap Tryz.prog
   go_enter Tryz.func27, Tryz.ntmps27
   go_wp2
   go_region_with (first
    | (go_at_call 79; refine (H18.out _ (Below.drew HT.out)).mono ?_; rintro e w1 ⟨rfl, hb1⟩; obtain ⟨hx2, hb3⟩ := HX.out _ hb1)
    | (go_at_call 78; refine (H17.out _ hb3).mono ?_; rintro e w2 ⟨rfl, hb2⟩; have hb4 := HTr.out hb3 hb2; obtain ⟨hx5, -⟩ := HX.out _ (hb1.trans (hb2.mono hb1.size))))
   all_goals (
    go_wp2_with (go_at_call 80; refine (HS.out _ hb4).mono ?_; rintro e w3 ⟨rfl, vL, hcL, hoL, hbL⟩)
    go_returns
    exact ⟨_, rfl, ⟨rfl, .inl ⟨rfl, rfl⟩⟩, hbL⟩)
 ·rw [if_neg hc] at hy
  obtain ⟨rfl, rfl⟩ := Prod.mk.inj (Option.some.inj hy)
  have hc1 : (c1 == 0) = false := by rw [beq_eq_false_iff_ne]; exact hc
  have hc2 : (c1 != 0) = true := by simp [hc]
  have hc3 : decide (c1 = 0) = false := decide_eq_false hc
  clear hy e1 e2
  go_enter Tryz.func27, Tryz.ntmps27
  go_wp2
  go_region_with (first
   | (go_at_call 79; refine (H18.out _ (Below.drew HT.out)).mono ?_; rintro e w1 ⟨rfl, hb1⟩; obtain ⟨hx2, hb3⟩ := HX.out _ hb1)
   | (go_at_call 78; refine (H17.out _ hb3).mono ?_; rintro e w2 ⟨rfl, hb2⟩; have hb4 := HTr.out hb3 hb2; obtain ⟨hx5, -⟩ := HX.out _ (hb1.trans (hb2.mono hb1.size))))
  all_goals (
   go_wp2
   go_returns
   exact ⟨_, rfl, ⟨rfl, .inl ⟨rfl, rfl⟩⟩, hb4⟩)
def S27 (k : Nat) : Does := ⟨[sT, sI], [(false, [.own 2 (.int .i64)]), (false, [.dat (.int .i64)])], U2 (impl_FirstSplit.f k)⟩
theorem M27 (k) : Meets Tryz.prog 27 (S27 k) := by
 refine ⟨fun args w => by
  have hf := Tryz.func27
  have h1 : (Tryz.f27.name == "runtime.NumGoroutine") = false := by kernel_rfl
  have h1 : Tryz.f27.name ≠ "runtime.NumGoroutine" := by simpa using h1
  obtain ⟨c, hc⟩ := Option.isSome_iff_exists.1 (show Tryz.f27.body.isSome = true by kernel_rfl)
  simp [callFunc, hf, h1, hc, mark], ?_⟩
 intro w X args cells x y hc hX hp hn hgl hy
 obtain ⟨us1, vs1, cs1, rfl, hl1, rfl, v2, vs2, cs2, -, rfl, -, rfl, rfl, rfl⟩ := hc
 obtain ⟨u1, us, e1, h1, u2, e2, h2⟩ := hp
 match us1, hl1 with
 | [v1], _ =>
  obtain ⟨rfl, e3⟩ := List.cons.inj e1
  subst e3
  obtain ⟨rfl, -⟩ := List.cons.inj e2
  obtain ⟨G, m⟩ := x
  obtain ⟨l, c⟩ := y
  have h2 : [v2] = [Value.int .i64 m] := h2
  cases h2
  have hv : bRL w (fun r => X r ∨ w.heap.size ≤ r) v1 G := bRL.keep (N := fun r => X r ∨ r ∈ ownB (flatC (S27 k).ps) ([v1] ++ [Value.int .i64 m])) h1 fun r hr hl => ⟨by
   rintro (h | h)
   ·exact hr (.inl h)
   ·omega, rfl⟩
  refine (first_calls k hv (fun r hr => .inr hr) (GB.new (hgl.move (Frame0.refl _ _) fun r h => h.elim)) (show impl_FirstSplit.f k G m = some (l, c) from hy)).mono ?_
  rintro e w' ⟨u, rfl, ho, hB⟩
  have huo : u.oneCell' = true := by
   rcases ho.2 with ⟨rfl, _⟩ | ⟨g, cap, cur, rfl, _⟩ <;> rfl
  refine ⟨_, [u, .int .i64 c], [u, .int .i64 c], rfl, rfl, ⟨_, _, _, rfl, rfl, huo, rfl, _, _, _, rfl, rfl, rfl, rfl, rfl, rfl⟩, ⟨hB.os, hB.tape, hB.output, hB.size, fun r hr _ => hB.block r hr⟩, ⟨_, _, rfl, ⟨_, ho.base0, b_elems.2 rfl⟩, _, rfl, rfl⟩, ?_, fun r hr => ?_⟩
  ·rcases ho.2 with ⟨rfl, _⟩ | ⟨g, cap, cur, rfl, _⟩
   ·exact List.nodup_nil
   ·show ([g] : List Nat).Nodup
    simp
  ·rcases ho.2 with ⟨rfl, _⟩ | ⟨g, cap, cur, rfl, hb, _⟩
   ·cases hr
   ·have hr : r ∈ [g] := hr
    rw [List.mem_singleton.1 hr]; exact hb
end Go.Proofs.YtcbhhbkghbnljaaGreatDoor.Vf
end
