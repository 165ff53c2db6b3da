/- An evaluator of Go code over typed data, and that the model runs as it says (part 1). Conditions: as each theorem states. My own. -/
import Derived.Calls
import Derived.Orders
import Derived.Below
import Derived.Laws.AppendOwn
import Derived.KernelRfl
import Derived.IntWalk
import Derived.Laws.CopyRow
import Derived.Laws.Rows
import Derived.Laws.Small
import Derived.Laws.Strings
import Derived.Great.BuildSlice
import Derived.Laws.StructEq
section
namespace Go.V
set_option linter.unusedVariables false
set_option linter.unusedSimpArgs false
open Go Go.RowKit
inductive Ty where
 | int (k : IntKind)
 | bool
 | str
 | unit
 | pair (a b : Ty)
 | list (t : Ty)
 | struct (t : Ty)
 | ptr (t : Ty)
 | clo (f : FuncId) (caps : Ty)
 | map (k v : Ty)
 | optr (t : Ty)
def Ty.beq : Ty → Ty → Bool
 | .int j, .int k => decide (j = k)
 | .bool, .bool => true
 | .str, .str => true
 | .unit, .unit => true
 | .pair a b, .pair c d => a.beq c && b.beq d
 | .list a, .list b => a.beq b
 | .struct a, .struct b => a.beq b
 | .ptr a, .ptr b => a.beq b
 | .clo f a, .clo g b => Nat.beq f g && a.beq b
 | .map a b, .map c d => a.beq c && b.beq d
 | .optr a, .optr b => a.beq b
 | _, _ => false
theorem Ty.eq_of_beq {a : Ty} : ∀ {b : Ty}, a.beq b = true → a = b := by
 induction a with
 | int j => intro b h; cases b <;> simp [Ty.beq] at h ⊢; exact h
 | bool => intro b h; cases b <;> simp [Ty.beq] at h ⊢
 | str => intro b h; cases b <;> simp [Ty.beq] at h ⊢
 | unit => intro b h; cases b <;> simp [Ty.beq] at h ⊢
 | pair a b iha ihb => intro c h; cases c <;> simp [Ty.beq] at h ⊢; exact ⟨iha h.1, ihb h.2⟩
 | list a ih => intro b h; cases b <;> simp [Ty.beq] at h ⊢; exact ih h
 | struct a ih => intro b h; cases b <;> simp [Ty.beq] at h ⊢; exact ih h
 | ptr a ih => intro b h; cases b <;> simp [Ty.beq] at h ⊢; exact ih h
 | clo f a ih => intro b h; cases b <;> simp [Ty.beq] at h ⊢; exact ⟨h.1, ih h.2⟩
 | optr a ih => intro b h; cases b <;> simp [Ty.beq] at h ⊢; exact ih h
 | map a b iha ihb => intro c h; cases c <;> simp [Ty.beq] at h ⊢; exact ⟨iha h.1, ihb h.2⟩
def Ty.den : Ty → Type
 | .int _ => Int
 | .bool => Bool
 | .str => ByteArray
 | .unit => Unit
 | .pair a b => a.den × b.den
 | .list t => List t.den
 | .struct t => t.den
 | .ptr t => t.den
 | .clo _ c => c.den
 | .map k v => List (k.den × v.den)
 | .optr t => Option t.den
def Ty.size : Ty → Nat
 | .unit => 0
 | .pair a b => a.size + b.size
 | .struct t => t.size
 | _ => 1
def cast? (s t : Ty) (x : s.den) : Option t.den :=
 if h : s.beq t = true then some (Ty.eq_of_beq h ▸ x) else none
theorem cast?_some {s t : Ty} {x : s.den} {y : t.den} (h : cast? s t x = some y) : ∃ e : s = t, e ▸ x = y := by
 unfold cast? at h
 split at h
 ·rename_i hb
  exact ⟨Ty.eq_of_beq hb, by simpa using h⟩
 ·cases h
def At (w : World) (N : Nat → Prop) (a : Addr) (cs : List Value) : Prop :=
 ∀ j (h : j < cs.length), ¬ N (a.add j).block ∧ w.cell? (a.add j) = some cs[j]
def flatV : (t : Ty) → t.den → Value
 | .int k, n => .int k n
 | .bool, b => .bool b
 | .str, s => .string s
 | _, _ => .nilIface
def mapEnts (k v : Ty) (m : List (k.den × v.den)) : List (Value × Value) := m.map fun p => (flatV k p.1, flatV v p.2)
def entsOf (es : Array MapEntry) : List (Value × Value) := es.toList.map fun e => (e.key, e.val)
def bfst : Nat := 1048576
def cloV (f : FuncId) (v : List Value) : Value := match Nat.ble bfst f with
 | true => .func (.func (f - bfst)) #[.agg v.toArray] #[]
 | false => .func (.func f) #[] v.toArray
theorem cloV_one (f : FuncId) (v : List Value) : (cloV f v).oneCell' = true := by unfold cloV; cases Nat.ble bfst f <;> simp [Value.oneCell']
theorem cloV_cells (f : FuncId) (v : List Value) : (cloV f v).cells = #[cloV f v] := by unfold cloV; cases Nat.ble bfst f <;> simp [Value.cells]
theorem cloV_low {f : FuncId} {v : List Value} (h : Nat.ble bfst f = false) : cloV f v = .func (.func f) #[] v.toArray := by unfold cloV; rw [h]
theorem cloV_high {f : FuncId} {v : List Value} (h : Nat.ble bfst f = true) : cloV f v = .func (.func (f - bfst)) #[.agg v.toArray] #[] := by unfold cloV; rw [h]
def Rc (w : World) (N : Nat → Prop) : (t : Ty) → t.den → List Value → Prop
 | .int k, n, cs => cs = [.int k n]
 | .bool, b, cs => cs = [.bool b]
 | .str, s, cs => cs = [.string s]
 | .unit, _, cs => cs = []
 | .pair a b, x, cs => ∃ c d, cs = c ++ d ∧ Rc w N a x.1 c ∧ Rc w N b x.2 d
 | .struct t, x, cs => Rc w N t x cs
 | .list t, l, cs => ∃ (A : Option Addr) (cap : Nat), cs = [.slice A (List.length l) cap] ∧ List.length l ≤ cap ∧ (A = none → cap = 0) ∧
   ∀ i (h : i < List.length l), ∃ a, A = some a ∧ ∃ c, c.length = t.size ∧ At w N (a.add (i * t.size)) c ∧ Rc w N t (List.get l ⟨i, h⟩) c
 | .ptr t, x, cs => ∃ a, cs = [.pointer (some a)] ∧ ∃ c, c.length = t.size ∧ At w N a c ∧ Rc w N t x c
 | .clo f c, x, cs => ∃ v : List Value, cs = [cloV f v] ∧ Rc w N c x v
 | .map k v, m, cs => ∃ r es clock, cs = [.map (some r)] ∧ ¬ N r ∧ w.heap[r]? = some (.map es clock) ∧ entsOf es = mapEnts k v m
 | .optr t, x, cs => match x with
  | none => cs = [.pointer none]
  | some y => ∃ a, cs = [.pointer (some a)] ∧ ∃ c, c.length = t.size ∧ At w N a c ∧ Rc w N t y c
theorem cell_has {w : World} {a : Addr} {v : Value} (h : w.cell? a = some v) : ∃ o, w.heap[a.block]? = some o := by
 cases ho : w.heap[a.block]? with
 | none => simp [World.cell?, ho] at h
 | some o => exact ⟨o, rfl⟩
theorem cell_move {w w' : World} {N N' : Nat → Prop} (hm : ∀ r o, ¬ N r → w.heap[r]? = some o → ¬ N' r ∧ w'.heap[r]? = some o) {a : Addr} {v : Value} (hn : ¬ N a.block) (hc : w.cell? a = some v) : ¬ N' a.block ∧ w'.cell? a = some v := by
 obtain ⟨o, ho⟩ := cell_has hc
 obtain ⟨h1, h2⟩ := hm _ _ hn ho
 exact ⟨h1, (World.cell?_of_block (w := w) (h2.trans ho.symm)).trans hc⟩
theorem At.move {w w' : World} {N N' : Nat → Prop} (hm : ∀ r o, ¬ N r → w.heap[r]? = some o → ¬ N' r ∧ w'.heap[r]? = some o) {a : Addr} {cs : List Value}
  (h : At w N a cs) : At w' N' a cs := fun j hj => cell_move hm (h j hj).1 (h j hj).2
theorem Rc.move {w w' : World} {N N' : Nat → Prop} (hm : ∀ r o, ¬ N r → w.heap[r]? = some o → ¬ N' r ∧ w'.heap[r]? = some o) :
  ∀ {t : Ty} {x : t.den} {cs : List Value}, Rc w N t x cs → Rc w' N' t x cs
 | .int _, _, _, h => h
 | .bool, _, _, h => h
 | .str, _, _, h => h
 | .unit, _, _, h => h
 | .pair _ _, _, _, ⟨c, d, e, h, k⟩ => ⟨c, d, e, Rc.move hm h, Rc.move hm k⟩
 | .struct t, _, _, h => Rc.move (t := t) hm h
 | .list t, _, _, ⟨A, cap, e, hc, hn, h⟩ => ⟨A, cap, e, hc, hn, fun i hi =>
   let ⟨a, ha, c, hl, hat, hr⟩ := h i hi; ⟨a, ha, c, hl, hat.move hm, Rc.move hm hr⟩⟩
 | .ptr t, _, _, ⟨a, e, c, hl, hat, hr⟩ => ⟨a, e, c, hl, hat.move hm, Rc.move (t := t) hm hr⟩
 | .clo _ t, _, _, ⟨v, e, hr⟩ => ⟨v, e, Rc.move (t := t) hm hr⟩
 | .map _ _, _, _, ⟨r, es, c, e, hn, hg, he⟩ => ⟨r, es, c, e, (hm r _ hn hg).1, (hm r _ hn hg).2, he⟩
 | .optr t, none, _, h => h
 | .optr t, some y, _, ⟨a, e, c, hl, hat, hr⟩ => ⟨a, e, c, hl, hat.move hm, Rc.move (t := t) hm hr⟩
theorem Rc.weaken {w : World} {N N' : Nat → Prop} (h : ∀ b, N' b → N b) {t : Ty} {x : t.den} {cs : List Value} (hr : Rc w N t x cs) : Rc w N' t x cs :=
 hr.move fun _ _ hn hc => ⟨fun hn' => hn (h _ hn'), hc⟩
theorem Rc.length {w : World} {N : Nat → Prop} : ∀ {t : Ty} {x : t.den} {cs : List Value}, Rc w N t x cs → cs.length = t.size
 | .int _, _, _, h => by cases h; rfl
 | .bool, _, _, h => by cases h; rfl
 | .str, _, _, h => by cases h; rfl
 | .unit, _, _, h => by cases h; rfl
 | .pair _ _, _, _, ⟨c, d, e, h, k⟩ => by rw [e, List.length_append, Rc.length h, Rc.length k]; rfl
 | .struct t, _, _, h => Rc.length (t := t) h
 | .list t, _, _, ⟨A, cap, e, _⟩ => by rw [e]; rfl
 | .ptr t, _, _, ⟨a, e, _⟩ => by rw [e]; rfl
 | .clo _ t, _, _, ⟨v, e, _⟩ => by rw [e]; rfl
 | .map _ _, _, _, ⟨r, es, c, e, _⟩ => by rw [e]; rfl
 | .optr t, none, _, h => by rw [show _ = _ from h]; rfl
 | .optr t, some y, _, ⟨a, e, _⟩ => by rw [e]; rfl
theorem Rc.oneCell {w : World} {N : Nat → Prop} : ∀ {t : Ty} {x : t.den} {cs : List Value}, Rc w N t x cs → ∀ v ∈ cs, v.oneCell' = true
 | .int _, _, _, h => by cases h; simp [Value.oneCell']
 | .bool, _, _, h => by cases h; simp [Value.oneCell']
 | .str, _, _, h => by cases h; simp [Value.oneCell']
 | .unit, _, _, h => by cases h; simp
 | .pair _ _, _, _, ⟨c, d, e, h, k⟩ => by
  intro v hv; rw [e, List.mem_append] at hv
  exact hv.elim (Rc.oneCell h v) (Rc.oneCell k v)
 | .struct t, _, _, h => Rc.oneCell (t := t) h
 | .list t, _, _, ⟨A, cap, e, _⟩ => by rw [e]; simp [Value.oneCell']
 | .ptr t, _, _, ⟨a, e, _⟩ => by rw [e]; simp [Value.oneCell']
 | .clo _ t, _, _, ⟨v, e, _⟩ => by rw [e]; intro u hu; rw [List.mem_singleton] at hu; rw [hu]; exact cloV_one _ _
 | .map _ _, _, _, ⟨r, es, c, e, _⟩ => by rw [e]; simp [Value.oneCell']
 | .optr t, none, _, h => by rw [show _ = _ from h]; simp [Value.oneCell']
 | .optr t, some y, _, ⟨a, e, _⟩ => by rw [e]; simp [Value.oneCell']
end Go.V
end
section
namespace Go.V
open Go Go.RowKit
set_option linter.unusedVariables false
set_option linter.unusedSimpArgs false
inductive AV where
 | undef
 | gone
 | dat (t : Ty) (x : t.den)
 | test (pos : Bool) (p : Prop) (i : Decidable p)
 | own (b : Nat)
 | om (b : Nat)
 | pnil
 | dne (t : Ty)
 | nil
 | box (b i : Nat)
 | ep (b i : Nat)
 | dp (t : Ty) (x : t.den)
 | clo (f : FuncId) (caps : List AV)
 | agg (cs : List AV)
 | tup (vs : List AV)
inductive Blk where
 | flat (e : TypeId) (t : Ty) (l : List t.den)
 | frz (e : TypeId) (t : Ty) (l : List t.den)
 | cells (cs : List AV)
 | mp (k v : Ty) (m : List (k.den × v.den))
 | fmp (k v : Ty) (m : List (k.den × v.den))
 | que (e : TypeId) (t : Ty) (l : List t.den)
inductive Shape where
 | row (e : TypeId) (t : Ty) (n : Nat)
 | cells (n : Nat)
 | map (k v : Ty)
def Blk.shape : Blk → Shape
 | .flat e t l => .row e t (List.length l)
 | .frz e t l => .row e t (List.length l)
 | .cells cs => .cells cs.length
 | .mp k v _ => .map k v
 | .fmp k v _ => .map k v
 | .que e t l => .row e t (List.length l)
def Blk.live : Blk → Bool
 | .frz .. => false
 | .fmp .. => false
 | _ => true
def look {α : Type} : List (Nat × α) → Nat → Option α
 | [], _ => none
 | (k, v) :: l, n => match Nat.beq n k with
  | true => some v
  | false => look l n
structure St where
 n : Nat
 get : Nat → AV
 find : Nat → Option Blk
def upd {α : Type} (f : Nat → α) (k : Nat) (v : α) : Nat → α := fun n => match Nat.beq n k with
 | true => v
 | false => f n
theorem upd_eq {α : Type} (f : Nat → α) (k : Nat) (v : α) (n : Nat) : upd f k v n = if n = k then v else f n := by
 unfold upd
 by_cases h : n = k
 ·subst h; simp
 ·rw [if_neg h]
  have : Nat.beq n k = false := by rw [Bool.eq_false_iff]; intro hh; exact h (Nat.eq_of_beq_eq_true hh)
  rw [this]
def St.set (st : St) (t : Nat) (v : AV) : St := { st with get := upd st.get t v }
def St.lay (st : St) (b : Nat) (blk : Blk) : St := { st with find := upd st.find b (some blk) }
def lookA (l : List (Nat × AV)) (t : Nat) : AV :=
 match look l t with
 | some v => v
 | none => .undef
def AV.ren (σ : Nat → Option Nat) : AV → AV
 | .own b => match σ b with
  | some b' => .own b'
  | none => .undef
 | .om b => match σ b with
  | some b' => .om b'
  | none => .undef
 | .box b i => match σ b with
  | some b' => .box b' i
  | none => .undef
 | .ep b i => match σ b with
  | some b' => .ep b' i
  | none => .undef
 | .clo f caps => .clo f (renL σ caps)
 | .agg cs => .agg (renL σ cs)
 | .tup vs => .tup (renL σ vs)
 | v => v
where renL (σ : Nat → Option Nat) : List AV → List AV
 | [] => []
 | v :: l => v.ren σ :: renL σ l
theorem AV.renL_length (σ : Nat → Option Nat) : ∀ l, (AV.ren.renL σ l).length = l.length
 | [] => rfl
 | _ :: l => by simp [AV.ren.renL, AV.renL_length σ l]
def Blk.ren (σ : Nat → Option Nat) : Blk → Blk
 | .cells cs => .cells (AV.ren.renL σ cs)
 | b => b
structure Cx where
 w : World
 N : Nat → Prop
 hd : Nat → Value
 find : Nat → Option Blk
def All2 {α β : Type} (R : α → β → Prop) : List α → List β → Prop
 | [], [] => True
 | a :: l, b :: m => R a b ∧ All2 R l m
 | _, _ => False
theorem All2.length {α β : Type} {R : α → β → Prop} : ∀ {l : List α} {m : List β}, All2 R l m → l.length = m.length
 | [], [], _ => rfl
 | _ :: _, _ :: _, h => by simp [All2.length h.2]
 | [], _ :: _, h => h.elim
 | _ :: _, [], h => h.elim
theorem All2.mono {α β : Type} {R R' : α → β → Prop} (hr : ∀ a b, R a b → R' a b) : ∀ {l : List α} {m : List β}, All2 R l m → All2 R' l m
 | [], [], _ => trivial
 | _ :: _, _ :: _, h => ⟨hr _ _ h.1, All2.mono hr h.2⟩
 | [], _ :: _, h => h.elim
 | _ :: _, [], h => h.elim
theorem All2.append {α β : Type} {R : α → β → Prop} : ∀ {l l' : List α} {m m' : List β}, All2 R l m → All2 R l' m' → All2 R (l ++ l') (m ++ m')
 | [], _, [], _, _, h => h
 | _ :: _, _, _ :: _, _, h, k => ⟨h.1, All2.append h.2 k⟩
 | [], _, _ :: _, _, h, _ => h.elim
 | _ :: _, _, [], _, h, _ => h.elim
theorem All2.get {α β : Type} {R : α → β → Prop} : ∀ {l : List α} {m : List β}, All2 R l m → ∀ {i : Nat} {a : α}, l[i]? = some a → ∃ b, m[i]? = some b ∧ R a b
 | [], [], _, i, a, h => by simp at h
 | x :: l, y :: m, hh, 0, a, h => by simp at h; subst h; exact ⟨y, by simp, hh.1⟩
 | x :: l, y :: m, hh, i + 1, a, h => by
  simp at h
  obtain ⟨b, hb, hr⟩ := All2.get hh.2 h
  exact ⟨b, by simpa using hb, hr⟩
 | [], _ :: _, h, _, _, _ => h.elim
 | _ :: _, [], h, _, _, _ => h.elim
theorem All2.set {α β : Type} {R : α → β → Prop} {a : α} {b : β} (hr : R a b) : ∀ {l : List α} {m : List β} (i : Nat), All2 R l m → All2 R (l.set i a) (m.set i b)
 | [], [], _, _ => trivial
 | x :: l, y :: m, 0, h => ⟨hr, h.2⟩
 | x :: l, y :: m, i + 1, h => ⟨h.1, All2.set hr i h.2⟩
 | [], _ :: _, _, h => h.elim
 | _ :: _, [], _, h => h.elim
theorem All2.drop {α β : Type} {R : α → β → Prop} : ∀ {l : List α} {m : List β} (i : Nat), All2 R l m → All2 R (l.drop i) (m.drop i)
 | [], [], _, _ => by simp [All2]
 | x :: l, y :: m, 0, h => h
 | x :: l, y :: m, i + 1, h => All2.drop i h.2
 | [], _ :: _, _, h => h.elim
 | _ :: _, [], _, h => h.elim
theorem All2.take {α β : Type} {R : α → β → Prop} : ∀ {l : List α} {m : List β} (i : Nat), All2 R l m → All2 R (l.take i) (m.take i)
 | [], [], _, _ => by simp [All2]
 | x :: l, y :: m, 0, h => by simp [All2]
 | x :: l, y :: m, i + 1, h => ⟨h.1, All2.take i h.2⟩
 | [], _ :: _, _, h => h.elim
 | _ :: _, [], _, h => h.elim
def R0 (c : Cx) : AV → Value → Prop
 | .undef, _ => True
 | .gone, v => v = Go.undef
 | .dat t x, v => Rc c.w c.N t x [v]
 | .test pos p i, v => v = .bool (pos == @decide p i)
 | .own b, v => v = c.hd b ∧ v.oneCell' = true ∧ ∃ blk e t n, c.find b = some blk ∧ blk.shape = .row e t n
 | .om b, v => v = c.hd b ∧ v.oneCell' = true ∧ ∃ blk kt vt, c.find b = some blk ∧ blk.shape = .map kt vt
 | .nil, v => v = .slice none 0 0
 | .pnil, v => v = .pointer none
 | .dne _, v => ∃ a cap, v = .slice (some a) 0 cap
 | .box b i, v => ∃ blk n r, c.find b = some blk ∧ blk.shape = .cells n ∧ i < n ∧ c.hd b = .pointer (some ⟨r, 0, none⟩) ∧ v = .pointer (some ⟨r, i, none⟩)
 | .ep b i, v => ∃ blk e t n r off m cap, c.find b = some blk ∧ blk.shape = .row e t n ∧ i < n ∧ c.hd b = .slice (some ⟨r, off, none⟩) m cap ∧ v = .pointer (some ⟨r, off + i * t.size, none⟩)
 | .dp t x, v => Rc c.w c.N (.ptr t) x [v]
 | _, _ => False
def R1 (c : Cx) : AV → Value → Prop
 | .clo f caps, v => ∃ vs : List Value, v = cloV f vs ∧ All2 (R0 c) caps vs
 | a, v => R0 c a v
def Ra (c : Cx) : AV → Value → Prop
 | .agg cs, v => ∃ vs : List Value, v = .agg vs.toArray ∧ All2 (R1 c) cs vs
 | a, v => R1 c a v
def Rt (c : Cx) : AV → Value → Prop
 | .tup ts, v => ∃ vs : List Value, v = .tuple vs.toArray ∧ All2 (Ra c) ts vs
 | a, v => Ra c a v
theorem R1.of0 {c : Cx} {a : AV} {v : Value} (h : R0 c a v) : R1 c a v := by cases a <;> first | exact h | exact h.elim
theorem Ra.of1 {c : Cx} {a : AV} {v : Value} (h : R1 c a v) : Ra c a v := by cases a <;> first | exact h | exact h.elim
theorem Rt.ofa {c : Cx} {a : AV} {v : Value} (h : Ra c a v) : Rt c a v := by cases a <;> first | exact h | exact h.elim
theorem Rt.of1 {c : Cx} {a : AV} {v : Value} (h : R1 c a v) : Rt c a v := .ofa (.of1 h)
theorem Rt.of0 {c : Cx} {a : AV} {v : Value} (h : R0 c a v) : Rt c a v := .ofa (.of1 (.of0 h))
structure Goes (σ : Nat → Option Nat) (c c' : Cx) : Prop where
 move : ∀ r o, ¬ c.N r → c.w.heap[r]? = some o → ¬ c'.N r ∧ c'.w.heap[r]? = some o
 name : ∀ b b' blk, σ b = some b' → c.find b = some blk → ∃ blk', c'.find b' = some blk' ∧ blk'.shape = blk.shape ∧ c'.hd b' = c.hd b
theorem R0.ren {σ : Nat → Option Nat} {c c' : Cx} (g : Goes σ c c') : ∀ {a : AV} {v : Value}, R0 c a v → R0 c' (a.ren σ) v
 | .undef, _, h => h
 | .gone, _, h => h
 | .dat t x, _, h => Rc.move g.move h
 | .test .., _, h => h
 | .nil, _, h => h
 | .pnil, _, h => h
 | .dne _, _, h => h
 | .dp t x, _, h => Rc.move (t := .ptr t) g.move h
 | .own b, v, h => by
  obtain ⟨hv, h1, blk, e, t, n, hf, hs⟩ := h
  unfold AV.ren
  cases hσ : σ b with
  | none => trivial
  | some b' =>
   obtain ⟨blk', hf', hs', hh⟩ := g.name b b' blk hσ hf
   exact ⟨hv.trans hh.symm, h1, blk', e, t, n, hf', hs'.trans hs⟩
 | .om b, v, h => by
  obtain ⟨hv, h1, blk, kt, vt, hf, hs⟩ := h
  unfold AV.ren
  cases hσ : σ b with
  | none => trivial
  | some b' =>
   obtain ⟨blk', hf', hs', hh⟩ := g.name b b' blk hσ hf
   exact ⟨hv.trans hh.symm, h1, blk', kt, vt, hf', hs'.trans hs⟩
 | .box b i, v, h => by
  obtain ⟨blk, n, r, hf, hs, hi, hh, hv⟩ := h
  unfold AV.ren
  cases hσ : σ b with
  | none => trivial
  | some b' =>
   obtain ⟨blk', hf', hs', hh'⟩ := g.name b b' blk hσ hf
   exact ⟨blk', n, r, hf', hs'.trans hs, hi, hh'.trans hh, hv⟩
 | .ep b i, v, h => by
  obtain ⟨blk, e, t, n, r, off, m, cap, hf, hs, hi, hh, hv⟩ := h
  unfold AV.ren
  cases hσ : σ b with
  | none => trivial
  | some b' =>
   obtain ⟨blk', hf', hs', hh'⟩ := g.name b b' blk hσ hf
   exact ⟨blk', e, t, n, r, off, m, cap, hf', hs'.trans hs, hi, hh'.trans hh, hv⟩
theorem All2.renL {σ : Nat → Option Nat} {R R' : AV → Value → Prop} (h : ∀ a v, R a v → R' (a.ren σ) v) : ∀ {l : List AV} {m : List Value}, All2 R l m → All2 R' (AV.ren.renL σ l) m
 | [], [], _ => trivial
 | a :: l, v :: m, hh => ⟨h a v hh.1, All2.renL h hh.2⟩
 | [], _ :: _, h => h.elim
 | _ :: _, [], h => h.elim
theorem R1.ren {σ : Nat → Option Nat} {c c' : Cx} (g : Goes σ c c') {a : AV} {v : Value} (h : R1 c a v) : R1 c' (a.ren σ) v := by
 cases a with
 | clo f caps =>
  obtain ⟨vs, hv, ha⟩ := h
  exact ⟨vs, hv, All2.renL (fun _ _ h => R0.ren g h) ha⟩
 | _ => exact R1.of0 (R0.ren g h)
theorem Ra.ren {σ : Nat → Option Nat} {c c' : Cx} (g : Goes σ c c') {a : AV} {v : Value} (h : Ra c a v) : Ra c' (a.ren σ) v := by
 cases a with
 | agg cs =>
  obtain ⟨vs, hv, ha⟩ := h
  exact ⟨vs, hv, All2.renL (fun _ _ h => R1.ren g h) ha⟩
 | _ => exact Ra.of1 (R1.ren g h)
theorem Rt.ren {σ : Nat → Option Nat} {c c' : Cx} (g : Goes σ c c') {a : AV} {v : Value} (h : Rt c a v) : Rt c' (a.ren σ) v := by
 cases a with
 | tup vs =>
  obtain ⟨us, hv, ha⟩ := h
  exact ⟨us, hv, All2.renL (fun _ _ h => Ra.ren g h) ha⟩
 | _ => exact Rt.ofa (Ra.ren g h)
mutual
theorem AV.ren_some : ∀ a : AV, a.ren some = a
 | .undef => rfl
 | .gone => rfl
 | .dat .. => rfl
 | .test .. => rfl
 | .own _ => rfl
 | .om _ => rfl
 | .pnil => rfl
 | .dne _ => rfl
 | .nil => rfl
 | .box .. => rfl
 | .ep .. => rfl
 | .dp .. => rfl
 | .clo f caps => by simp only [AV.ren, AV.renL_some caps]
 | .agg cs => by simp only [AV.ren, AV.renL_some cs]
 | .tup vs => by simp only [AV.ren, AV.renL_some vs]
theorem AV.renL_some : ∀ l : List AV, AV.ren.renL some l = l
 | [] => rfl
 | a :: l => by simp only [AV.ren.renL, AV.ren_some a, AV.renL_some l]
end
theorem R0.go {c c' : Cx} (g : Goes some c c') {a : AV} {v : Value} (h : R0 c a v) : R0 c' a v := by have := R0.ren g h; rwa [AV.ren_some] at this
theorem R1.go {c c' : Cx} (g : Goes some c c') {a : AV} {v : Value} (h : R1 c a v) : R1 c' a v := by have := R1.ren g h; rwa [AV.ren_some] at this
theorem Ra.go {c c' : Cx} (g : Goes some c c') {a : AV} {v : Value} (h : Ra c a v) : Ra c' a v := by have := Ra.ren g h; rwa [AV.ren_some] at this
theorem Rt.go {c c' : Cx} (g : Goes some c c') {a : AV} {v : Value} (h : Rt c a v) : Rt c' a v := by have := Rt.ren g h; rwa [AV.ren_some] at this
def Elems (w : World) (N : Nat → Prop) (t : Ty) : List t.den → List Value → Prop
 | [], xs => xs = []
 | x :: l, xs => ∃ c d, xs = c ++ d ∧ Rc w N t x c ∧ Elems w N t l d
theorem Elems.move {w w' : World} {N N' : Nat → Prop} (hm : ∀ r o, ¬ N r → w.heap[r]? = some o → ¬ N' r ∧ w'.heap[r]? = some o) {t : Ty} :
  ∀ {l : List t.den} {xs : List Value}, Elems w N t l xs → Elems w' N' t l xs
 | [], _, h => h
 | _ :: _, _, ⟨c, d, e, h, k⟩ => ⟨c, d, e, Rc.move hm h, Elems.move hm k⟩
theorem Elems.append {w : World} {N : Nat → Prop} {t : Ty} : ∀ {l m : List t.den} {xs ys : List Value}, Elems w N t l xs → Elems w N t m ys → Elems w N t (l ++ m) (xs ++ ys)
 | [], _, _, _, h, k => by cases h; exact k
 | _ :: _, _, _, _, ⟨c, d, e, h, h'⟩, k => ⟨c, d ++ _, by rw [e, List.append_assoc], h, Elems.append h' k⟩
theorem Elems.length {w : World} {N : Nat → Prop} {t : Ty} : ∀ {l : List t.den} {xs : List Value}, Elems w N t l xs → xs.length = l.length * t.size
 | [], _, h => by cases h; simp
 | _ :: l, _, ⟨c, d, e, h, k⟩ => by rw [e, List.length_append, h.length, Elems.length k, List.length_cons, Nat.add_mul]; omega
theorem Elems.oneCell {w : World} {N : Nat → Prop} {t : Ty} : ∀ {l : List t.den} {xs : List Value}, Elems w N t l xs → ∀ v ∈ xs, v.oneCell' = true
 | [], _, h, v, hv => by cases h; cases hv
 | _ :: l, _, ⟨c, d, e, h, k⟩, v, hv => by
  rw [e, List.mem_append] at hv
  exact hv.elim (h.oneCell v) (Elems.oneCell k v)
theorem Elems.drop {w : World} {N : Nat → Prop} {t : Ty} : ∀ {l : List t.den} {xs : List Value}, Elems w N t l xs → ∀ i : Nat, Elems w N t (l.drop i) (xs.drop (i * t.size))
 | [], xs, h, i => by
  have h : xs = [] := h
  subst h
  rw [List.drop_nil, List.drop_nil]; exact (rfl : ([] : List Value) = [])
 | x :: l, xs, h, 0 => by simpa using h
 | x :: l, _, ⟨c, d, e, hr, k⟩, i + 1 => by
  have hc := hr.length
  have := Elems.drop k i
  rw [e, show (i + 1) * t.size = c.length + i * t.size by rw [hc, Nat.add_mul]; omega, List.drop_succ_cons, ← List.drop_drop (i := i * t.size), List.drop_left]
  exact this
theorem Elems.get {w : World} {N : Nat → Prop} {t : Ty} : ∀ {l : List t.den} {xs : List Value}, Elems w N t l xs → ∀ (i : Nat) (h : i < l.length), Rc w N t l[i] ((xs.drop (i * t.size)).take t.size)
 | [], _, _, i, h => by simp at h
 | x :: l, _, ⟨c, d, e, hr, k⟩, 0, _ => by
  have hc := hr.length
  simp only [e, Nat.zero_mul, List.drop_zero, List.getElem_cons_zero]
  rw [List.take_append_of_le_length (by omega), List.take_of_length_le (by omega)]
  exact hr
 | x :: l, _, ⟨c, d, e, hr, k⟩, i + 1, h => by
  have hc := hr.length
  have := Elems.get k i (by simpa using h)
  rw [e, show (i + 1) * t.size = c.length + i * t.size by rw [hc, Nat.add_mul]; omega, ← List.drop_drop, List.drop_left]
  simpa using this
theorem Elems.set {w : World} {N : Nat → Prop} {t : Ty} {x : t.den} {c' : List Value} (hx : Rc w N t x c') : ∀ {l : List t.den} {xs : List Value}, Elems w N t l xs → ∀ (i : Nat), i < l.length →
  Elems w N t (l.set i x) (xs.take (i * t.size) ++ c' ++ xs.drop (i * t.size + t.size))
 | [], _, _, i, h => by simp at h
 | y :: l, _, ⟨c, d, e, hr, k⟩, 0, _ => by
  have hc := hr.length
  refine ⟨c', d, ?_, hx, k⟩
  rw [e, Nat.zero_mul, Nat.zero_add, ← hc, List.drop_left]
  simp
 | y :: l, _, ⟨c, d, e, hr, k⟩, i + 1, h => by
  have hc := hr.length
  refine ⟨c, _, ?_, hr, Elems.set hx k i (by simpa using h)⟩
  rw [e, show (i + 1) * t.size = c.length + i * t.size by rw [hc, Nat.add_mul]; omega, List.take_length_add_append, Nat.add_assoc, ← List.drop_drop, List.drop_left]
  simp [List.append_assoc]
def blockOf : Value → Option Nat
 | .slice (some a) _ _ => some a.block
 | .pointer (some a) => some a.block
 | .map (some r) => some r
 | _ => none
def ownsAt (w : World) (e : TypeId) (size : Nat) (v : Value) (n : Nat) (xs : List Value) : Prop :=
 xs.length = n * size ∧ ((v = .slice none 0 0 ∧ n = 0) ∨
  ∃ g off cap cur, v = .slice (some ⟨g, off, none⟩) n cap ∧ w.heap[g]? = some (.cells cur e (0, 0)) ∧ n ≤ cap ∧ cap ≤ maxLen ∧ off + cap * size ≤ cur.size ∧ (cur.toList.drop off).take (n * size) = xs)
theorem ownsAt_of {w : World} {base : Nat} {e : TypeId} {size : Nat} {v : Value} {n : Nat} {xs : List Value} (h : w.ownsRow base e size v n xs) : ownsAt w e size v n xs := by
 refine ⟨h.1, ?_⟩
 rcases h.2 with hn | ⟨g, cap, cur, hv, _, hg, h1, h2, h3, h4⟩
 ·exact .inl hn
 ·exact .inr ⟨g, 0, cap, cur, hv, hg, h1, h2, by omega, by rw [List.drop_zero]; exact h4⟩
def RB (c : Cx) (b : Nat) : Blk → Prop
 | .flat e t l => ∃ xs, c.w.ownsRow 0 e t.size (c.hd b) (List.length l) xs ∧ Elems c.w c.N t l xs
 | .frz e t l => ∃ xs, c.w.ownsRow 0 e t.size (c.hd b) (List.length l) xs ∧ Elems c.w c.N t l xs
 | .cells cs => ∃ r vs e, c.hd b = .pointer (some ⟨r, 0, none⟩) ∧ c.w.heap[r]? = some (.cells (List.toArray vs) e (0, 0)) ∧ All2 (R1 c) cs vs
 | .mp k v m => ∃ r es clock, c.hd b = .map (some r) ∧ c.w.heap[r]? = some (.map es clock) ∧ entsOf es = mapEnts k v m
 | .fmp k v m => ∃ r es clock, c.hd b = .map (some r) ∧ c.w.heap[r]? = some (.map es clock) ∧ entsOf es = mapEnts k v m
 | .que e t l => ∃ xs, ownsAt c.w e t.size (c.hd b) (List.length l) xs ∧ Elems c.w c.N t l xs
def Mine (find : Nat → Option Blk) (hd : Nat → Value) (r : Nat) : Prop := ∃ b blk, find b = some blk ∧ blk.live = true ∧ blockOf (hd b) = some r
def Held (find : Nat → Option Blk) (hd : Nat → Value) (r : Nat) : Prop := ∃ b blk, find b = some blk ∧ blockOf (hd b) = some r
theorem Mine.held {find : Nat → Option Blk} {hd : Nat → Value} {r : Nat} (h : Mine find hd r) : Held find hd r := let ⟨b, blk, hf, _, hr⟩ := h; ⟨b, blk, hf, hr⟩
structure Frame0 (w0 w : World) (M : Nat → Prop) : Prop where
 os : w.os = w0.os
 tape : w.tape = w0.tape
 output : w.output = w0.output
 size : w0.heap.size ≤ w.heap.size
 block : ∀ k, k < w0.heap.size → ¬ M k → w.heap[k]? = w0.heap[k]?
theorem Frame0.refl (w : World) (M : Nat → Prop) : Frame0 w w M := ⟨rfl, rfl, rfl, Nat.le_refl _, fun _ _ _ => rfl⟩
theorem Frame0.trans {w0 w1 w2 : World} {M M' : Nat → Prop} (h : Frame0 w0 w1 M) (k : Frame0 w1 w2 M') (hm : ∀ r, r < w0.heap.size → M' r → M r) : Frame0 w0 w2 M :=
 ⟨k.os.trans h.os, k.tape.trans h.tape, k.output.trans h.output, Nat.le_trans h.size k.size, fun r hr hn => (k.block r (Nat.lt_of_lt_of_le hr h.size) fun hq => hn (hm r hr hq)).trans (h.block r hr hn)⟩
structure Mo where
 blocks : Nat → Prop
 np : Nat
 hd0 : Nat → Value
structure Rel (w0 : World) (M : Mo) (X : Nat → Prop) (hd : Nat → Value) (st : St) (a : Act) (w : World) : Prop where
 size : a.tmps.size = st.n
 defers : a.defers = []
 tmps : ∀ t, Rt ⟨w, fun r => X r ∨ Mine st.find hd r, hd, st.find⟩ (st.get t) (a.tmps.getD t undef)
 blocks : ∀ b blk, st.find b = some blk → RB ⟨w, fun r => X r ∨ Mine st.find hd r, hd, st.find⟩ b blk
 inj : ∀ b b' blk blk' r, st.find b = some blk → st.find b' = some blk' → blockOf (hd b) = some r → blockOf (hd b') = some r → b = b'
 frame : Frame0 w0 w M.blocks
 mine : ∀ r, Held st.find hd r → M.blocks r ∨ w0.heap.size ≤ r
 pins : ∀ i, i < M.np → hd i = M.hd0 i ∧ ∃ blk, st.find i = some blk
 xfar : ∀ r, X r → r < w.heap.size ∧ ¬ Held st.find hd r
def St.cx (st : St) (X : Nat → Prop) (hd : Nat → Value) (w : World) : Cx := ⟨w, fun r => X r ∨ Mine st.find hd r, hd, st.find⟩
theorem look_cons {α : Type} (k : Nat) (v : α) (l : List (Nat × α)) (n : Nat) : look ((k, v) :: l) n = if n = k then some v else look l n := by
 rw [look]
 by_cases h : n = k
 ·subst h; simp
 ·rw [if_neg h]
  have : Nat.beq n k = false := by rw [Bool.eq_false_iff]; intro hh; exact h (Nat.eq_of_beq_eq_true hh)
  rw [this]
theorem St.get_set (st : St) (t t' : Nat) (v : AV) : (st.set t v).get t' = if t' = t then v else st.get t' := upd_eq _ _ _ _
theorem Rel.put {w0 : World} {M : Mo} {X : Nat → Prop} {hd : Nat → Value} {st : St} {a : Act} {w : World} (h : Rel w0 M X hd st a w) {t : Nat} (ht : t < st.n) {v : AV} {x : Value}
  (hx : Rt (st.cx X hd w) v x) : Rel w0 M X hd (st.set t v) (a.put (some t) x) w := by
 refine ⟨by simp [Act.put, h.size, St.set], by simp [Act.put, h.defers], ?_, h.blocks, h.inj, h.frame, h.mine, h.pins, h.xfar⟩
 intro t'
 rw [St.get_set]
 show Rt (st.cx X hd w) _ _
 by_cases e : t' = t
 ·subst e
  rw [if_pos rfl]
  have : (a.put (some t') x).tmps.getD t' undef = x := by simp [Act.put, Array.getD_eq_getD_getElem?, Array.getElem?_setIfInBounds, h.size, ht]
  rw [this]; exact hx
 ·rw [if_neg e]
  have : (a.put (some t) x).tmps.getD t' undef = a.tmps.getD t' undef := by
   simp only [Act.put, Array.getD_eq_getD_getElem?, Array.getElem?_setIfInBounds]
   rw [if_neg (fun h => e h.symm)]
  rw [this]; exact h.tmps t'
end Go.V
end
section
namespace Go.V
open Go Go.RowKit
set_option linter.unusedVariables false
set_option linter.unusedSimpArgs false
inductive TK where
 | slice (e : TypeId)
 | struct (q : Bool) (fs : List (Nat × TypeId))
 | int (k : IntKind)
 | bool
 | str
 | ptr (e : TypeId)
 | fn
 | map (k e : TypeId)
 | other
structure TI where
 tk : TK
 size : Nat
 bytes : Nat
 zero : List Value
def tkOf (P : Program) (t : TypeId) : TypeDesc → TK
 | .slice e => .slice e
 | .struct fs => .struct (fs.toList.all (fun f => f.name != "_") && !P.stoodInHeld t && !P.eqGuardType P.depth t) (fs.toList.map fun f => (f.offset, f.type))
 | .int k => .int k
 | .bool => .bool
 | .string => .str
 | .pointer e => .ptr e
 | .func .. => .fn
 | .map k e => .map k e
 | _ => .other
def aggTK : TK → Bool
 | .struct .. => true
 | .other => true
 | _ => false
def entryOf (P : Program) (t : TypeId) : Option TI :=
 match P.underlying t with
 | some d => match P.info? t with
  | some i => match i.zero with
   | some z => match aggTK (tkOf P t d) || z.oneCell' with
    | true => some ⟨tkOf P t d, i.size, i.bytes, z.cells.toList⟩
    | false => none
   | none => none
  | none => none
 | none => none
def dflt : (t : Ty) → t.den
 | .int _ => (0 : Int)
 | .bool => false
 | .str => ByteArray.empty
 | .unit => ()
 | .pair a b => (dflt a, dflt b)
 | .list _ => []
 | .struct t => dflt t
 | .ptr t => dflt t
 | .clo _ c => dflt c
 | .map .. => []
 | .optr _ => none
def zcells : Ty → Option (List Value)
 | .int k => some [.int k 0]
 | .bool => some [.bool false]
 | .str => some [.string ByteArray.empty]
 | .unit => some []
 | .pair a b => match zcells a, zcells b with
  | some c, some d => some (c ++ d)
  | _, _ => none
 | .list _ => some [.slice none 0 0]
 | .struct t => zcells t
 | .ptr _ => none
 | .clo .. => none
 | .map .. => none
 | .optr _ => none
def eqZ : Value → Value → Bool
 | .int j a, .int k b => decide (j = k) && decide (a = b)
 | .bool a, .bool b => a == b
 | .string a, .string b => a.data.toList.isEmpty && b.data.toList.isEmpty
 | .slice none 0 0, .slice none 0 0 => true
 | _, _ => false
def eqZs : List Value → List Value → Bool
 | [], [] => true
 | a :: l, b :: m => eqZ a b && eqZs l m
 | _, _ => false
def cellsAV : (t : Ty) → t.den → List AV
 | .int k, x => [.dat (.int k) x]
 | .bool, x => [.dat .bool x]
 | .str, x => [.dat .str x]
 | .unit, _ => []
 | .pair a b, x => cellsAV a x.1 ++ cellsAV b x.2
 | .list t, x => [.dat (.list t) x]
 | .struct t, x => cellsAV t x
 | .ptr t, x => [.dp t x]
 | .clo f c, x => [.dat (.clo f c) x]
 | .map k v, x => [.dat (.map k v) x]
 | .optr t, x => [.dat (.optr t) x]
def AV.settle : AV → AV
 | .test true p i => .dat .bool (@decide p i)
 | .test false p i => .dat .bool (!@decide p i)
 | v => v
def one? : List AV → Option AV
 | [a] => some a
 | _ => none
def datD (want : Ty) : AV → Option want.den
 | .dat s x => cast? s want x
 | _ => none
def boolD : AV → Option Bool
 | .dat s x => cast? s .bool x
 | .test true p i => some (@decide p i)
 | .test false p i => some (!@decide p i)
 | _ => none
def rowD (t : Ty) : Option Blk → Option (List t.den)
 | some (.flat _ s l) => cast? (.list s) (.list t) l
 | some (.frz _ s l) => cast? (.list s) (.list t) l
 | _ => none
def listOf (st : St) (t : Ty) : AV → Option (List t.den)
 | .dat s x => cast? s (.list t) x
 | .nil => some []
 | .dne _ => some []
 | .own b => rowD t (st.find b)
 | _ => none
def mapB (k v : Ty) : Option Blk → Option (List (k.den × v.den))
 | some (.mp k' v' m) => cast? (.map k' v') (.map k v) m
 | some (.fmp k' v' m) => cast? (.map k' v') (.map k v) m
 | _ => none
def mapOf (st : St) (k v : Ty) : AV → Option (List (k.den × v.den))
 | .dat s x => cast? s (.map k v) x
 | .om b => mapB k v (st.find b)
 | _ => none
def boxD (t : Ty) (i : Nat) (rec : List AV → Option t.den) : Option Blk → Option t.den
 | some (.cells cs) => match Nat.ble (i + t.size) cs.length with
  | true => rec ((cs.drop i).take t.size)
  | false => none
 | _ => none
def ptrD (st : St) (t : Ty) (rec : List AV → Option t.den) : AV → Option t.den
 | .dp s x => cast? s t x
 | .box b i => boxD t i rec (st.find b)
 | _ => none
def someO {α : Type} : Option α → Option (Option α)
 | some y => some (some y)
 | none => none
def optrD (st : St) (t : Ty) (rec : List AV → Option t.den) : AV → Option (Option t.den)
 | .pnil => some none
 | .dat s x => cast? s (.optr t) x
 | .box b i => someO (ptrD st t rec (.box b i))
 | .dp s y => someO (ptrD st t rec (.dp s y))
 | _ => none
def cloD (g : FuncId) (c : Ty) (rec : List AV → Option c.den) : AV → Option c.den
 | .clo f caps => match Nat.beq f g with
  | true => rec caps
  | false => none
 | .dat s x => cast? s (.clo g c) x
 | _ => none
def unitD : List AV → Option Unit
 | [] => some ()
 | _ => none
def cellsData (st : St) : (t : Ty) → List AV → Option t.den
 | .pair a b, cs =>
  match cellsData st a (cs.take a.size) with
  | some x => match cellsData st b (cs.drop a.size) with
   | some y => some (x, y)
   | none => none
  | none => none
 | .struct t, cs => cellsData st t cs
 | .unit, cs => unitD cs
 | .ptr t, cs => match one? cs with
  | some a => ptrD st t (cellsData st t) a
  | none => none
 | .clo g c, cs => match one? cs with
  | some a => cloD g c (cellsData st c) a
  | none => none
 | .list t, cs => match one? cs with
  | some a => listOf st t a
  | none => none
 | .int k, cs => match one? cs with
  | some a => datD (.int k) a
  | none => none
 | .bool, cs => match one? cs with
  | some a => boolD a
  | none => none
 | .str, cs => match one? cs with
  | some a => datD .str a
  | none => none
 | .map k v, cs => match one? cs with
  | some a => mapOf st k v a
  | none => none
 | .optr t, cs => match one? cs with
  | some a => optrD st t (cellsData st t) a
  | none => none
inductive D1 where
 | dat (t : Ty)
 | own (e : TypeId) (t : Ty)
 | cel (t : Ty)
def D1.den : D1 → Type
 | .dat t => t.den
 | .own _ t => List t.den
 | .cel t => t.den
def dens : List D1 → Type
 | [] => Unit
 | [d] => d.den
 | d :: d' :: ds => d.den × dens (d' :: ds)
def D1.isOwn : D1 → Bool
 | .own .. => true
 | .dat _ => false
 | .cel _ => true
def flatC (ps : List (Bool × List D1)) : List D1 := ps.flatMap (·.2)
def outsC (ps : List (Bool × List D1)) : List D1 := (flatC ps).filter (·.isOwn)
structure Does where
 ps : List (Bool × List D1)
 rs : List (Bool × List D1)
 fn : dens (flatC ps) → Option (dens (flatC rs ++ outsC ps))
def namesA : AV → List Nat
 | .own b => [b]
 | .om b => [b]
 | .box b _ => [b]
 | .ep b _ => [b]
 | .clo _ caps => namesL caps
 | .agg cs => namesL cs
 | .tup vs => namesL vs
 | _ => []
where namesL : List AV → List Nat
 | [] => []
 | v :: l => namesA v ++ namesL l
def celD (st : St) (t : Ty) : Option Blk → Option t.den
 | some (.cells cs) => match Nat.beq cs.length t.size, (namesA.namesL cs).isEmpty, Nat.blt 0 t.size with
  | true, true, true => cellsData st t cs
  | _, _, _ => none
 | _ => none
def read1 (st : St) : (d : D1) → AV → Option d.den
 | .dat t, v => cellsData st t [v]
 | .own e t, .own b =>
  match st.find b with
  | some (.flat e' s l) => match Nat.beq e' e with
   | true => cast? (.list s) (.list t) l
   | false => none
  | _ => none
 | .own _ _, .nil => some []
 | .own _ _, _ => none
 | .cel t, .box b 0 => celD st t (st.find b)
 | .cel _, _ => none
def readL (st : St) : (ds : List D1) → List AV → Option (dens ds)
 | [], vs => unitD vs
 | [d], vs => match one? vs with
  | some v => read1 st d v
  | none => none
 | d :: d' :: ds, vs => match vs with
  | [] => none
  | v :: vs => match read1 st d v with
   | some x => match readL st (d' :: ds) vs with
    | some y => some (x, y)
    | none => none
   | none => none
def aggOf : AV → Option (List AV)
 | .agg cs => some cs
 | _ => none
def isOne : AV → Bool
 | .agg _ => false
 | .tup _ => false
 | .undef => false
 | .gone => false
 | _ => true
def flatA : List (Bool × List D1) → List AV → Option (List AV)
 | [], [] => some []
 | [], _ :: _ => none
 | _ :: _, [] => none
 | (b, ds) :: ps, v :: vs =>
  match flatA ps vs with
  | none => none
  | some l => match b with
   | true => match aggOf v with
    | some cs => match Nat.beq cs.length ds.length with
     | true => some (cs ++ l)
     | false => none
    | none => none
   | false => match isOne v, Nat.beq ds.length 1 with
    | true, true => some (v :: l)
    | _, _ => none
def namesB : Option Blk → List Nat
 | some (.cells cs) => namesA.namesL cs
 | _ => []
def addN (l : List Nat) : List Nat → List Nat
 | [] => l
 | b :: bs => match l.any (Nat.beq b) with
  | true => addN l bs
  | false => addN (l ++ [b]) bs
def discover (st : St) : Nat → List Nat → List Nat
 | 0, l => l
 | n + 1, l => discover st n (addN l (l.flatMap fun b => namesB (st.find b)))
def frzN (st : St) : List Nat → Option St
 | [] => some st
 | b :: l => match st.find b with
  | some (.flat e t x) => frzN (st.lay b (.frz e t x)) l
  | some (.frz ..) => frzN st l
  | some (.mp k v m) => frzN (st.lay b (.fmp k v m)) l
  | some (.fmp ..) => frzN st l
  | _ => none
def frzIf (apart : Bool) (st : St) (rch : List Nat) : Option St :=
 match apart with
 | true => some st
 | false => frzN st rch
def ownIn : List D1 → List AV → List Nat
 | .own .. :: ds, .own b :: vs => b :: ownIn ds vs
 | .cel _ :: ds, .box b 0 :: vs => b :: ownIn ds vs
 | _ :: ds, _ :: vs => ownIn ds vs
 | _, _ => []
def datNames : List D1 → List AV → List Nat
 | .dat _ :: ds, v :: vs => namesA v ++ datNames ds vs
 | _ :: ds, _ :: vs => datNames ds vs
 | _, _ => []
def nodupN : List Nat → Bool
 | [] => true
 | b :: l => !(l.any (Nat.beq b)) && nodupN l
def sepK (st : St) (ds : List D1) (cells : List AV) : Option (List Nat) :=
 match discover st 3 (addN [] (datNames ds cells)) with
 | r => match (datNames ds cells).all (fun b => r.any (Nat.beq b)) && r.all (fun b => (namesB (st.find b)).all fun c => r.any (Nat.beq c)) && nodupN (ownIn ds cells) && r.all (fun b => !((ownIn ds cells).any (Nat.beq b))) with
  | true => some r
  | false => none
def plainTy : Ty → Bool
 | .int _ | .bool | .str | .unit => true
 | .pair a b => plainTy a && plainTy b
 | .struct t => plainTy t
 | _ => false
def D1.apart : D1 → Bool
 | .dat t => plainTy t
 | .own _ t => plainTy t
 | .cel t => plainTy t
def St.alloc (st : St) (b : Nat) (blk : Blk) : Option St :=
 match st.find b with
 | none => some (st.lay b (blk))
 | some _ => none
def place1 (st : St) (b : Nat) : (d : D1) → d.den → Option (AV × St)
 | .dat t, x => match cellsAV t x with
  | [v] => some (v, st)
  | _ => none
 | .own e t, l => match st.alloc b (.flat e t l) with
  | some st' => some (.own b, st')
  | none => none
 | .cel t, x => match st.alloc b (.cells (cellsAV t x)) with
  | some st' => some (.box b 0, st')
  | none => none
def placeL (st : St) (b : Nat) : (ds : List D1) → dens ds → Option (List AV × St)
 | [], _ => some ([], st)
 | [d], x => match place1 st b d x with
  | some (v, st) => some ([v], st)
  | none => none
 | d :: d' :: ds, x => match place1 st b d x.1 with
  | some (v, st) => match placeL st (b + 1) (d' :: ds) x.2 with
   | some (vs, st) => some (v :: vs, st)
   | none => none
  | none => none
def compsA : List (Bool × List D1) → List AV → Option (List AV)
 | [], [] => some []
 | (true, ds) :: rs, cs =>
  match compsA rs (cs.drop ds.length) with
  | some l => some (.agg (cs.take ds.length) :: l)
  | none => none
 | (false, [_]) :: rs, c :: cs =>
  match compsA rs cs with
  | some l => some (c :: l)
  | none => none
 | _, _ => none
def splitD : (ds es : List D1) → dens (ds ++ es) → dens ds × dens es
 | [], _, x => ((), x)
 | [d], [], x => (x, ())
 | [d], e :: es, x => (x.1, x.2)
 | d :: d' :: ds, es, x => let y := splitD (d' :: ds) es x.2; ((x.1, y.1), y.2)
def setOut1 (st : St) : (d : D1) → d.den → AV → Option St
 | .own e t, x, v => match v with
  | .own b => some (st.lay b (.flat e t x))
  | .nil => some st
  | _ => none
 | .cel t, x, v => match v with
  | .box b 0 => some (st.lay b (.cells (cellsAV t x)))
  | _ => none
 | .dat _, _, _ => none
def setOuts (st : St) : (ds : List D1) → dens ds → List AV → Option St
 | [], _, vs => match vs with
  | [] => some st
  | _ :: _ => none
 | [d], x, vs => match one? vs with
  | some v => setOut1 st d x v
  | none => none
 | d :: d' :: ds, x, vs => match vs with
  | [] => none
  | v :: vs => match setOut1 st d x.1 v with
   | some st => setOuts st (d' :: ds) x.2 vs
   | none => none
def ownCells : List D1 → List AV → List AV
 | .own .. :: ds, v :: vs => v :: ownCells ds vs
 | .cel _ :: ds, v :: vs => v :: ownCells ds vs
 | _ :: ds, _ :: vs => ownCells ds vs
 | _, _ => []
inductive LvK where
 | nil (e : TypeId) (t : Ty)
 | data (t : Ty)
 | cell (j : Nat) (e : TypeId) (t : Ty)
 | que
structure En where
 tb : TypeId → Option TI
 orc : FuncId → List Does
 lv : Nat → List (Nat × List LvK)
 K : Nat
 pin : Nat
 dr : Nat → List (Nat × List LvK)
 fz : List Nat
section
variable (E : En) {R : Type}
def St.put (st : St) (dst : Option Tmp) (v : AV) (k : St → Option R) : Option R :=
 match dst with
 | none => k st
 | some d => match Nat.blt d st.n with
  | true => k (st.set d v)
  | false => none
def constAV : Value → AV
 | .int k n => .dat (.int k) n
 | .bool b => .dat .bool b
 | .string s => .dat .str s
 | .slice none 0 0 => .nil
 | .pointer none => .pnil
 | _ => .undef
def St.ev (st : St) : Operand → AV
 | .tmp t => st.get t
 | .const (.agg cs) => .agg (cs.toList.map constAV)
 | .const v => constAV v
 | .func f => match Nat.ble bfst f with
  | true => .undef
  | false => .clo f []
 | .global _ => .undef
def funF (f : Nat) : Nat := match Nat.ble bfst f with
 | true => f - bfst
 | false => f
def argsF (f : Nat) (args caps : List AV) : List AV := match Nat.ble bfst f with
 | true => .agg caps :: args
 | false => args ++ caps
theorem funF_high {f : Nat} (h : Nat.ble bfst f = true) : funF f = f - bfst := by unfold funF; rw [h]
theorem funF_low {f : Nat} (h : Nat.ble bfst f = false) : funF f = f := by unfold funF; rw [h]
theorem argsF_high {f : Nat} {args caps : List AV} (h : Nat.ble bfst f = true) : argsF f args caps = .agg caps :: args := by unfold argsF; rw [h]
theorem argsF_low {f : Nat} {args caps : List AV} (h : Nat.ble bfst f = false) : argsF f args caps = args ++ caps := by unfold argsF; rw [h]
def forkB1 (b : Bool) (k : Bool → Option R) : Option R := if b = true then k true else k false
def forkB (v : AV) (k : Bool → Option R) : Option R :=
 match v with
 | .dat .bool b => forkB1 b k
 | .test true p i => @ite _ p i (k true) (k false)
 | .test false p i => @ite _ p i (k false) (k true)
 | _ => none
def pickOf (t : Bool) (a b : Operand) : Operand :=
 match t with
 | true => a
 | false => b
def tyOf (tb : TypeId → Option TI) : Nat → TypeId → Option Ty
 | 0, _ => none
 | n + 1, t => match tb t with
  | some i => match i.tk with
   | .int k => some (.int k)
   | .bool => some .bool
   | .str => some .str
   | .slice e => match tyOf tb n e with
    | some s => some (.list s)
    | none => none
   | .ptr e => match tyOf tb n e with
    | some s => some (.ptr s)
    | none => none
   | .map k e => match tyOf tb n k, tyOf tb n e with
    | some a, some b => some (.map a b)
    | _, _ => none
   | .struct _ fs => match parts (fs.map fun f => tyOf tb n f.2) with
    | some s => some (.struct s)
    | none => none
   | _ => none
  | none => none
where parts : List (Option Ty) → Option Ty
 | [] => some .unit
 | [a] => a
 | some a :: l => match parts l with
  | some b => some (.pair a b)
  | none => none
 | none :: _ => none
def partD (want : Ty) : (t : Ty) → t.den → Nat → Option want.den
 | .struct t, x, o => match Nat.beq o 0, cast? (.struct t) want x with
  | true, some y => some y
  | _, _ => partD want t x o
 | .pair a b, x, o => match Nat.blt o a.size with
  | true => partD want a x.1 o
  | false => partD want b x.2 (o - a.size)
 | t, x, o => match Nat.beq o 0 with
  | true => cast? t want x
  | false => none
def loadC (st : St) (size : Nat) : AV → Option (List AV)
 | .box b i => match st.find b with
  | some (.cells cs) => match Nat.ble (i + size) cs.length with
   | true => some ((cs.drop i).take size)
   | false => none
  | _ => none
 | .ep b i => match st.find b with
  | some (.flat _ t l) => match Nat.beq t.size size with
   | true => some (cellsAV t (List.getD l i (dflt t)))
   | false => none
  | some (.frz _ t l) => match Nat.beq t.size size with
   | true => some (cellsAV t (List.getD l i (dflt t)))
   | false => none
  | some (.que _ t l) => match Nat.beq t.size size with
   | true => some (cellsAV t (List.getD l i (dflt t)))
   | false => none
  | _ => none
 | .dp t x => match Nat.beq t.size size with
  | true => some (cellsAV t x)
  | false => none
 | _ => none
def valOf (i : TI) (cs : List AV) : Option AV :=
 match i.tk with
 | .struct .. => some (.agg cs)
 | .other => none
 | _ => match cs with
  | [v] => some v
  | _ => none
def cellsOf : AV → Option (List AV)
 | .agg cs => some cs
 | .tup _ => none
 | .undef => none
 | .gone => none
 | v => some [v]
def AV.flat0 : AV → Bool
 | .clo .. => false
 | .agg _ => false
 | .tup _ => false
 | .gone => false
 | _ => true
def AV.known : AV → Bool
 | .undef => false
 | .gone => false
 | _ => true
def setRange (cs : List AV) (i : Nat) (vs : List AV) : List AV := cs.take i ++ vs ++ cs.drop (i + vs.length)
def storeC (st : St) (vs : List AV) (k : St → Option R) : AV → Option R
 | .box b i => match st.find b with
  | some (.cells cs) => match Nat.ble (i + vs.length) cs.length with
   | true => k (st.lay b (.cells (setRange cs i vs)))
   | false => none
  | _ => none
 | .ep b i => match frzN st (namesA.namesL vs) with
  | none => none
  | some st => match st.find b with
   | some (.flat e t l) => match Nat.beq t.size vs.length with
    | true => match cellsData st t vs with
     | some x => k (st.lay b (.flat e t (List.set l i x)))
     | none => none
    | false => none
   | _ => none
 | _ => none
def fillA (fs : List (Nat × TypeId)) (tb : TypeId → Option TI) (cells : List AV) : List (Nat × AV) → Option (List AV)
 | [] => some cells
 | (j, v) :: l => match fs[j]? with
  | some (o, t) => match tb t with
   | some i => match cellsOf v with
    | some vs => match Nat.beq vs.length i.size, Nat.ble (o + vs.length) cells.length with
     | true, true => fillA fs tb (setRange cells o (vs.map AV.settle)) l
     | _, _ => none
    | none => none
   | none => none
  | none => none
def elemsD (st : St) (t : Ty) : Nat → List (Nat × AV) → Option (List t.den)
 | _, [] => some []
 | n, (j, v) :: l => match Nat.beq j n with
  | true => match cellsOf v with
   | some cs => match cellsData st t cs with
    | some x => match elemsD st t (n + 1) l with
     | some xs => some (x :: xs)
     | none => none
    | none => none
   | none => none
  | false => none
def lenOfM (st : St) : AV → Option Nat
 | .dat (.map _ _) l => some (List.length l)
 | .om b => match st.find b with
  | some (.mp _ _ l) => some (List.length l)
  | some (.fmp _ _ l) => some (List.length l)
  | _ => none
 | _ => none
def lenOfA (st : St) : AV → Option Nat
 | .dat (.list _) l => some (List.length l)
 | .nil => some 0
 | .dne _ => some 0
 | .own b => match st.find b with
  | some (.flat _ _ l) => some (List.length l)
  | some (.frz _ _ l) => some (List.length l)
  | some (.que _ _ l) => some (List.length l)
  | _ => none
 | _ => none
def isCmp : BinOp → Bool
 | .eql | .neq | .lss | .leq | .gtr | .geq => true
 | _ => false
def wrapV : IntKind → Int → Int
 | .i64, n => wrap64 n
 | k, n => k.wrap n
noncomputable def andV (j : IntKind) (a b : Int) : Int := Classical.choose (⟨wrapV j ((BitVec.ofInt j.bits a &&& BitVec.ofInt j.bits b).toNat), rfl⟩ : ∃ x, x = wrapV j ((BitVec.ofInt j.bits a &&& BitVec.ofInt j.bits b).toNat))
theorem andV_eq (j : IntKind) (a b : Int) : andV j a b = wrapV j ((BitVec.ofInt j.bits a &&& BitVec.ofInt j.bits b).toNat) := Classical.choose_spec (⟨wrapV j ((BitVec.ofInt j.bits a &&& BitVec.ofInt j.bits b).toNat), rfl⟩ : ∃ x, x = wrapV j ((BitVec.ofInt j.bits a &&& BitVec.ofInt j.bits b).toNat))
noncomputable def orV (j : IntKind) (a b : Int) : Int := Classical.choose (⟨wrapV j ((BitVec.ofInt j.bits a ||| BitVec.ofInt j.bits b).toNat), rfl⟩ : ∃ x, x = wrapV j ((BitVec.ofInt j.bits a ||| BitVec.ofInt j.bits b).toNat))
theorem orV_eq (j : IntKind) (a b : Int) : orV j a b = wrapV j ((BitVec.ofInt j.bits a ||| BitVec.ofInt j.bits b).toNat) := Classical.choose_spec (⟨wrapV j ((BitVec.ofInt j.bits a ||| BitVec.ofInt j.bits b).toNat), rfl⟩ : ∃ x, x = wrapV j ((BitVec.ofInt j.bits a ||| BitVec.ofInt j.bits b).toNat))
noncomputable def xorV (j : IntKind) (a b : Int) : Int := Classical.choose (⟨wrapV j ((BitVec.ofInt j.bits a ^^^ BitVec.ofInt j.bits b).toNat), rfl⟩ : ∃ x, x = wrapV j ((BitVec.ofInt j.bits a ^^^ BitVec.ofInt j.bits b).toNat))
theorem xorV_eq (j : IntKind) (a b : Int) : xorV j a b = wrapV j ((BitVec.ofInt j.bits a ^^^ BitVec.ofInt j.bits b).toNat) := Classical.choose_spec (⟨wrapV j ((BitVec.ofInt j.bits a ^^^ BitVec.ofInt j.bits b).toNat), rfl⟩ : ∃ x, x = wrapV j ((BitVec.ofInt j.bits a ^^^ BitVec.ofInt j.bits b).toNat))
noncomputable def andNotV (j : IntKind) (a b : Int) : Int := Classical.choose (⟨wrapV j ((BitVec.ofInt j.bits a &&& ~~~ BitVec.ofInt j.bits b).toNat), rfl⟩ : ∃ x, x = wrapV j ((BitVec.ofInt j.bits a &&& ~~~ BitVec.ofInt j.bits b).toNat))
theorem andNotV_eq (j : IntKind) (a b : Int) : andNotV j a b = wrapV j ((BitVec.ofInt j.bits a &&& ~~~ BitVec.ofInt j.bits b).toNat) := Classical.choose_spec (⟨wrapV j ((BitVec.ofInt j.bits a &&& ~~~ BitVec.ofInt j.bits b).toNat), rfl⟩ : ∃ x, x = wrapV j ((BitVec.ofInt j.bits a &&& ~~~ BitVec.ofInt j.bits b).toNat))
noncomputable section
def intK (op : BinOp) (j : IntKind) (a b : Int) (k : AV → Option R) : Option R :=
 match op with
 | .add => k (.dat (.int j) (wrapV j (a + b)))
 | .sub => k (.dat (.int j) (wrapV j (a - b)))
 | .mul => k (.dat (.int j) (wrapV j (a * b)))
 | .quo => if b = 0 then none else k (.dat (.int j) (wrapV j (a.tdiv b)))
 | .rem => if b = 0 then none else k (.dat (.int j) (a.tmod b))
 | .eql => k (.test true (a = b) inferInstance)
 | .neq => k (.test false (a = b) inferInstance)
 | .lss => k (.test true (a < b) inferInstance)
 | .leq => k (.test true (a ≤ b) inferInstance)
 | .gtr => k (.test true (b < a) inferInstance)
 | .geq => k (.test true (b ≤ a) inferInstance)
 | .and => k (.dat (.int j) (andV j a b))
 | .or => k (.dat (.int j) (orV j a b))
 | .xor => k (.dat (.int j) (xorV j a b))
 | .andNot => k (.dat (.int j) (andNotV j a b))
 | _ => none
noncomputable def shlV (j : IntKind) (a b : Int) : Int := Classical.choose (⟨wrapV j (a * 2 ^ min b.toNat j.bits), rfl⟩ : ∃ x, x = wrapV j (a * 2 ^ min b.toNat j.bits))
noncomputable def shrV (j : IntKind) (a b : Int) : Int := Classical.choose (⟨a.fdiv (2 ^ min b.toNat j.bits), rfl⟩ : ∃ x, x = a.fdiv (2 ^ min b.toNat j.bits))
theorem shlV_eq (j : IntKind) (a b : Int) : shlV j a b = wrapV j (a * 2 ^ min b.toNat j.bits) := Classical.choose_spec (⟨wrapV j (a * 2 ^ min b.toNat j.bits), rfl⟩ : ∃ x, x = wrapV j (a * 2 ^ min b.toNat j.bits))
theorem shrV_eq (j : IntKind) (a b : Int) : shrV j a b = a.fdiv (2 ^ min b.toNat j.bits) := Classical.choose_spec (⟨a.fdiv (2 ^ min b.toNat j.bits), rfl⟩ : ∃ x, x = a.fdiv (2 ^ min b.toNat j.bits))
def shiftK (op : BinOp) (j : IntKind) (a b : Int) (k : AV → Option R) : Option R :=
 if b < 0 then none else
 match op with
 | .shl => k (.dat (.int j) (shlV j a b))
 | .shr => k (.dat (.int j) (shrV j a b))
 | _ => none
def boolK (op : BinOp) (a b : Bool) (k : AV → Option R) : Option R :=
 match op with
 | .eql => k (.test true (a = b) inferInstance)
 | .neq => k (.test false (a = b) inferInstance)
 | _ => none
inductive BT where
 | bool
 | slice
 | other
def binT : Option TI → BT
 | some ⟨.bool, _, _, _⟩ => .bool
 | some ⟨.slice _, _, _, _⟩ => .slice
 | _ => .other
def boolT (q : BT) (op : BinOp) (a b : Bool) (k : AV → Option R) : Option R :=
 match q with
 | .bool => boolK op a b k
 | _ => none
def strK (op : BinOp) (a b : ByteArray) (k : AV → Option R) : Option R :=
 match op with
 | .eql => k (.test true (a = b) inferInstance)
 | .neq => k (.test false (a = b) inferInstance)
 | .add => if a.size + b.size ≤ 9223372036854775807 then k (.dat .str (a ++ b)) else none
 | _ => none
def nilK (q : BT) (op : BinOp) (b : Bool) (k : AV → Option R) : Option R :=
 match q, op with
 | .slice, .eql => k (.dat .bool b)
 | .slice, .neq => k (.dat .bool (!b))
 | _, _ => none
def nil0K (n : Nat) (k : Option R) : Option R := if n = 0 then none else k
def isShift : BinOp → Bool
 | .shl | .shr => true
 | _ => false
def eqI (a b : Int) : Bool := decide (a = b)
def eqParts (tb : TypeId → Option TI) : List (Nat × TypeId) → Nat → List AV → List AV → Option Bool
 | [], _, [], [] => some true
 | (o, t) :: fs, n, .dat (.int j) a :: xs, .dat (.int j') b :: ys => match tb t, Nat.beq o n, decide (j = j') with
  | some ⟨.int j2, 1, _, _⟩, true, true => match eqParts tb fs (n + 1) xs ys with
   | some r => some (eqI a b && r)
   | none => none
  | _, _, _ => none
 | _, _, _, _ => none
def structQ (tb : TypeId → Option TI) (t : TypeId) : AV → AV → Option Bool
 | .agg xs, .agg ys => match tb t with
  | some ⟨.struct true fs, _, _, _⟩ => eqParts tb fs 0 xs ys
  | _ => none
 | _, _ => none
def eqlK (op : BinOp) (b : Bool) (k : AV → Option R) : Option R :=
 match op with
 | .eql => k (.dat .bool b)
 | .neq => k (.dat .bool (!b))
 | _ => none
def binK (q : BT) (op : BinOp) (x y : AV) (k : AV → Option R) : Option R :=
 match x, y with
 | .dat (.int j) a, .dat (.int j') b =>
  match isShift op, decide (j = j') with
  | true, _ => shiftK op j a b k
  | false, true => intK op j a b k
  | false, false => none
 | .dat .bool a, .dat .bool b => boolT q op a b k
 | .dat .str a, .dat .str b => strK op a b k
 | .dat (.list _) l, .nil => nil0K (List.length l) (nilK q op false k)
 | .nil, .nil => nilK q op true k
 | .dne _, .nil => nilK q op false k
 | _, _ => none
def bin2K (tb : TypeId → Option TI) (t : TypeId) (op : BinOp) (x y : AV) (k : AV → Option R) : Option R :=
 match structQ tb t x y with
 | some b => eqlK op b k
 | none => binK (binT (tb t)) op x y k
def notA : AV → Option AV
 | .dat .bool b => some (.test false ((b : Bool) = true) (instDecidableEqBool b true))
 | .test true p i => some (.test false p i)
 | .test false p i => some (.test true p i)
 | _ => none
def negA : AV → Option AV
 | .dat (.int j) a => some (.dat (.int j) (wrapV j (Int.sub 0 a)))
 | _ => none
def unA (op : UnOp) (x : AV) : Option AV :=
 match op with
 | .neg => negA x
 | .not => notA x
 | _ => none
def idxK (i : Int) (n : Nat) (k : Option R) : Option R := if 0 ≤ i then if i < (n : Int) then k else none else none
def cutK (a b : Int) (n : Nat) (k : Option R) : Option R := if 0 ≤ a then if a ≤ b then if b ≤ (n : Int) then k else none else none else none
def makeK (n m : Int) (k : Option R) : Option R := if 0 ≤ n then if n ≤ m then if m.toNat ≤ 1099511627776 then k else none else none else none
def roomK (n : Nat) (k : Option R) : Option R := if n ≤ 1099511627776 then k else none
def callK (nm : Nat) (S : Does) (cells : List AV) (st : St) (dst : Option Tmp) (x : dens (flatC S.ps)) (k : St → Option R) : Option R :=
 match sepK st (flatC S.ps) cells with
 | none => none
 | some rch => (S.fn x).bind fun r =>
  match frzIf ((flatC S.rs ++ outsC S.ps).all (·.apart)) st rch with
  | none => none
  | some st => match setOuts st (outsC S.ps) (splitD (flatC S.rs) (outsC S.ps) r).2 (ownCells (flatC S.ps) cells) with
   | none => none
   | some st => match placeL st nm (flatC S.rs) (splitD (flatC S.rs) (outsC S.ps) r).1 with
    | none => none
    | some (cs, st) => match compsA S.rs cs with
     | some [v] => st.put dst v k
     | some vs => st.put dst (.tup vs) k
     | none => none
def callAny (nm : Nat) (st : St) (dst : Option Tmp) (args : List AV) (k : St → Option R) : List Does → Option R
 | [] => none
 | S :: l => match flatA S.ps args with
  | some cells => match readL st (flatC S.ps) cells with
   | some x => callK nm S cells st dst x k
   | none => callAny nm st dst args k l
  | none => callAny nm st dst args k l
def nameOf (dst : Option Tmp) : Nat :=
 match dst with
 | some d => d * 64 + 64
 | none => 0
def killer (b : Nat) : Nat → Option Nat := fun c => match Nat.beq c b with
 | true => none
 | false => some c
def St.killed (st : St) (b : Nat) : St :=
 {st with
  get := fun t => (st.get t).ren (killer b)
  find := fun c => (st.find c).map (Blk.ren (killer b)) }
def boxK (st : St) (dst : Option Tmp) (cs : List AV) (k : St → Option R) : Option R :=
 match Nat.blt 0 cs.length, st.alloc (nameOf dst) (.cells cs) with
 | true, some st => st.put dst (.box (nameOf dst) 0) k
 | _, _ => none
def rowK (st : St) (dst : Option Tmp) (e : TypeId) (t : Ty) (l : List t.den) (k : St → Option R) : Option R :=
 match st.alloc (nameOf dst) (.flat e t l) with
 | some st => st.put dst (.own (nameOf dst)) k
 | none => none
def appendK (dst : Option Tmp) (ts : TypeId) (st : St) (s x : AV) (k : St → Option R) : Option R :=
 match E.tb ts with
 | some ⟨.slice e, _, _, _⟩ => match E.tb e with
  | none => none
  | some i => match tyOf E.tb 8 e with
   | none => none
   | some t => match Nat.beq i.size t.size, Nat.blt 0 i.size, Nat.ble i.bytes 64, Nat.beq i.zero.length i.size with
    | true, true, true, true => match listOf st t x with
     | none => none
     | some m => match s with
      | .own b => match st.find b with
       | some (.flat e' t' l) => match Nat.ble E.pin b && Nat.beq e' e, cast? (.list t') (.list t) l with
        | true, some l => roomK (List.length l + List.length m)
          ((((st.killed b).lay b (.flat e t (List.append l m)))).put dst (.own b) k)
        | _, _ => none
       | some (.que e' t' l) => match Nat.ble E.pin b && Nat.beq e' e, cast? (.list t') (.list t) l with
        | true, some l => roomK (List.length l + List.length m)
          ((((st.killed b).lay b (.que e t (List.append l m)))).put dst (.own b) k)
        | _, _ => none
       | _ => none
      | .nil => roomK (List.length m) (rowK st dst e t m k)
      | _ => none
    | _, _, _, _ => none
 | _ => none
def queB (st : St) : AV → Option Nat
 | .own b => match st.find b with
  | some (.que ..) => some b
  | _ => none
 | _ => none
def queK (dst : Option Tmp) (e : TypeId) (t : Ty) (st : St) (b : Nat) (lo : Option Int) (hi : Option Operand) (k : St → Option R) : Option R :=
 match st.find b, lo, hi with
 | some (.que e' t' l), some a, none => match Nat.ble E.pin b && Nat.beq e' e, cast? (.list t') (.list t) l with
  | true, some l => cutK a ((List.length l : Nat) : Int) (List.length l)
    ((((st.killed b).lay b (.que e t (List.drop (Int.toNat a) l)))).put dst (.own b) k)
  | _, _ => none
 | _, _, _ => none
def keyTy : Ty → Bool
 | .int _ => true
 | .str => true
 | _ => false
def oneTy : Ty → Bool
 | .int _ => true
 | .bool => true
 | .str => true
 | _ => false
def keyI (a b : Int) : Bool := decide (a = b)
def keyS (a b : ByteArray) : Bool := a == b
def keyEq : (k : Ty) → k.den → k.den → Bool
 | .int _, a, b => keyI a b
 | .str, a, b => keyS a b
 | _, _, _ => false
def mget (k : Ty) {α : Type} : List (k.den × α) → k.den → Option α
 | [], _ => none
 | (a, x) :: l, b => match keyEq k b a with
  | true => some x
  | false => mget k l b
def mput (k : Ty) {α : Type} : List (k.den × α) → k.den → α → List (k.den × α)
 | [], b, y => [(b, y)]
 | (a, x) :: l, b, y => match keyEq k b a with
  | true => (b, y) :: l
  | false => (a, x) :: mput k l b y
def mapTys (tb : TypeId → Option TI) (t : TypeId) : Option (Ty × Ty) :=
 match tb t with
 | some ⟨.map k e, _, _, _⟩ => match tyOf tb 8 k, tyOf tb 8 e with
  | some kt, some vt => match keyTy kt, oneTy vt, tb k, tb e with
   | true, true, some _, some i => match zcells vt with
    | some z => match eqZs z i.zero with
     | true => some (kt, vt)
     | false => none
    | none => none
   | _, _, _, _ => none
  | _, _ => none
 | _ => none
def mapK (st : St) (dst : Option Tmp) (kt vt : Ty) (k : St → Option R) : Option R :=
 match st.alloc (nameOf dst) (.mp kt vt []) with
 | some st => st.put dst (.om (nameOf dst)) k
 | none => none
def hintOK (st : St) : Option Operand → Bool
 | none => true
 | some x => match st.ev x with
  | .dat (.int _) _ => true
  | _ => false
def mputK (dst : Option Tmp) (kt vt : Ty) (st : St) (key : kt.den) (x : vt.den) (k : St → Option R) : AV → Option R
 | .om b => match st.find b with
  | some (.mp kt' vt' m) => match cast? (.map kt' vt') (.map kt vt) m with
   | some m => (st.lay b (.mp kt vt (mput kt m key x))).put dst .undef k
   | none => none
  | _ => none
 | _ => none
def maxV (a b : Int) : Int := if a < b then b else a
def minV (a b : Int) : Int := if b < a then b else a
def mmV (mx : Bool) (a b : Int) : Int :=
 match mx with
 | true => maxV a b
 | false => minV a b
def maxA (mx : Bool) : AV → AV → Option AV
 | .dat (.int j) a, .dat (.int j') b => match decide (j = j') with
  | true => some (.dat (.int j) (mmV mx a b))
  | false => none
 | _, _ => none
def boundA (st : St) (d : Int) : Option Operand → Option Int
 | none => some d
 | some x => match st.ev x with
  | .dat (.int .i64) n => some n
  | _ => none
def isDatV : AV → Bool
 | .dat .. => true
 | _ => false
def bareM (o : Oper) : Bool :=
 match o.dst with
 | some d => E.fz.any (Nat.beq (1610612736 + d))
 | none => false
def bareK (o : Oper) (v : AV) : Bool :=
 match bareM E o with
 | true => isDatV v
 | false => true
def fzK (dst : Option Tmp) (k : St → Option R) (st : St) : Option R :=
 match dst with
 | none => k st
 | some d => match E.fz.any (Nat.beq d) with
  | false => k st
  | true => match frzN st (namesA (st.get d)) with
   | some st => k st
   | none => none
def sureK : List AV → (List AV → Option R) → Option R
 | [], k => k []
 | v :: l, k => match v with
  | .dat (.optr t) x => Option.bind x fun y => sureK l fun l => k (.dp t y :: l)
  | v => sureK l fun l => k (v :: l)
def lookA1 (vt : Ty) (r : Option vt.den) (ok : Bool) : AV :=
 match ok with
 | true => .tup [.dat vt (r.getD (dflt vt)), .dat .bool r.isSome]
 | false => .dat vt (r.getD (dflt vt))
def opK (o : Oper) (st : St) (k : St → Option R) : Option R :=
  match o.op with
  | .move x => st.put o.dst (st.ev x) k
  | .assign x => st.put o.dst (st.ev x).settle k
  | .pick c a b => forkB (st.ev c) fun t => st.put o.dst (st.ev (pickOf t a b)) k
  | .box _ x => match cellsOf (st.ev x) with
    | some cs => boxK st o.dst (cs.map AV.settle) k
    | none => none
  | .alloc e => match E.tb e with
    | some i => boxK st o.dst (i.zero.map constAV) k
    | none => none
  | .build t parts => match E.tb t with
    | some i => match i.tk with
      | .struct _ fs => match fs.all (fun f => (E.tb f.2).isSome) with
        | true => match fillA fs E.tb (i.zero.map constAV) (parts.toList.map fun p => (p.1, st.ev p.2)) with
          | some cs => st.put o.dst (.agg cs) k
          | none => none
        | false => none
      | _ => none
    | none => none
  | .buildSlice t len parts => match E.tb t with
    | some ⟨.slice e, _, _, _⟩ => match E.tb e with
      | some i => match tyOf E.tb 8 e with
        | some s => match Nat.beq i.size s.size, Nat.beq parts.size len, Nat.ble (len * i.size) 16777216, Nat.blt 0 i.size with
          | true, true, true, true => match frzN st (namesA.namesL (parts.toList.map fun p => st.ev p.2)) with
            | some st => match elemsD st s 0 (parts.toList.map fun p => (p.1, st.ev p.2)) with
              | some l => rowK st o.dst e s l k
              | none => none
            | none => none
          | _, _, _, _ => none
        | none => none
      | none => none
    | _ => none
  | .load t p => match E.tb t with
    | some i => match loadC st i.size (st.ev p) with
      | some cs => match valOf i cs with
        | some v => st.put o.dst v k
        | none => none
      | none => none
    | none => none
  | .store t p x => match E.tb t with
    | some i => match cellsOf (st.ev x) with
      | some vs => match Nat.beq vs.length i.size with
        | true => match vs.all AV.known with
          | true => storeC st (vs.map AV.settle) (fun st => st.put o.dst .undef k) (st.ev p)
          | false => none
        | false => none
      | none => none
    | none => none
  | .nilCheck x => match st.ev x with
    | .box b i => st.put o.dst (.box b i) k
    | .ep b i => st.put o.dst (.ep b i) k
    | .dp t x => st.put o.dst (.dp t x) k
    | .dat (.optr t) x => Option.bind x fun y => st.put o.dst (.dp t y) k
    | _ => none
  | .binOp op t x y _ => bin2K E.tb t op (st.ev x).settle (st.ev y).settle fun v => st.put o.dst v k
  | .unOp op _ x => match unA op (st.ev x) with
    | some v => st.put o.dst v k
    | none => none
  | .convert src dst x => match st.ev x with
    | .dat (.int _) n => match E.tb src with
      | some ⟨.int _, _, _, _⟩ => match E.tb dst with
        | some ⟨.int j, _, _, _⟩ => st.put o.dst (.dat (.int j) (wrapV j n)) k
        | _ => none
      | _ => none
    | _ => none
  | .makeSlice t l c => match E.tb t with
    | some ⟨.slice e, _, _, _⟩ => match E.tb e with
      | some i => match tyOf E.tb 8 e with
        | some s => match zcells s with
          | some z => match eqZs z i.zero, Nat.beq i.size s.size, Nat.ble i.bytes 64, Nat.blt 0 i.size with
            | true, true, true, true => match st.ev l, st.ev c with
              | .dat (.int .i64) n, .dat (.int .i64) m =>
                makeK n m (rowK st o.dst e s (List.replicate (Int.toNat n) (dflt s)) k)
              | _, _ => none
            | _, _, _, _ => none
          | none => none
        | none => none
      | none => none
    | _ => none
  | .slice t x lo hi none => match bareK E o (st.ev x) with
   | false => none
   | true => match E.tb t with
    | some ⟨.slice e, _, _, _⟩ => match tyOf E.tb 8 e with
      | some s => match E.tb e with
        | none => none
        | some i => match Nat.beq i.size s.size with
          | false => none
          | true => match queB st (st.ev x) with
           | some b => queK E o.dst e s st b (boundA st (0 : Int) lo) hi k
           | none => match frzN st (namesA (st.ev x)) with
            | none => none
            | some st => match listOf st s (st.ev x) with
              | none => none
              | some l => match boundA st (0 : Int) lo with
                | none => none
                | some a => match boundA st ((List.length l : Nat) : Int) hi with
                  | none => none
                  | some b => cutK a b (List.length l) (st.put o.dst (.dat (.list s) (List.drop (Int.toNat a) (List.take (Int.toNat b) l))) k)
      | none => none
    | _ => none
  | .fieldAddr t p f => match E.tb t with
    | some ⟨.struct _ fs, _, _, _⟩ => match fs[f]? with
      | some (off, ft) => match E.tb ft with
        | none => none
        | some i => match Nat.blt 0 i.size with
          | false => none
          | true => match st.ev p with
            | .box b j => match st.find b with
              | some (.cells cs) => match Nat.blt (j + off) cs.length with
                | true => st.put o.dst (.box b (j + off)) k
                | false => none
              | _ => none
            | .dp s x => match tyOf E.tb 8 ft with
              | some want => match partD want s x off with
                | some y => st.put o.dst (.dp want y) k
                | none => none
              | none => none
            | _ => none
      | none => none
    | _ => none
  | .field t x f => match E.tb t with
    | some ⟨.struct _ fs, _, _, _⟩ => match fs[f]? with
      | some (off, ft) => match E.tb ft, st.ev x with
        | some i, .agg cs => match Nat.ble (off + i.size) cs.length with
          | true => match valOf i ((cs.drop off).take i.size) with
            | some v => st.put o.dst v k
            | none => none
          | false => none
        | _, _ => none
      | none => none
    | _ => none
  | .indexAddr t x ix => match E.tb t with
    | some ⟨.slice e, _, _, _⟩ => match E.tb e with
      | none => none
      | some te => match st.ev ix with
        | .dat (.int _) i => match st.ev x with
          | .dat (.list s) l => match Nat.beq te.size s.size with
            | true => idxK i (List.length l) (st.put o.dst (.dp s (List.getD l (Int.toNat i) (dflt s))) k)
            | false => none
          | .own b => match st.find b with
            | some (.flat _ s l) => match Nat.beq te.size s.size with
              | true => idxK i (List.length l) (st.put o.dst (.ep b (Int.toNat i)) k)
              | false => none
            | some (.frz _ s l) => match Nat.beq te.size s.size with
              | true => idxK i (List.length l) (st.put o.dst (.ep b (Int.toNat i)) k)
              | false => none
            | some (.que _ s l) => match Nat.beq te.size s.size with
              | true => idxK i (List.length l) (st.put o.dst (.ep b (Int.toNat i)) k)
              | false => none
            | _ => none
          | _ => none
        | _ => none
    | _ => none
  | .makeMap t r => match mapTys E.tb t, hintOK st r with
    | some (kt, vt), true => mapK st o.dst kt vt k
    | _, _ => none
  | .lookup t m ix ok => match mapTys E.tb t with
    | some (kt, vt) => match mapOf st kt vt (st.ev m), datD kt (st.ev ix) with
      | some l, some key => st.put o.dst (lookA1 vt (mget kt l key) ok) k
      | _, _ => none
    | none => none
  | .mapUpdate t m ix x => match mapTys E.tb t with
    | some (kt, vt) => match datD kt (st.ev ix), datD vt (st.ev x).settle with
      | some key, some y => mputK o.dst kt vt st key y k (st.ev m)
      | _, _ => none
    | none => none
  | .insert t m ix x => match mapTys E.tb t with
    | some (kt, vt) => match datD kt (st.ev ix), datD vt (st.ev x).settle with
      | some key, some y => mputK o.dst kt vt st key y k (st.ev m)
      | _, _ => none
    | none => none
  | .extract x i => match st.ev x with
    | .tup vs => match vs[i]? with
      | some v => st.put o.dst v k
      | none => none
    | _ => none
  | .makeFunc (.func f) first captured => match first.size with
    | 0 => match Nat.ble bfst f with
      | true => none
      | false => match (captured.toList.map st.ev).all AV.flat0 with
        | true => st.put o.dst (.clo f (captured.toList.map st.ev)) k
        | false => none
    | _ => match first.toList.map st.ev, captured.size with
      | [.agg cs], 0 => match cs.all AV.flat0 with
        | true => st.put o.dst (.clo (f + bfst) cs) k
        | false => none
      | _, _ => none
  | .call c => match c.callee with
    | .builtin .len => match c.args.toList, c.argTypes.toList with
      | [x], [t] => match E.tb t with
          | some ⟨.slice _, _, _, _⟩ => match lenOfA st (st.ev x) with
            | some n => st.put o.dst (.dat (.int .i64) ((n : Nat) : Int)) k
            | none => none
          | some ⟨.map .., _, _, _⟩ => match lenOfM st (st.ev x) with
            | some n => st.put o.dst (.dat (.int .i64) ((n : Nat) : Int)) k
            | none => none
          | _ => none
      | _, _ => none
    | .builtin .max => match c.args.toList with
      | [x, y] => match maxA true (st.ev x) (st.ev y) with
        | some v => st.put o.dst v k
        | none => none
      | _ => none
    | .builtin .min => match c.args.toList with
      | [x, y] => match maxA false (st.ev x) (st.ev y) with
        | some v => st.put o.dst v k
        | none => none
      | _ => none
    | .builtin .append => match c.args.toList, c.argTypes.toList with
      | [s, x], [t, t'] => match Nat.beq t' t with
        | true => appendK E o.dst t st (st.ev s) (st.ev x) k
        | false => none
      | _, _ => none
    | .value f => match st.ev f with
      | .clo f caps => sureK (c.args.toList.map st.ev) fun args => callAny (nameOf o.dst) st o.dst (argsF f args caps) (fzK E o.dst k) (E.orc (funF f))
      | .dat (.clo f c') x => sureK (c.args.toList.map st.ev) fun args => callAny (nameOf o.dst) st o.dst (argsF f args (cellsAV c' x)) (fzK E o.dst k) (E.orc (funF f))
      | _ => none
    | _ => none
  | _ => none
def dropFact (dst : Option Tmp) (fs : List (Nat × Bool)) : List (Nat × Bool) :=
 match dst with
 | none => fs
 | some d => fs.filter fun p => !Nat.beq p.1 d
def dstOf (ops : List Oper) (j : Nat) : Option Tmp :=
 match ops[j]? with
 | some o => o.dst
 | none => none
def askK (facts : List (Nat × Bool)) (st : St) (d : Nat) (k : Bool → List (Nat × Bool) → Option R) : Option R :=
 match look facts d with
 | some b => k b facts
 | none => forkB (st.get d) fun b => k b ((d, b) :: facts)
def goneA : AV → Bool
 | .gone => true
 | _ => false
def askG (facts : List (Nat × Bool)) (st : St) (d : Nat) (want : Bool) (k : Bool → List (Nat × Bool) → Option R) : Option R :=
 match look facts d with
 | some b => k (Bool.xor b want) facts
 | none => match goneA (st.get d) with
  | true => k true facts
  | false => forkB (st.get d) fun b => k (Bool.xor b want) ((d, b) :: facts)
def opsK (all : List Oper) : List Oper → List (Nat × Bool) → St → (St → Option R) → Option R
 | [], _, st, k => k st
 | o :: ops, facts, st, k =>
  match o.guard with
  | none =>
   match o.op with
   | .pick (.tmp c) a b => askK facts st c fun t facts => st.put o.dst (st.ev (pickOf t a b)) fun st => opsK all ops (dropFact o.dst facts) st k
   | _ => opK E o st fun st => opsK all ops (dropFact o.dst facts) st k
  | some (j, want) =>
   match dstOf all j with
   | none => none
   | some d => askG facts st d want fun x facts =>
    match x with
    | true => st.put o.dst .gone fun st => opsK all ops (dropFact o.dst facts) st k
    | false =>
     match o.op with
     | .pick (.tmp c) a b => askK facts st c fun t facts => st.put o.dst (st.ev (pickOf t a b)) fun st => opsK all ops (dropFact o.dst facts) st k
     | _ => opK E o st fun st => opsK all ops (dropFact o.dst facts) st k
def calm (o : Oper) (st : St) : Bool :=
 match o.op with
 | .move _ | .assign _ | .pick .. | .load .. | .nilCheck _ | .binOp .. | .unOp .. | .convert .. | .fieldAddr .. | .field .. | .indexAddr .. | .extract .. | .makeFunc .. | .build .. | .lookup .. => true
 | .box .. | .alloc _ | .makeSlice .. => o.dst.isSome
 | .slice _ x _ _ _ => (namesA (st.ev x)).isEmpty
 | .buildSlice _ _ parts => o.dst.isSome && (namesA.namesL (parts.toList.map fun p => st.ev p.2)).isEmpty
 | .call c => match c.callee with
  | .builtin .len => true
  | .builtin .max => true
  | .builtin .min => true
  | .value f => o.dst.isSome && (namesA (st.ev f)).isEmpty && (namesA.namesL (c.args.toList.map st.ev)).isEmpty
  | _ => false
 | _ => false
def slotsOf (o : Oper) : List Nat := o.op.operands.toList.filterMap fun | .tmp t => some t | _ => none
def seenBy (all : List Oper) (o : Oper) : List Nat :=
 match o.guard with
 | none => slotsOf o
 | some (j, _) => match dstOf all j with
  | some d => d :: slotsOf o
  | none => slotsOf o
def bindsAny (e : Edge) : Bool := Region.binds .any e
def apartO (all : List Oper) (x y : Oper) : Bool :=
 match x.dst, y.dst with
 | some d, some e => !(seenBy all y).any (Nat.beq d) && !(seenBy all x).any (Nat.beq e) && !Nat.beq d e
 | _, _ => false
def stO (o : Oper) : Bool :=
 match o.guard, o.dst, o.op with
 | none, none, .store .. => true
 | _, _, _ => false
def apartS (all : List Oper) (x y : Oper) : Bool :=
 match stO x, y.op, y.dst with
 | true, .store .., _ => false
 | true, _, some e => !(seenBy all x).any (Nat.beq e)
 | _, _, _ => false
def maskL (ms : List Nat) : List Edge → Nat
 | [] => 0
 | e :: l => match bindsAny e with
  | true => (maskL ms l ||| (1 <<< e.on)) ||| ms.getD e.on 0
  | false => maskL ms l
def masksOf : List Oper → List Nat → List Nat
 | [], ms => ms
 | o :: l, ms => masksOf l (ms ++ [maskL ms o.after.toList])
def before (ops : List Oper) (i j : Nat) : Bool := Nat.testBit ((masksOf ops []).getD j 0) i
def freePairs (ops : List Oper) : List (Nat × Nat) :=
 ((List.range ops.length).flatMap fun j => (List.range j).map fun i => (i, j)).filter fun p => match ops[p.2]? with
  | some _ => !before ops p.1 p.2
  | none => false
def drawOK (ops : List Oper) : Bool :=
 (freePairs ops).all (fun p => match ops[p.1]?, ops[p.2]? with
  | some x, some y => apartO ops x y || apartS ops x y || apartS ops y x
  | _, _ => false) &&
 (ops.zipIdx).all (fun p => p.1.after.toList.all fun e => !bindsAny e || Nat.blt e.on p.2)
def pureO (o : Oper) : Bool :=
 match o.op with
 | .move _ | .assign _ | .pick .. | .load .. | .nilCheck _ | .binOp .. | .unOp .. | .convert .. | .fieldAddr .. | .field .. | .indexAddr .. | .extract .. | .lookup .. => true
 | _ => false
def isFrz : Option Blk → Bool
 | some (.frz ..) => true
 | some (.fmp ..) => true
 | _ => false
def calmR (o : Oper) (st : St) : Bool :=
 match o.op with
 | .call c => match c.callee with
  | .value f => match st.ev f with
   | .clo g _ => (E.orc (funF g)).all fun S => (flatC S.rs ++ outsC S.ps).all (·.apart) && (outsC S.ps).isEmpty
   | _ => false
  | _ => false
 | .buildSlice _ _ parts => (namesA.namesL (parts.toList.map fun p => st.ev p.2)).all fun b => isFrz (st.find b)
 | .slice _ x _ _ none => (namesA (st.ev x)).all fun b => isFrz (st.find b)
 | _ => false
def isPure (ops : List Oper) (i : Nat) : Bool :=
 match ops[i]? with
 | some o => pureO o
 | none => false
def besidePure (ops : List Oper) (i : Nat) : Bool :=
 (freePairs ops).all fun p => (!Nat.beq p.1 i || isPure ops p.2) && (!Nat.beq p.2 i || isPure ops p.1)
def mvO (o : Oper) : Bool :=
 match o.guard, o.op with
 | none, .move (.tmp _) => true
 | none, .slice _ _ _ _ none => bareM E o
 | _, _ => false
def appO (o : Oper) : Bool :=
 match o.guard, o.op with
 | none, .call c => match c.callee with
  | .builtin .append => true
  | _ => false
 | _, _ => false
def isMove (ops : List Oper) (i : Nat) : Bool :=
 match ops[i]? with
 | some o => mvO E o
 | none => false
def besideMove (ops : List Oper) (i : Nat) : Bool :=
 (freePairs ops).all fun p => (!Nat.beq p.1 i || isMove E ops p.2) && (!Nat.beq p.2 i || isMove E ops p.1)
def isFree (ops : List Oper) (i : Nat) : Bool := (freePairs ops).any fun p => Nat.beq p.1 i || Nat.beq p.2 i
def slotO (o : Oper) : Bool :=
 match o.op with
 | .move _ | .assign _ | .pick .. | .nilCheck _ | .binOp .. | .unOp .. | .convert .. | .field .. | .extract .. => true
 | _ => false
def wcallO (o : Oper) : Bool :=
 match o.guard, o.op with
 | none, .call c => match c.callee with
  | .value (.func _) => true
  | _ => false
 | _, _ => false
def readsS (S : Does) : Bool := (flatC S.rs ++ outsC S.ps).all (·.apart) && (outsC S.ps).isEmpty
def writesO (o : Oper) : Bool :=
 match o.op with
 | .call c => match c.callee with
  | .value (.func f) => !((E.orc (funF f)).all readsS)
  | _ => false
 | .store .. => true
 | _ => false
def isSlotO (ops : List Oper) (i : Nat) : Bool :=
 match ops[i]? with
 | some o => slotO o
 | none => false
def isWrites (ops : List Oper) (i : Nat) : Bool :=
 match ops[i]? with
 | some o => writesO E o
 | none => false
def besideSlot (ops : List Oper) (i : Nat) : Bool :=
 (freePairs ops).all fun p => (!Nat.beq p.1 i || isSlotO ops p.2) && (!Nat.beq p.2 i || isSlotO ops p.1)
def besideW (ops : List Oper) (i : Nat) : Bool :=
 (freePairs ops).any fun p => (Nat.beq p.1 i && isWrites E ops p.2) || (Nat.beq p.2 i && isWrites E ops p.1)
def gentleO (o : Oper) : Bool :=
 pureO o || match o.op with
 | .box .. | .alloc _ | .makeSlice .. | .buildSlice .. | .build .. => true
 | .call c => match c.callee with
  | .builtin .len => true
  | .builtin .max => true
  | .builtin .min => true
  | _ => false
 | _ => false
def isGentle (ops : List Oper) (i : Nat) : Bool :=
 match ops[i]? with
 | some o => gentleO o
 | none => false
def besideGentle (ops : List Oper) (i : Nat) : Bool :=
 (freePairs ops).all fun p => (!Nat.beq p.1 i || isGentle ops p.2) && (!Nat.beq p.2 i || isGentle ops p.1)
def rowyO (ws : Nat → Bool) (o : Oper) (st : St) : Bool :=
 !gentleO o || slotO o || (calm o st && ((slotsOf o).flatMap fun d => namesA (st.get d)).all fun b => (st.find b).isSome && !ws b)
def wOK (ws : Nat → Bool) (o : Oper) (st : St) : Bool :=
 match o.op with
 | .call c => match c.callee with
  | .value (.func _) => (namesA.namesL (c.args.toList.map st.ev)).all fun b => (st.find b).isSome && (namesB (st.find b)).isEmpty && (isFrz (st.find b) || ws b)
  | _ => false
 | _ => false
def stOK (ws : Nat → Bool) (o : Oper) (st : St) : Bool :=
 (namesA.namesL (o.op.operands.toList.map st.ev)).all fun b => isFrz (st.find b) || ws b
structure Fl where
 free : Nat → Bool
 prs : Nat → Bool
 mvs : Nat → Bool
 sls : Nat → Bool
 gns : Nat → Bool
 bws : Nat → Bool
 ws : Nat → Bool
def flOf (id : Nat) (ops : List Oper) : Fl := ⟨isFree ops, besidePure ops, besideMove E ops, besideSlot ops, besideGentle ops, besideW E ops, fun b => E.fz.any (Nat.beq (1073741824 + id * 65536 + b))⟩
def quietO (fl : Fl) (i : Nat) (o : Oper) (st : St) : Bool :=
 calm o st || (fl.prs i && calmR E o st) || (fl.mvs i && appO o) || (wcallO o && (fl.sls i || (fl.gns i && writesO E o && wOK fl.ws o st))) || (stO o && (fl.sls i || (fl.prs i && stOK fl.ws o st)))
def opsD (fl : Fl) (all : List Oper) : List Oper → Nat → List (Nat × Bool) → St → (St → Option R) → Option R
 | [], _, _, st, k => k st
 | o :: ops, i, facts, st, k =>
  match !fl.free i || !fl.bws i || rowyO fl.ws o st with
  | false => none
  | true => match o.guard with
   | none =>
    match !fl.free i || quietO E fl i o st with
    | false => none
    | true => match o.op with
     | .pick (.tmp c) a b => askK facts st c fun t facts => st.put o.dst (st.ev (pickOf t a b)) fun st => opsD fl all ops (i + 1) (dropFact o.dst facts) st k
     | _ => opK E o st fun st => opsD fl all ops (i + 1) (dropFact o.dst facts) st k
   | some (j, want) =>
    match dstOf all j with
    | none => none
    | some d => askG facts st d want fun x facts =>
     match x with
     | true => st.put o.dst .gone fun st => opsD fl all ops (i + 1) (dropFact o.dst facts) st k
     | false =>
      match !fl.free i || quietO E fl i o st with
      | false => none
      | true => match o.op with
       | .pick (.tmp c) a b => askK facts st c fun t facts => st.put o.dst (st.ev (pickOf t a b)) fun st => opsD fl all ops (i + 1) (dropFact o.dst facts) st k
       | _ => opK E o st fun st => opsD fl all ops (i + 1) (dropFact o.dst facts) st k
def indexOf : List Nat → Nat → Nat → Option Nat
 | [], _, _ => none
 | c :: l, i, b => match Nat.beq b c with
  | true => some i
  | false => indexOf l (i + 1) b
def nils (st : St) : List (Nat × Option (TypeId × Ty)) → Nat → List (Nat × AV) × List (Nat × Blk)
 | [], _ => ([], [])
 | (s, some (e, t)) :: l, i => match st.get s with
  | .nil => match nils st l (i + 1) with
   | (ts, bs) => ((s, .own i) :: ts, (i, .flat e t []) :: bs)
  | _ => nils st l i
 | (_, none) :: l, i => nils st l i
def normT (st : St) (σ : Nat → Option Nat) : List (Nat × Option (TypeId × Ty)) → List (Nat × AV)
 | [] => []
 | (s, _) :: l => (s, (st.get s).settle.ren σ) :: normT st σ l
def normH (st : St) (σ : Nat → Option Nat) : List Nat → Nat → Option (List (Nat × Blk))
 | [], _ => some []
 | b :: l, i => match st.find b with
  | some blk => match normH st σ l (i + 1) with
   | some h => some ((i, blk.ren σ) :: h)
   | none => none
  | none => none
def prep1 (s : Nat) (st : St) : LvK → Option St
 | .nil e t => match st.get s with
  | .nil => match st.alloc (s * 64 + 32) (.flat e t []) with
   | some st => some (st.set s (.own (s * 64 + 32)))
   | none => none
  | _ => some st
 | .data t => match st.get s with
  | .own b => match frzN st [b] with
   | some st' => match listOf st' t (.own b) with
    | some l => some (st'.set s (.dat (.list t) l))
    | none => none
   | none => none
  | .nil => some (st.set s (.dat (.list t) []))
  | _ => some st
 | .cell j e t => match st.get s with
  | .box b _ => match st.find b with
   | some (.cells cs) => match cs[j]? with
    | some .nil => match st.alloc (s * 64 + 33 + j) (.flat e t []) with
     | some st => some (st.lay b (.cells (cs.set j (.own (s * 64 + 33 + j)))))
     | none => none
    | _ => some st
   | _ => some st
  | _ => some st
 | .que => match st.get s with
  | .own b => match st.find b with
   | some (.flat e t l) => some (st.lay b (.que e t l))
   | _ => some st
  | _ => some st
def prepL (s : Nat) : List LvK → St → Option St
 | [], st => some st
 | x :: l, st => match prep1 s st x with
  | some st => prepL s l st
  | none => none
def prepS : List (Nat × List LvK) → St → Option St
 | [], st => some st
 | (s, l) :: m, st => match prepL s l st with
  | some st => prepS m st
  | none => none
def norm0 (pin : Nat) (lv : List (Nat × Option (TypeId × Ty))) (st : St) : Option St :=
 match discover st 3 (addN (List.range pin) (lv.flatMap fun p => namesA (st.get p.1))) with
 | ns => match nodupN ns && (List.range pin).all (fun i => match ns[i]? with | some b => Nat.beq b i | none => false), normH st (indexOf ns 0) ns 0 with
  | true, some h => some ⟨st.n, lookA ((nils st lv ns.length).1 ++ normT st (indexOf ns 0) lv), look (h ++ (nils st lv ns.length).2)⟩
  | _, _ => none
def norm (pin : Nat) (lv : List (Nat × List LvK)) (st : St) : Option St :=
 match prepS lv st with
 | some st => norm0 pin (lv.map fun p => (p.1, none)) st
 | none => none
inductive Ex where
 | normal
 | exit (id : Nat)
 | ret
def roundK (nm : St → Option St) (k : Ex → St → Option R) (rec : St → Option R) : Ex → St → Option R := fun e st =>
 match e with
 | .normal => match nm st with
  | none => none
  | some st => rec st
 | .exit id => k (.exit id) st
 | .ret => k .ret st
def iterN (nm : St → Option St) (body : St → (Ex → St → Option R) → Option R) (k : Ex → St → Option R) : Nat → St → Option R
 | 0, _ => none
 | n + 1, st => body st (roundK nm k (iterN nm body k n))
def seqK (k : Ex → St → Option R) (next : St → (Ex → St → Option R) → Option R) : Ex → St → Option R := fun e st =>
 match e with
 | .normal => next st k
 | .exit id => k (.exit id) st
 | .ret => k .ret st
def blockK (id : Nat) (k : Ex → St → Option R) : Ex → St → Option R := fun e st =>
 match e with
 | .normal => k .normal st
 | .exit id' => match Nat.beq id' id with
  | true => k .normal st
  | false => k (.exit id') st
 | .ret => k .ret st
def codeK : Code → Nat → St → (Ex → St → Option R) → Option R
 | .skip, _, st, k => k .normal st
 | .region id ops draw, _, st, k => match draw with
  | false => opsK E ops.toList ops.toList [] st fun st => k .normal st
  | true => match drawOK ops.toList, prepS (E.dr id) st with
   | true, some st => opsD E (flOf E id ops.toList) ops.toList ops.toList 0 [] st fun st => k .normal st
   | _, _ => none
 | .seq a b, cur, st, k => codeK a cur st (seqK k (codeK b cur))
 | .cond c x y, cur, st, k => forkB (st.ev c) fun t => match t with
  | true => codeK x cur st k
  | false => codeK y cur st k
 | .block id c, _, st, k => codeK c id st (blockK id k)
 | .loop c, cur, st, k => match norm E.pin (E.lv cur) st with
  | none => none
  | some st => iterN (norm E.pin (E.lv cur)) (codeK c cur) k E.K st
 | .exit id, _, st, k => k (.exit id) st
 | .ret, _, st, k => k .ret st
 | _, _, _, _ => none
def resultA (st : St) : ResultVar → Option AV
 | .tmp t => some (st.get t).settle
 | .cell a t => match E.tb t with
  | some i => match loadC st i.size (st.get a) with
   | some cs => valOf i cs
   | none => none
  | none => none
def resultsA (st : St) : List ResultVar → Option (List AV)
 | [] => some []
 | r :: l => match resultA E st r with
  | some v => match resultsA st l with
   | some vs => some (v :: vs)
   | none => none
  | none => none
def par1 (b : Nat) : (d : D1) → d.den → Option (AV × List (Nat × Blk))
 | .dat t, x => match cellsAV t x with
  | [v] => some (v, [])
  | _ => none
 | .own e t, l => some (.own b, [(b, .flat e t l)])
 | .cel t, x => some (.box b 0, [(b, .cells (cellsAV t x))])
def parL (b : Nat) : (ds : List D1) → dens ds → Option (List AV × List (Nat × Blk))
 | [], _ => some ([], [])
 | [d], x => match par1 b d x with
  | some (v, h) => some ([v], h)
  | none => none
 | d :: d' :: ds, x => match par1 b d x.1 with
  | some (v, h) => match parL (match d.isOwn with | true => b + 1 | false => b) (d' :: ds) x.2 with
   | some (vs, h') => some (v :: vs, h ++ h')
   | none => none
  | none => none
def slots : Nat → List AV → List (Nat × AV)
 | _, [] => []
 | i, v :: l => (i, v) :: slots (i + 1) l
def placeK : Code → Nat → List Bool → List (St → Option R) → (Ex → St → Option R) → Option (Code × Nat × (Ex → St → Option R) × List (St → Option R))
 | c, cur, [], recs, k => some (c, cur, k, recs)
 | .seq a b, cur, false :: p, recs, k => placeK a cur p recs (seqK k (codeK E b cur))
 | .seq a b, cur, true :: p, recs, k => placeK b cur p recs k
 | .cond _ a b, cur, false :: p, recs, k => placeK a cur p recs k
 | .cond _ a b, cur, true :: p, recs, k => placeK b cur p recs k
 | .block id c, _, _ :: p, recs, k => placeK c id p recs (blockK id k)
 | .loop c, cur, _ :: p, r :: recs, k => placeK c cur p recs (roundK (norm E.pin (E.lv cur)) k r)
 | _, _, _, _, _ => none
def finalK (S : Does) (fn : Func) (cells : List AV) : Ex → St → Option (dens (flatC S.rs ++ outsC S.ps)) := fun e st =>
 match e with
 | .exit _ => none
 | _ => match resultsA E st fn.results.toList with
  | none => none
  | some vs => match flatA S.rs vs with
   | none => none
   | some cs => match sepK st (flatC S.rs ++ outsC S.ps) (cs ++ ownCells (flatC S.ps) cells) with
    | some _ => readL st (flatC S.rs ++ outsC S.ps) (cs ++ ownCells (flatC S.ps) cells)
    | none => none
def ownAV : Nat → List D1 → List AV
 | _, [] => []
 | i, .own .. :: ds => .own i :: ownAV (i + 1) ds
 | i, .cel _ :: ds => .box i 0 :: ownAV (i + 1) ds
 | i, .dat _ :: ds => .undef :: ownAV i ds
def loopF (S : Does) (fn : Func) (p : List Bool) (recs : List (St → Option (dens (flatC S.rs ++ outsC S.ps)))) (n : Nat) (st : St) : Option (dens (flatC S.rs ++ outsC S.ps)) :=
 match fn.body with
 | none => none
 | some c => match placeK E c 0 p recs (finalK E S fn (ownAV 0 (flatC S.ps))) with
  | some (.loop c, cur, k, _) => iterN (norm E.pin (E.lv cur)) (codeK E c cur) k n st
  | _ => none
def roundF (S : Does) (fn : Func) (p : List Bool) (recs : List (St → Option (dens (flatC S.rs ++ outsC S.ps)))) (rec : St → Option (dens (flatC S.rs ++ outsC S.ps))) (st : St) : Option (dens (flatC S.rs ++ outsC S.ps)) :=
 match fn.body with
 | none => none
 | some c => match placeK E c 0 p recs (finalK E S fn (ownAV 0 (flatC S.ps))) with
  | some (.loop c, cur, k, _) => codeK E c cur st (roundK (norm E.pin (E.lv cur)) k rec)
  | _ => none
theorem loopF_zero (S : Does) (fn : Func) (p : List Bool) (recs : List (St → Option (dens (flatC S.rs ++ outsC S.ps)))) (st : St) : loopF E S fn p recs 0 st = none := by
 unfold loopF
 split
 ·rfl
 ·split <;> rfl
theorem loopF_succ (S : Does) (fn : Func) (p : List Bool) (recs : List (St → Option (dens (flatC S.rs ++ outsC S.ps)))) (n : Nat) (st : St) :
  loopF E S fn p recs (n + 1) st = roundF E S fn p recs (loopF E S fn p recs n) st := by
 unfold loopF roundF
 split
 ·rfl
 ·split
  ·rename_i h1 _ _ _ _ _ h2
   simp only [iterN, h2]
  ·rfl
theorem loopF_eq {V : Type} (S : Does) (fn : Func) (p : List Bool) (recs : List (St → Option (dens (flatC S.rs ++ outsC S.ps)))) (enc : V → St) (s : (V → Option (dens (flatC S.rs ++ outsC S.ps))) → V → Option (dens (flatC S.rs ++ outsC S.ps)))
  (l : Nat → V → Option (dens (flatC S.rs ++ outsC S.ps))) (h0 : ∀ v, l 0 v = none) (h1 : ∀ n v, l (n + 1) v = s (l n) v)
  (h : ∀ rec v, roundF E S fn p recs rec (enc v) = s (fun v => rec (enc v)) v) (n : Nat) : ∀ v, loopF E S fn p recs n (enc v) = l n v := by
 induction n with
 | zero => intro v; rw [loopF_zero, h0]
 | succ n ih =>
  intro v
  rw [loopF_succ, h, h1]
  congr 1
  funext v
  exact ih v
def funK (S : Does) (fn : Func) (x : dens (flatC S.ps)) : Option (dens (flatC S.rs ++ outsC S.ps)) :=
 match fn.body with
 | none => none
 | some c => match parL 0 (flatC S.ps) x with
  | none => none
  | some (cells, heap) => match compsA S.ps cells with
   | none => none
   | some vs => match Nat.ble vs.length fn.ntmps && Nat.beq E.pin (outsC S.ps).length with
    | true => codeK E c 0 ⟨fn.ntmps, lookA (slots 0 vs), look heap⟩ (finalK E S fn (ownAV 0 (flatC S.ps)))
    | false => none
end
end
end Go.V
end
section
namespace Go.V
open Go Go.RowKit
set_option linter.unusedVariables false
set_option linter.unusedSimpArgs false
theorem add_lit (g o n : Nat) : (⟨g, o, none⟩ : Addr).add n = ⟨g, o + n, none⟩ := by
 unfold Addr.add; split <;> simp_all
theorem add_block (a : Addr) (n : Nat) : (a.add n).block = a.block := by unfold Addr.add; split <;> rfl
theorem cell_lit {w : World} {g o : Nat} {c : Array Value} {e : TypeId} {fr : Nat × Nat} (h : w.heap[g]? = some (.cells c e fr)) : w.cell? ⟨g, o, none⟩ = c[o]? := by
 simp [World.cell?, h]
theorem R1.settle {c : Cx} {a : AV} {v : Value} (h : R1 c a v) : R1 c a.settle v := by
 cases a <;> try exact h
 rename_i pos p i
 cases pos
 ·show Rc c.w c.N .bool (!@decide p i) [v]
  have h' : v = .bool (false == @decide p i) := h
  rw [h']
  show [Value.bool _] = [Value.bool _]
  cases @decide p i <;> rfl
 ·show Rc c.w c.N .bool (@decide p i) [v]
  have h' : v = .bool (true == @decide p i) := h
  rw [h']
  show [Value.bool _] = [Value.bool _]
  cases @decide p i <;> rfl
theorem Rt.settle {c : Cx} {a : AV} {v : Value} (h : Rt c a v) : Rt c a.settle v := by
 cases a <;> first | exact h | exact Rt.of1 (R1.settle h)
theorem All2.settle {c : Cx} : ∀ {l : List AV} {m : List Value}, All2 (R1 c) l m → All2 (R1 c) (l.map AV.settle) m
 | [], [], _ => trivial
 | _ :: _, _ :: _, h => ⟨h.1.settle, All2.settle h.2⟩
 | [], _ :: _, h => h.elim
 | _ :: _, [], h => h.elim
theorem mem_namesL {l : List AV} {b : Nat} : b ∈ namesA.namesL l ↔ ∃ v ∈ l, b ∈ namesA v := by
 induction l with
 | nil => simp [namesA.namesL]
 | cons v l ih => simp [namesA.namesL, ih]
theorem row_Rc {w : World} {N N' : Nat → Prop} {e : TypeId} {t : Ty} {l : List t.den} {v : Value} {xs : List Value} (ho : w.ownsRow 0 e t.size v (List.length l) xs) (he : Elems w N t l xs)
  (hN : ∀ r, N' r → N r) (hv : ∀ r, blockOf v = some r → ¬ N' r) : Rc w N' (.list t) l [v] := by
 rcases ho.2 with ⟨rfl, h0⟩ | ⟨g, cap, cur, rfl, _, hg, hn, _, hs, ht⟩
 ·exact ⟨none, 0, by rw [h0], by omega, fun _ => rfl, fun i hi => absurd hi (by omega)⟩
 ·refine ⟨some ⟨g, 0, none⟩, cap, rfl, hn, fun h => (Option.some_ne_none _ h).elim, fun i hi => ⟨⟨g, 0, none⟩, rfl, _, ?_, ?_, (he.get i hi).weaken hN⟩⟩
  ·exact (he.get i hi).length
  ·intro j hj
   rw [add_lit, add_lit]
   refine ⟨hv g rfl, ?_⟩
   have hl : j < t.size := by rw [(he.get i hi).length] at hj; exact hj
   have hbound : i * t.size + j < List.length l * t.size := by
    have : (i + 1) * t.size ≤ List.length l * t.size := Nat.mul_le_mul_right _ hi
    rw [Nat.add_mul] at this; omega
   have hk : xs.length = List.length l * t.size := ho.1
   rw [cell_lit hg, Nat.zero_add]
   have h1 : xs[i * t.size + j]? = some ((xs.drop (i * t.size)).take t.size)[j] := by
    rw [List.getElem_take, List.getElem_drop, List.getElem?_eq_getElem (by omega)]
   have h2 : xs[i * t.size + j]? = cur[i * t.size + j]? := by
    rw [← ht, List.getElem?_take, if_pos (by omega)]; simp
   rw [← h2]; exact h1
theorem one?_some {cs : List AV} {a : AV} (h : one? cs = some a) : cs = [a] := by
 match cs, h with
 | [b], h => simp [one?] at h; rw [h]
 | [], h => simp [one?] at h
 | _ :: _ :: _, h => simp [one?] at h
theorem All2.one {α β : Type} {R : α → β → Prop} {a : α} {m : List β} (h : All2 R [a] m) : ∃ b, m = [b] ∧ R a b := by
 match m, h with
 | [b], h => exact ⟨b, rfl, h.1⟩
section
variable {st : St} {X : Nat → Prop} {hd : Nat → Value} {w : World}
structure Clear (st : St) (X : Nat → Prop) (hd : Nat → Value) (w : World) (N' : Nat → Prop) (Q : Nat → Prop) : Prop where
 sub : ∀ r, N' r → (st.cx X hd w).N r
 far : ∀ b r, Q b → blockOf (hd b) = some r → ¬ N' r
 closed : ∀ b cs, Q b → st.find b = some (.cells cs) → ∀ c ∈ namesA.namesL cs, Q c
theorem datD_ok {N' : Nat → Prop} (hs : ∀ r, N' r → (st.cx X hd w).N r) {t : Ty} {a : AV} {v : Value} {x : t.den} (hr : R1 (st.cx X hd w) a v) (h : datD t a = some x) : Rc w N' t x [v] := by
 cases a with
 | dat s y =>
  obtain ⟨rfl, rfl⟩ := cast?_some (show cast? s t y = some x from h)
  exact Rc.weaken hs hr
 | _ => cases h
theorem boolD_ok {N' : Nat → Prop} {a : AV} {v : Value} {x : Bool} (hr : R1 (st.cx X hd w) a v) (h : boolD a = some x) : v = .bool x := by
 cases a with
 | dat s y =>
  obtain ⟨rfl, rfl⟩ := cast?_some (show cast? s .bool y = some x from h)
  have : [v] = [Value.bool y] := hr
  simpa using this
 | test pos p i =>
  have hr : v = .bool (pos == @decide p i) := hr
  cases pos
  ·have h : some (!@decide p i) = some x := h
   rw [hr, ← Option.some.inj h]; cases @decide p i <;> rfl
  ·have h : some (@decide p i) = some x := h
   rw [hr, ← Option.some.inj h]; cases @decide p i <;> rfl
 | _ => cases h
theorem rowD_ok (hb : ∀ b blk, st.find b = some blk → RB (st.cx X hd w) b blk) {t : Ty} {b : Nat} {l : List t.den} (h : rowD t (st.find b) = some l) :
  ∃ e xs, w.ownsRow 0 e t.size (hd b) (List.length l) xs ∧ Elems w (st.cx X hd w).N t l xs := by
 cases hf : st.find b with
 | none => rw [hf] at h; cases h
 | some blk =>
  rw [hf] at h
  cases blk with
  | flat e' s' l' =>
   obtain ⟨he, hx⟩ := cast?_some (show cast? (.list s') (.list t) l' = some l from h)
   cases he
   cases hx
   obtain ⟨xs, ho, hE⟩ := hb b _ hf
   exact ⟨e', xs, ho, hE⟩
  | frz e' s' l' =>
   obtain ⟨he, hx⟩ := cast?_some (show cast? (.list s') (.list t) l' = some l from h)
   cases he
   cases hx
   obtain ⟨xs, ho, hE⟩ := hb b _ hf
   exact ⟨e', xs, ho, hE⟩
  | _ => cases h
theorem mapB_ok (hb : ∀ b blk, st.find b = some blk → RB (st.cx X hd w) b blk) {k v : Ty} {b : Nat} {l : List (k.den × v.den)} (h : mapB k v (st.find b) = some l) :
  ∃ r es clock, hd b = .map (some r) ∧ w.heap[r]? = some (.map es clock) ∧ entsOf es = mapEnts k v l := by
 cases hf : st.find b with
 | none => rw [hf] at h; cases h
 | some blk =>
  rw [hf] at h
  cases blk with
  | mp k' v' l' =>
   obtain ⟨he, hx⟩ := cast?_some (show cast? (.map k' v') (.map k v) l' = some l from h)
   cases he
   cases hx
   exact hb b _ hf
  | fmp k' v' l' =>
   obtain ⟨he, hx⟩ := cast?_some (show cast? (.map k' v') (.map k v) l' = some l from h)
   cases he
   cases hx
   exact hb b _ hf
  | _ => cases h
theorem mapOf_ok (hb : ∀ b blk, st.find b = some blk → RB (st.cx X hd w) b blk) {k v : Ty} {a : AV} {x : Value} {l : List (k.den × v.den)}
  (hr : R1 (st.cx X hd w) a x) (h : mapOf st k v a = some l) : ∃ r es clock, x = .map (some r) ∧ w.heap[r]? = some (.map es clock) ∧ entsOf es = mapEnts k v l ∧ (∀ N' Q, Clear st X hd w N' Q → (∀ b ∈ namesA a, Q b) → ¬ N' r) := by
 cases a with
 | dat s y =>
  obtain ⟨rfl, rfl⟩ := cast?_some (show cast? s (.map k v) y = some l from h)
  obtain ⟨r, es, c, e, hn, hg, he⟩ := (show Rc w (st.cx X hd w).N (.map k v) y [x] from hr)
  exact ⟨r, es, c, by simpa using e, hg, he, fun N' Q hc _ hN => hn (hc.sub r hN)⟩
 | om b =>
  have hv : x = hd b := hr.1
  subst hv
  obtain ⟨r, es, c, hh, hg, he⟩ := mapB_ok hb (show mapB k v (st.find b) = some l from h)
  exact ⟨r, es, c, hh, hg, he, fun N' Q hc hn => hc.far b r (hn b (by simp [namesA])) (by rw [hh]; rfl)⟩
 | _ => cases h
theorem listOf_ok (hb : ∀ b blk, st.find b = some blk → RB (st.cx X hd w) b blk) {N' Q : Nat → Prop} (hc : Clear st X hd w N' Q) {t : Ty} {a : AV} {v : Value} {l : List t.den}
  (hr : R1 (st.cx X hd w) a v) (hn : ∀ b ∈ namesA a, Q b) (h : listOf st t a = some l) : Rc w N' (.list t) l [v] := by
 cases a with
 | dat s y =>
  obtain ⟨rfl, rfl⟩ := cast?_some (show cast? s (.list t) y = some l from h)
  exact Rc.weaken (t := .list t) hc.sub hr
 | nil =>
  have h : some [] = some l := h
  cases h
  have : v = .slice none 0 0 := hr
  subst this
  exact ⟨none, 0, rfl, Nat.le_refl _, fun _ => rfl, fun i hi => absurd hi (Nat.not_lt_zero _)⟩
 | dne s =>
  have h : some [] = some l := h
  cases h
  obtain ⟨a, cap, rfl⟩ := (show ∃ a cap, v = .slice (some a) 0 cap from hr)
  exact ⟨some a, cap, rfl, Nat.zero_le _, fun h => (Option.some_ne_none _ h).elim, fun i hi => absurd hi (Nat.not_lt_zero _)⟩
 | own b =>
  have hv : v = hd b := hr.1
  subst hv
  obtain ⟨e, xs, ho, hE⟩ := rowD_ok hb (show rowD t (st.find b) = some l from h)
  exact row_Rc ho hE hc.sub (fun r hr' => hc.far b r (hn b (by simp [namesA])) hr')
 | _ => cases h
theorem ptrD_ok (hb : ∀ b blk, st.find b = some blk → RB (st.cx X hd w) b blk) {N' Q : Nat → Prop} (hc : Clear st X hd w N' Q) {t : Ty} {a : AV} {v : Value} {x : t.den} (hr : R1 (st.cx X hd w) a v) (hn : ∀ b ∈ namesA a, Q b)
  (ih : ∀ (cs : List AV) (vs : List Value) (x : t.den), All2 (R1 (st.cx X hd w)) cs vs → (∀ b ∈ namesA.namesL cs, Q b) → cellsData st t cs = some x → Rc w N' t x vs)
  (h : ptrD st t (cellsData st t) a = some x) : Rc w N' (.ptr t) x [v] := by
 cases a with
 | dp s y =>
  obtain ⟨rfl, rfl⟩ := cast?_some (show cast? s t y = some x from h)
  exact Rc.weaken (t := .ptr s) hc.sub hr
 | box b i =>
  obtain ⟨blk, n, r, hf, hs, hi, hh, hv⟩ := hr
  have hf : st.find b = some blk := hf
  have h : boxD t i (cellsData st t) (st.find b) = some x := h
  rw [hf] at h
  cases blk with
  | cells cs' =>
   have h : (match Nat.ble (i + t.size) cs'.length with | true => cellsData st t ((cs'.drop i).take t.size) | false => none) = some x := h
   split at h
   ·rename_i hle
    have hle := Nat.le_of_ble_eq_true hle
    obtain ⟨r', vs', e', hh', hg, ha⟩ := hb b _ hf
    have : r' = r := by have := hh'.symm.trans hh; simpa using this
    subst this
    have hQ : Q b := hn b (by simp [namesA])
    subst hv
    have hlen := ha.length
    refine ⟨_, rfl, (vs'.drop i).take t.size, by simp; omega, ?_, ih _ _ _ ((ha.drop i).take t.size) ?_ h⟩
    ·intro j hj
     simp at hj
     rw [add_lit]
     refine ⟨hc.far b r' hQ (by rw [show hd b = _ from hh]; rfl), ?_⟩
     rw [cell_lit (show w.heap[r']? = _ from hg)]
     rw [List.getElem_take, List.getElem_drop]
     simp
    ·intro c hcm
     obtain ⟨v, hv, hm⟩ := mem_namesL.1 hcm
     exact hc.closed b cs' hQ hf c (mem_namesL.2 ⟨v, List.mem_of_mem_drop (List.mem_of_mem_take hv), hm⟩)
   ·cases h
  | _ => cases hs
 | _ => cases h
theorem cellsData_ok (hb : ∀ b blk, st.find b = some blk → RB (st.cx X hd w) b blk) {N' Q : Nat → Prop} (hc : Clear st X hd w N' Q) :
  ∀ (t : Ty) (cs : List AV) (vs : List Value) (x : t.den), All2 (R1 (st.cx X hd w)) cs vs → (∀ b ∈ namesA.namesL cs, Q b) → cellsData st t cs = some x → Rc w N' t x vs := by
 intro t
 induction t with
 | pair a b iha ihb =>
  intro cs vs x hr hn h
  rw [cellsData] at h
  split at h
  ·rename_i x1 h1
   split at h
   ·rename_i x2 h2
    cases h
    refine ⟨vs.take a.size, vs.drop a.size, (List.take_append_drop _ _).symm, iha _ _ _ (hr.take _) ?_ h1, ihb _ _ _ (hr.drop _) ?_ h2⟩
    ·intro c hcm
     obtain ⟨v, hv, hm⟩ := mem_namesL.1 hcm
     exact hn c (mem_namesL.2 ⟨v, List.mem_of_mem_take hv, hm⟩)
    ·intro c hcm
     obtain ⟨v, hv, hm⟩ := mem_namesL.1 hcm
     exact hn c (mem_namesL.2 ⟨v, List.mem_of_mem_drop hv, hm⟩)
   ·cases h
  ·cases h
 | struct t ih =>
  intro cs vs x hr hn h
  rw [cellsData] at h
  exact ih cs vs x hr hn h
 | unit =>
  intro cs vs x hr hn h
  rw [cellsData] at h
  cases cs with
  | nil => cases vs with
   | nil => rfl
   | cons _ _ => exact hr.elim
  | cons a l => cases h
 | ptr t ih =>
  intro cs vs x hr hn h
  rw [cellsData] at h
  split at h
  ·rename_i a ha
   obtain rfl := one?_some ha
   obtain ⟨v, rfl, hr1⟩ := hr.one
   clear hr
   have hr := hr1
   exact ptrD_ok hb hc hr (fun b hb' => hn b (mem_namesL.2 ⟨_, by simp, hb'⟩)) (fun cs vs x h1 h2 h3 => ih cs vs x h1 h2 h3) h
  ·cases h
 | clo g c ih =>
  intro cs vs x hr hn h
  rw [cellsData] at h
  split at h
  ·rename_i a ha
   obtain rfl := one?_some ha
   obtain ⟨v, rfl, hr1⟩ := hr.one
   clear hr
   have hr := hr1
   cases a with
   | clo f caps =>
    have h : (match Nat.beq f g with | true => cellsData st c caps | false => none) = some x := h
    split at h
    ·rename_i he
     have he := Nat.eq_of_beq_eq_true he
     subst he
     obtain ⟨us, hv, ha⟩ := hr
     subst hv
     refine ⟨us, rfl, ih caps us x (ha.mono fun _ _ => R1.of0) ?_ h⟩
     intro b hbm
     exact hn b (mem_namesL.2 ⟨.clo f caps, by simp, by simpa [namesA] using hbm⟩)
    ·cases h
   | dat s y =>
    obtain ⟨rfl, rfl⟩ := cast?_some (show cast? s (.clo g c) y = some x from h)
    exact Rc.weaken (t := .clo g c) hc.sub hr
   | _ => cases h
  ·cases h
 | list t ih =>
  intro cs vs x hr hn h
  rw [cellsData] at h
  split at h
  ·rename_i a ha
   obtain rfl := one?_some ha
   obtain ⟨v, rfl, hr1⟩ := hr.one
   clear hr
   have hr := hr1
   exact listOf_ok hb hc hr (fun b hb' => hn b (mem_namesL.2 ⟨_, by simp, hb'⟩)) h
  ·cases h
 | optr t ih =>
  intro cs vs x hr hn h
  rw [cellsData] at h
  split at h
  ·rename_i a ha
   obtain rfl := one?_some ha
   obtain ⟨v, rfl, hr1⟩ := hr.one
   clear hr
   have hr := hr1
   have key : ∀ p, a = p → someO (ptrD st t (cellsData st t) p) = some x → Rc w N' (.optr t) x [v] := by
    intro p ep hp
    subst ep
    cases hy : ptrD st t (cellsData st t) a with
    | none => rw [hy] at hp; cases hp
    | some y =>
     rw [hy] at hp
     cases hp
     exact ptrD_ok hb hc hr (fun b hb' => hn b (mem_namesL.2 ⟨_, by simp, hb'⟩)) (fun cs vs x h1 h2 h3 => ih cs vs x h1 h2 h3) hy
   cases a with
   | pnil =>
    cases h
    exact (show [v] = [Value.pointer none] from by rw [show v = _ from hr])
   | dat s y =>
    obtain ⟨rfl, rfl⟩ := cast?_some (show cast? s (.optr t) y = some x from h)
    exact Rc.weaken (t := .optr t) hc.sub hr
   | box b i => exact key _ rfl h
   | dp s y => exact key _ rfl h
   | _ => cases h
  ·cases h
 | map k v ihk ihv =>
  intro cs vs x hr hn h
  rw [cellsData] at h
  split at h
  ·rename_i a ha
   obtain rfl := one?_some ha
   obtain ⟨u, rfl, hr1⟩ := hr.one
   clear hr
   obtain ⟨r, es, c, hv, hg, he, hN⟩ := mapOf_ok hb hr1 h
   exact ⟨r, es, c, by rw [hv], hN N' Q hc (fun b hb' => hn b (mem_namesL.2 ⟨_, by simp, hb'⟩)), hg, he⟩
  ·cases h
 | int k =>
  intro cs vs x hr hn h
  rw [cellsData] at h
  split at h
  ·rename_i a ha
   obtain rfl := one?_some ha
   obtain ⟨v, rfl, hr1⟩ := hr.one
   clear hr
   have hr := hr1
   exact datD_ok hc.sub hr h
  ·cases h
 | str =>
  intro cs vs x hr hn h
  rw [cellsData] at h
  split at h
  ·rename_i a ha
   obtain rfl := one?_some ha
   obtain ⟨v, rfl, hr1⟩ := hr.one
   clear hr
   have hr := hr1
   exact datD_ok hc.sub hr h
  ·cases h
 | bool =>
  intro cs vs x hr hn h
  rw [cellsData] at h
  split at h
  ·rename_i a ha
   obtain rfl := one?_some ha
   obtain ⟨v, rfl, hr1⟩ := hr.one
   clear hr
   have hr := hr1
   show [v] = [Value.bool x]
   rw [boolD_ok (N' := N') hr h]
  ·cases h
end
end Go.V
end
section
namespace Go.V
open Go Go.RowKit
set_option linter.unusedVariables false
set_option linter.unusedSimpArgs false
theorem look_map {α β : Type} (f : α → β) : ∀ (l : List (Nat × α)) (n : Nat), look (l.map fun p => (p.1, f p.2)) n = (look l n).map f
 | [], n => rfl
 | (k, v) :: l, n => by
  simp only [List.map_cons, look_cons, look_map f l n]
  split <;> rfl
theorem St.find_cons (st : St) (b c : Nat) (blk : Blk) : (st.lay b (blk)).find c = if c = b then some blk else st.find c := upd_eq _ _ _ _
theorem ownsRow_same {w w' : World} {base : Nat} {e : TypeId} {size : Nat} {v : Value} {n : Nat} {xs : List Value} (h : w.ownsRow base e size v n xs)
  (hs : ∀ r, blockOf v = some r → w'.heap[r]? = w.heap[r]?) : w'.ownsRow base e size v n xs := by
 refine ⟨h.1, ?_⟩
 rcases h.2 with hn | ⟨g, cap, cur, rfl, hb, hg, rest⟩
 ·exact .inl hn
 ·exact .inr ⟨g, cap, cur, rfl, hb, (hs g rfl).trans hg, rest⟩
theorem ownsAt_same {w w' : World} {e : TypeId} {size : Nat} {v : Value} {n : Nat} {xs : List Value} (h : ownsAt w e size v n xs)
  (hs : ∀ r, blockOf v = some r → w'.heap[r]? = w.heap[r]?) : ownsAt w' e size v n xs := by
 refine ⟨h.1, ?_⟩
 rcases h.2 with hn | ⟨g, off, cap, cur, rfl, hg, rest⟩
 ·exact .inl hn
 ·exact .inr ⟨g, off, cap, cur, rfl, (hs g rfl).trans hg, rest⟩
theorem RB.ren {σ : Nat → Option Nat} {c c' : Cx} (g : Goes σ c c') {b b' : Nat} {blk : Blk} (hh : c'.hd b' = c.hd b) (hs : ∀ r, blockOf (c.hd b) = some r → c'.w.heap[r]? = c.w.heap[r]?)
  (h : RB c b blk) : RB c' b' (blk.ren σ) := by
 cases blk with
 | flat e t l =>
  obtain ⟨xs, ho, hE⟩ := h
  exact ⟨xs, by rw [hh]; exact ownsRow_same ho hs, hE.move g.move⟩
 | frz e t l =>
  obtain ⟨xs, ho, hE⟩ := h
  exact ⟨xs, by rw [hh]; exact ownsRow_same ho hs, hE.move g.move⟩
 | que e t l =>
  obtain ⟨xs, ho, hE⟩ := h
  exact ⟨xs, by rw [hh]; exact ownsAt_same ho hs, hE.move g.move⟩
 | cells cs =>
  obtain ⟨r, vs, e, hr, hg, ha⟩ := h
  exact ⟨r, vs, e, hh.trans hr, (hs r (by rw [hr]; rfl)).trans hg, All2.renL (fun _ _ h => R1.ren g h) ha⟩
 | mp k v m =>
  obtain ⟨r, es, cl, hr, hg, he⟩ := h
  exact ⟨r, es, cl, hh.trans hr, (hs r (by rw [hr]; rfl)).trans hg, he⟩
 | fmp k v m =>
  obtain ⟨r, es, cl, hr, hg, he⟩ := h
  exact ⟨r, es, cl, hh.trans hr, (hs r (by rw [hr]; rfl)).trans hg, he⟩
theorem Blk.ren_shape (σ : Nat → Option Nat) (b : Blk) : (b.ren σ).shape = b.shape := by
 cases b <;> simp [Blk.ren, Blk.shape, AV.renL_length]
theorem Blk.ren_live (σ : Nat → Option Nat) (b : Blk) : (b.ren σ).live = b.live := by cases b <;> rfl
theorem Blk.ren_some (b : Blk) : b.ren some = b := by cases b <;> simp [Blk.ren, AV.renL_some]
section
variable {w0 : World} {M : Mo} {X X' : Nat → Prop} {hd hd' : Nat → Value} {st st' : St} {a : Act} {w w' : World}
theorem Rel.turnX (h : Rel w0 M X hd st a w) (σ : Nat → Option Nat) (hn : st'.n = st.n) (ht : ∀ t, st'.get t = (st.get t).ren σ ∨ st'.get t = .undef)
  (g : Goes σ (st.cx X hd w) (st'.cx X' hd' w')) (fr : Frame0 w w' (Mine st.find hd))
  (hb : ∀ c blk', st'.find c = some blk' → (∃ c0 blk, st.find c0 = some blk ∧ blk' = blk.ren σ ∧ hd' c = hd c0 ∧ ∀ r, blockOf (hd c0) = some r → w'.heap[r]? = w.heap[r]?) ∨ RB (st'.cx X' hd' w') c blk')
  (hi : ∀ b b' blk blk' r, st'.find b = some blk → st'.find b' = some blk' → blockOf (hd' b) = some r → blockOf (hd' b') = some r → b = b')
  (hm : ∀ r, Held st'.find hd' r → Held st.find hd r ∨ w.heap.size ≤ r) (hp : ∀ i, i < M.np → hd' i = hd i ∧ ∃ blk, st'.find i = some blk) (hx : ∀ r, X' r → r < w'.heap.size ∧ ¬ Held st'.find hd' r) : Rel w0 M X' hd' st' a w' := by
 refine ⟨h.size.trans hn.symm, h.defers, ?_, ?_, hi, ?_, ?_, fun i hi => ⟨(hp i hi).1.trans (h.pins i hi).1, (hp i hi).2⟩, hx⟩
 ·intro t
  rcases ht t with e | e
  ·rw [e]; exact Rt.ren g (h.tmps t)
  ·rw [e]; exact True.intro
 ·intro c blk' hf
  rcases hb c blk' hf with ⟨c0, blk, h0, rfl, hh, hs⟩ | hr
  ·exact RB.ren g (c := st.cx X hd w) (c' := st'.cx X' hd' w') hh hs (h.blocks c0 blk h0)
  ·exact hr
 ·refine h.frame.trans fr fun r hr hmine => ?_
  rcases h.mine r hmine.held with hM | hge
  ·exact hM
  ·omega
 ·intro r hr
  rcases hm r hr with h1 | h1
  ·exact h.mine r h1
  ·exact .inr (Nat.le_trans h.frame.size h1)
theorem Rel.turn (h : Rel w0 M X hd st a w) (σ : Nat → Option Nat) (hn : st'.n = st.n) (ht : ∀ t, st'.get t = (st.get t).ren σ ∨ st'.get t = .undef)
  (g : Goes σ (st.cx X hd w) (st'.cx X hd' w')) (fr : Frame0 w w' (Mine st.find hd))
  (hb : ∀ c blk', st'.find c = some blk' → (∃ c0 blk, st.find c0 = some blk ∧ blk' = blk.ren σ ∧ hd' c = hd c0 ∧ ∀ r, blockOf (hd c0) = some r → w'.heap[r]? = w.heap[r]?) ∨ RB (st'.cx X hd' w') c blk')
  (hi : ∀ b b' blk blk' r, st'.find b = some blk → st'.find b' = some blk' → blockOf (hd' b) = some r → blockOf (hd' b') = some r → b = b')
  (hm : ∀ r, Held st'.find hd' r → Held st.find hd r ∨ w.heap.size ≤ r) (hp : ∀ i, i < M.np → hd' i = hd i ∧ ∃ blk, st'.find i = some blk) : Rel w0 M X hd' st' a w' :=
 h.turnX σ hn ht g fr hb hi hm hp fun r hr => by
  obtain ⟨h1, h2⟩ := h.xfar r hr
  refine ⟨Nat.lt_of_lt_of_le h1 fr.size, fun hh => ?_⟩
  rcases hm r hh with h3 | h3
  ·exact h2 h3
  ·omega
theorem RB.lt {c : Cx} {b : Nat} {blk : Blk} {r : Nat} (h : RB c b blk) (hr : blockOf (c.hd b) = some r) : r < c.w.heap.size := by
 have key : ∀ {e : TypeId} {size : Nat} {n : Nat} {xs : List Value}, c.w.ownsRow 0 e size (c.hd b) n xs → r < c.w.heap.size := by
  intro e size n xs ho
  rcases ho.2 with ⟨hn, _⟩ | ⟨g, cap, cur, hv, _, hg, _⟩
  ·rw [hn] at hr; cases hr
  ·rw [hv] at hr
   have : g = r := by simpa [blockOf] using hr
   subst this
   exact (Array.getElem?_eq_some_iff.1 hg).1
 cases blk with
 | flat e t l => obtain ⟨xs, ho, _⟩ := h; exact key ho
 | frz e t l => obtain ⟨xs, ho, _⟩ := h; exact key ho
 | que e t l =>
  obtain ⟨xs, ho, _⟩ := h
  rcases ho.2 with ⟨hn, _⟩ | ⟨g, off, cap, cur, hv, hg, _⟩
  ·rw [hn] at hr; cases hr
  ·rw [hv] at hr
   have : g = r := by simpa [blockOf] using hr
   subst this
   exact (Array.getElem?_eq_some_iff.1 hg).1
 | cells cs =>
  obtain ⟨r', vs, e, hr', hg, _⟩ := h
  rw [hr'] at hr
  have : r' = r := by simpa [blockOf] using hr
  subst this
  exact (Array.getElem?_eq_some_iff.1 hg).1
 | mp k v m =>
  obtain ⟨r', es, cl, hr', hg, _⟩ := h
  rw [hr'] at hr
  have : r' = r := by simpa [blockOf] using hr
  subst this
  exact (Array.getElem?_eq_some_iff.1 hg).1
 | fmp k v m =>
  obtain ⟨r', es, cl, hr', hg, _⟩ := h
  rw [hr'] at hr
  have : r' = r := by simpa [blockOf] using hr
  subst this
  exact (Array.getElem?_eq_some_iff.1 hg).1
theorem Rel.lt (h : Rel w0 M X hd st a w) {b : Nat} {blk : Blk} {r : Nat} (hf : st.find b = some blk) (hr : blockOf (hd b) = some r) : r < w.heap.size :=
 RB.lt (c := st.cx X hd w) (h.blocks b blk hf) hr
theorem Rel.mine_lt (h : Rel w0 M X hd st a w) {r : Nat} (hr : Mine st.find hd r) : r < w.heap.size := by
 obtain ⟨b, blk, hf, _, hb⟩ := hr
 exact h.lt hf hb
theorem Rel.sameHeap (h : Rel w0 M X hd st a w) (hheap : w'.heap = w.heap) (ho : w'.os = w.os) (ht : w'.tape = w.tape) (hu : w'.output = w.output) : Rel w0 M X hd st a w' := by
 refine h.turn some rfl (fun t => .inl (AV.ren_some _).symm) ⟨?_, ?_⟩ ⟨ho, ht, hu, by rw [hheap]; exact Nat.le_refl _, fun k _ _ => by rw [hheap]⟩ ?_ h.inj (fun r hr => .inl hr) (fun i hi => ⟨rfl, (h.pins i hi).2⟩)
 ·intro r o hn hc
  exact ⟨hn, by show w'.heap[r]? = some o; rw [hheap]; exact hc⟩
 ·intro b b' blk hb hf
  cases hb
  exact ⟨blk, hf, rfl, rfl⟩
 ·intro c blk hf
  exact .inl ⟨c, blk, hf, (Blk.ren_some blk).symm, rfl, fun r _ => by rw [hheap]⟩
theorem Rel.fresh (h : Rel w0 M X hd st a w) {b : Nat} {blk : Blk} {v : Value} (hf : st.find b = none) (ho : w'.os = w.os) (ht : w'.tape = w.tape) (hu : w'.output = w.output)
  (hs : w.heap.size ≤ w'.heap.size) (hk : ∀ k, k < w.heap.size → w'.heap[k]? = w.heap[k]?) (hnew : ∀ r, blockOf v = some r → w.heap.size ≤ r)
  (hb : Goes some (st.cx X hd w) ((st.lay b (blk)).cx X (fun c => if c = b then v else hd c) w') →
   RB ((st.lay b (blk)).cx X (fun c => if c = b then v else hd c) w') b blk) :
  Rel w0 M X (fun c => if c = b then v else hd c) (st.lay b (blk)) a w' := by
 have hne : ∀ c blk, st.find c = some blk → c ≠ b := fun c blk hc e => by rw [e, hf] at hc; cases hc
 have hmine : ∀ r, Mine (st.lay b (blk)).find (fun c => if c = b then v else hd c) r → Mine st.find hd r ∨ w.heap.size ≤ r := by
  rintro r ⟨c, blk', hc, hl, hr⟩
  rw [St.find_cons] at hc
  by_cases e : c = b
  ·simp only [e, if_true] at hr
   exact .inr (hnew r hr)
  ·simp only [if_neg e] at hc hr
   exact .inl ⟨c, blk', hc, hl, hr⟩
 have hheld : ∀ r, Held (st.lay b (blk)).find (fun c => if c = b then v else hd c) r → Held st.find hd r ∨ w.heap.size ≤ r := by
  rintro r ⟨c, blk', hc, hr⟩
  rw [St.find_cons] at hc
  by_cases e : c = b
  ·simp only [e, if_true] at hr
   exact .inr (hnew r hr)
  ·simp only [if_neg e] at hc hr
   exact .inl ⟨c, blk', hc, hr⟩
 have g : Goes some (st.cx X hd w) ((st.lay b (blk)).cx X (fun c => if c = b then v else hd c) w') := by
  refine ⟨?_, ?_⟩
  ·intro r o hn hc
   have hlt : r < w.heap.size := (Array.getElem?_eq_some_iff.1 hc).1
   refine ⟨fun hN => ?_, ?_⟩
   ·rcases hN with hx | hm
    ·exact hn (.inl hx)
    ·rcases hmine _ hm with h1 | h1
     ·exact hn (.inr h1)
     ·omega
   ·exact (hk _ hlt).trans hc
  ·intro c c' blk' hc hf'
   cases hc
   have := hne c blk' hf'
   refine ⟨blk', ?_, rfl, ?_⟩
   ·show St.find (St.lay _ _ _) _ = _
    rw [St.find_cons, if_neg this]; exact hf'
   ·show (if c = b then v else hd c) = hd c
    rw [if_neg this]
 refine h.turn some rfl (fun t => .inl (AV.ren_some _).symm) g ⟨ho, ht, hu, hs, fun k hk' _ => hk k hk'⟩ ?_ ?_ hheld (fun i hi => by
  obtain ⟨_, blk', hi'⟩ := h.pins i hi
  have := hne i blk' hi'
  exact ⟨by simp [this], blk', by rw [St.find_cons, if_neg this]; exact hi'⟩)
 ·intro c blk' hc
  rw [St.find_cons] at hc
  by_cases e : c = b
  ·simp only [e, if_true] at hc
   cases hc
   subst e
   exact .inr (hb g)
  ·rw [if_neg e] at hc
   refine .inl ⟨c, blk', hc, (Blk.ren_some _).symm, by simp [e], fun r hr => hk r (h.lt hc hr)⟩
 ·intro c c' blk1 blk2 r h1 h2 hr1 hr2
  rw [St.find_cons] at h1 h2
  by_cases e1 : c = b <;> by_cases e2 : c' = b
  ·rw [e1, e2]
  ·simp only [e1, if_true] at hr1
   simp only [if_neg e2] at h2 hr2
   have := h.lt h2 hr2
   have := hnew r hr1
   omega
  ·simp only [e2, if_true] at hr2
   simp only [if_neg e1] at h1 hr1
   have := h.lt h1 hr1
   have := hnew r hr2
   omega
  ·simp only [if_neg e1] at h1 hr1
   simp only [if_neg e2] at h2 hr2
   exact h.inj c c' blk1 blk2 r h1 h2 hr1 hr2
theorem Rel.write (h : Rel w0 M X hd st a w) {b : Nat} {blk blk' : Blk} (hf : st.find b = some blk) (hl : blk.live = true) (hsh : blk'.shape = blk.shape) (ho : w'.os = w.os) (ht : w'.tape = w.tape) (hu : w'.output = w.output)
  (hs : w'.heap.size = w.heap.size) (hk : ∀ k, blockOf (hd b) ≠ some k → w'.heap[k]? = w.heap[k]?)
  (hb : ∀ g : Goes some (st.cx X hd w) ((st.lay b (blk')).cx X hd w'), RB ((st.lay b (blk')).cx X hd w') b blk') :
  Rel w0 M X hd (st.lay b (blk')) a w' := by
 have hmine : ∀ r, Mine (st.lay b (blk')).find hd r → Mine st.find hd r := by
  rintro r ⟨c, blk1, hc, hl1, hr⟩
  rw [St.find_cons] at hc
  by_cases e : c = b
  ·subst e; exact ⟨c, blk, hf, hl, hr⟩
  ·rw [if_neg e] at hc; exact ⟨c, blk1, hc, hl1, hr⟩
 have hheld : ∀ r, Held (st.lay b (blk')).find hd r → Held st.find hd r := by
  rintro r ⟨c, blk1, hc, hr⟩
  rw [St.find_cons] at hc
  by_cases e : c = b
  ·subst e; exact ⟨c, _, hf, hr⟩
  ·rw [if_neg e] at hc; exact ⟨c, blk1, hc, hr⟩
 have g : Goes some (st.cx X hd w) ((st.lay b (blk')).cx X hd w') := by
  refine ⟨?_, ?_⟩
  ·intro r o hn hc
   exact ⟨fun hN => hn (hN.imp id (hmine _)), (hk _ fun e => hn (.inr ⟨b, blk, hf, hl, e⟩)).trans hc⟩
  ·intro c c' blk1 hc hf'
   cases hc
   by_cases e : c = b
   ·subst e
    rw [show st.find c = _ from hf'] at hf
    cases hf
    exact ⟨blk', by show St.find (St.lay _ _ _) _ = _; rw [St.find_cons, if_pos rfl], hsh, rfl⟩
   ·exact ⟨blk1, by show St.find (St.lay _ _ _) _ = _; rw [St.find_cons, if_neg e]; exact hf', rfl, rfl⟩
 refine h.turn some rfl (fun t => .inl (AV.ren_some _).symm) g ⟨ho, ht, hu, by rw [hs]; exact Nat.le_refl _, fun k _ hn => hk k fun e => hn ⟨b, blk, hf, hl, e⟩⟩ ?_ ?_ (fun r hr => .inl (hheld r hr)) (fun i hi => by
  obtain ⟨_, blk1, hi'⟩ := h.pins i hi
  refine ⟨rfl, ?_⟩
  rw [St.find_cons]
  split
  ·exact ⟨_, rfl⟩
  ·exact ⟨blk1, hi'⟩)
 ·intro c blk1 hc
  rw [St.find_cons] at hc
  by_cases e : c = b
  ·subst e
   rw [if_pos rfl] at hc
   cases hc
   exact .inr (hb g)
  ·rw [if_neg e] at hc
   exact .inl ⟨c, blk1, hc, (Blk.ren_some _).symm, rfl, fun r hr => hk r fun e' => e (h.inj c b blk1 blk r hc hf hr e')⟩
 ·intro c c' blk1 blk2 r h1 h2 hr1 hr2
  rw [St.find_cons] at h1 h2
  have q : ∀ c blk1, (if c = b then some blk' else st.find c) = some blk1 → ∃ blk2, st.find c = some blk2 := by
   intro c blk1 h
   by_cases e : c = b
   ·subst e; exact ⟨blk, hf⟩
   ·rw [if_neg e] at h; exact ⟨blk1, h⟩
  obtain ⟨b1, q1⟩ := q c blk1 h1
  obtain ⟨b2, q2⟩ := q c' blk2 h2
  exact h.inj c c' b1 b2 r q1 q2 hr1 hr2
theorem Rel.freezeG (h : Rel w0 M X hd st a w) {b : Nat} {blk0 blk' : Blk} (hf : st.find b = some blk0) (hnl : blk'.live = false) (hsh : blk'.shape = blk0.shape) (hren : blk'.ren some = blk')
  (hrb : RB (st.cx X hd w) b blk0 → RB (st.cx X hd w) b blk') :
  Rel w0 M X hd (st.lay b blk') a w := by
 have hmine : ∀ r, Mine (st.lay b blk').find hd r → Mine st.find hd r := by
  rintro r ⟨c, blk1, hc, hl1, hr⟩
  rw [St.find_cons] at hc
  by_cases e : c = b
  ·rw [if_pos e] at hc; cases hc; rw [hnl] at hl1; cases hl1
  ·rw [if_neg e] at hc; exact ⟨c, blk1, hc, hl1, hr⟩
 have hheld : ∀ r, Held (st.lay b blk').find hd r → Held st.find hd r := by
  rintro r ⟨c, blk1, hc, hr⟩
  rw [St.find_cons] at hc
  by_cases e : c = b
  ·subst e; exact ⟨c, _, hf, hr⟩
  ·rw [if_neg e] at hc; exact ⟨c, blk1, hc, hr⟩
 have g : Goes some (st.cx X hd w) ((st.lay b blk').cx X hd w) := by
  refine ⟨?_, ?_⟩
  ·intro a v' hn hc
   exact ⟨fun hN => hn (hN.imp id (hmine _)), hc⟩
  ·intro c c' blk1 hc hf'
   cases hc
   by_cases e : c = b
   ·subst e
    rw [show st.find c = _ from hf'] at hf
    cases hf
    exact ⟨blk', by show St.find (St.lay _ _ _) _ = _; rw [St.find_cons, if_pos rfl], hsh, rfl⟩
   ·exact ⟨blk1, by show St.find (St.lay _ _ _) _ = _; rw [St.find_cons, if_neg e]; exact hf', rfl, rfl⟩
 refine h.turn some rfl (fun t => .inl (AV.ren_some _).symm) g (Frame0.refl _ _) ?_ ?_ (fun r hr => .inl (hheld r hr)) (fun i hi => by
  obtain ⟨_, blk1, hi'⟩ := h.pins i hi
  refine ⟨rfl, ?_⟩
  rw [St.find_cons]
  split
  ·exact ⟨_, rfl⟩
  ·exact ⟨blk1, hi'⟩)
 ·intro c blk1 hc
  rw [St.find_cons] at hc
  by_cases e : c = b
  ·subst e
   rw [if_pos rfl] at hc
   cases hc
   have hq := RB.ren g (c := st.cx X hd w) (b := c) (b' := c) rfl (fun _ _ => rfl) (hrb (h.blocks c blk0 hf))
   rw [hren] at hq
   exact .inr hq
  ·rw [if_neg e] at hc
   exact .inl ⟨c, blk1, hc, (Blk.ren_some _).symm, rfl, fun r hr => rfl⟩
 ·intro c c' blk1 blk2 r h1 h2 hr1 hr2
  rw [St.find_cons] at h1 h2
  have q : ∀ c blk1, (if c = b then some blk' else st.find c) = some blk1 → ∃ blk2, st.find c = some blk2 := by
   intro c blk1 h
   by_cases e : c = b
   ·subst e; exact ⟨_, hf⟩
   ·rw [if_neg e] at h; exact ⟨blk1, h⟩
  obtain ⟨b1, q1⟩ := q c blk1 h1
  obtain ⟨b2, q2⟩ := q c' blk2 h2
  exact h.inj c c' b1 b2 r q1 q2 hr1 hr2
theorem Rel.freeze (h : Rel w0 M X hd st a w) {b : Nat} {e : TypeId} {t : Ty} {l : List t.den} (hf : st.find b = some (.flat e t l)) :
  Rel w0 M X hd (st.lay b (.frz e t l)) a w := h.freezeG hf rfl rfl rfl (fun h => h)
theorem Rel.freezeM (h : Rel w0 M X hd st a w) {b : Nat} {kt vt : Ty} {l : List (kt.den × vt.den)} (hf : st.find b = some (.mp kt vt l)) :
  Rel w0 M X hd (st.lay b (.fmp kt vt l)) a w := h.freezeG hf rfl rfl rfl (fun h => h)
theorem killer_some {b c d : Nat} (h : killer b c = some d) : c = d ∧ c ≠ b := by
 unfold killer at h
 split at h
 ·cases h
 ·rename_i hb
  refine ⟨by simpa using h, fun e => ?_⟩
  subst e
  simp at hb
theorem killer_ne {b c : Nat} (h : c ≠ b) : killer b c = some c := by
 unfold killer
 have : Nat.beq c b = false := by rw [Bool.eq_false_iff]; intro hh; exact h (Nat.eq_of_beq_eq_true hh)
 rw [this]
theorem St.killed_get (st : St) (b t : Nat) : (st.killed b).get t = (st.get t).ren (killer b) := rfl
theorem St.killed_find (st : St) (b c : Nat) : (st.killed b).find c = (st.find c).map (Blk.ren (killer b)) := rfl
theorem Rel.renew (h : Rel w0 M X hd st a w) {b : Nat} {blk blk' : Blk} {v : Value} (hf : st.find b = some blk) (hl : blk.live = true) (hnp : M.np ≤ b) (ho : w'.os = w.os) (ht : w'.tape = w.tape) (hu : w'.output = w.output)
  (hs : w.heap.size ≤ w'.heap.size) (hk : ∀ k, k < w.heap.size → blockOf (hd b) ≠ some k → w'.heap[k]? = w.heap[k]?) (hnew : ∀ r, blockOf v = some r → blockOf (hd b) = some r ∨ w.heap.size ≤ r)
  (hb : Goes (killer b) (st.cx X hd w) (((st.killed b).lay b (blk')).cx X (fun c => if c = b then v else hd c) w') →
   RB (((st.killed b).lay b (blk')).cx X (fun c => if c = b then v else hd c) w') b blk') :
  Rel w0 M X (fun c => if c = b then v else hd c) ((st.killed b).lay b (blk')) a w' := by
 have hfind : ∀ c, ((st.killed b).lay b (blk')).find c = if c = b then some blk' else (st.find c).map (Blk.ren (killer b)) := by
  intro c
  rw [St.find_cons (st.killed b) b c blk', St.killed_find]
 have hmine : ∀ r, Mine ((st.killed b).lay b (blk')).find (fun c => if c = b then v else hd c) r → Mine st.find hd r ∨ w.heap.size ≤ r := by
  rintro r ⟨c, blk1, hc, hl1, hr⟩
  rw [hfind] at hc
  by_cases e : c = b
  ·simp only [e, if_true] at hr
   rcases hnew r hr with h1 | h1
   ·exact .inl ⟨b, blk, hf, hl, h1⟩
   ·exact .inr h1
  ·simp only [if_neg e] at hc hr
   cases hc0 : st.find c with
   | none => rw [hc0] at hc; cases hc
   | some blk0 =>
    rw [hc0] at hc
    cases hc
    exact .inl ⟨c, blk0, hc0, by rw [Blk.ren_live] at hl1; exact hl1, hr⟩
 have g : Goes (killer b) (st.cx X hd w) (((st.killed b).lay b (blk')).cx X (fun c => if c = b then v else hd c) w') := by
  refine ⟨?_, ?_⟩
  ·intro r o hn hc
   have hlt : r < w.heap.size := (Array.getElem?_eq_some_iff.1 hc).1
   refine ⟨fun hN => ?_, ?_⟩
   ·rcases hN with hx | hm
    ·exact hn (.inl hx)
    ·rcases hmine _ hm with h1 | h1
     ·exact hn (.inr h1)
     ·omega
   ·exact (hk _ hlt fun e => hn (.inr ⟨b, blk, hf, hl, e⟩)).trans hc
  ·intro c c' blk1 hc hf'
   obtain ⟨rfl, hne⟩ := killer_some hc
   refine ⟨blk1.ren (killer b), ?_, Blk.ren_shape _ _, ?_⟩
   ·show St.find (St.lay _ _ _) _ = _
    rw [hfind, if_neg hne, show st.find c = _ from hf']; rfl
   ·show (if c = b then v else hd c) = hd c
    rw [if_neg hne]
 have hheld : ∀ r, Held ((st.killed b).lay b (blk')).find (fun c => if c = b then v else hd c) r → Held st.find hd r ∨ w.heap.size ≤ r := by
  rintro r ⟨c, blk1, hc, hr⟩
  rw [hfind] at hc
  by_cases e : c = b
  ·simp only [e, if_true] at hr
   rcases hnew r hr with h1 | h1
   ·exact .inl ⟨b, blk, hf, h1⟩
   ·exact .inr h1
  ·simp only [if_neg e] at hc hr
   cases hc0 : st.find c with
   | none => rw [hc0] at hc; cases hc
   | some blk0 => exact .inl ⟨c, blk0, hc0, hr⟩
 refine h.turn (killer b) rfl (fun t => .inl (St.killed_get st b t)) g ⟨ho, ht, hu, hs, fun k hk' hn => hk k hk' fun e => hn ⟨b, blk, hf, hl, e⟩⟩ ?_ ?_ hheld (fun i hi => by
  obtain ⟨_, blk1, hi'⟩ := h.pins i hi
  have hib : i ≠ b := by omega
  exact ⟨by simp [hib], blk1.ren (killer b), by rw [hfind, if_neg hib, hi']; rfl⟩)
 ·intro c blk1 hc
  rw [hfind] at hc
  by_cases e : c = b
  ·subst e
   rw [if_pos rfl] at hc
   cases hc
   exact .inr (hb g)
  ·rw [if_neg e] at hc
   cases hc0 : st.find c with
   | none => rw [hc0] at hc; cases hc
   | some blk0 =>
    rw [hc0] at hc
    cases hc
    exact .inl ⟨c, blk0, hc0, rfl, by simp [e], fun r hr => hk r (h.lt hc0 hr) fun e' => e (h.inj c b blk0 blk r hc0 hf hr e')⟩
 ·intro c c' blk1 blk2 r h1 h2 hr1 hr2
  rw [hfind] at h1 h2
  have q : ∀ c blk1, c ≠ b → (if c = b then some blk' else (st.find c).map (Blk.ren (killer b))) = some blk1 → ∃ blk2, st.find c = some blk2 := by
   intro c blk1 e h
   rw [if_neg e] at h
   cases hc0 : st.find c with
   | none => rw [hc0] at h; cases h
   | some blk0 => exact ⟨blk0, rfl⟩
  by_cases e1 : c = b <;> by_cases e2 : c' = b
  ·rw [e1, e2]
  ·obtain ⟨q2, hq2⟩ := q c' blk2 e2 h2
   simp only [e1, if_true] at hr1
   simp only [if_neg e2] at hr2
   rcases hnew r hr1 with h3 | h3
   ·exact e1.trans (h.inj b c' blk q2 r hf hq2 h3 hr2)
   ·have := h.lt hq2 hr2; omega
  ·obtain ⟨q1, hq1⟩ := q c blk1 e1 h1
   simp only [e2, if_true] at hr2
   simp only [if_neg e1] at hr1
   rcases hnew r hr2 with h3 | h3
   ·exact (h.inj c b q1 blk r hq1 hf hr1 h3).trans e2.symm
   ·have := h.lt hq1 hr1; omega
  ·obtain ⟨q1, hq1⟩ := q c blk1 e1 h1
   obtain ⟨q2, hq2⟩ := q c' blk2 e2 h2
   simp only [if_neg e1] at hr1
   simp only [if_neg e2] at hr2
   exact h.inj c c' q1 q2 r hq1 hq2 hr1 hr2
end
end Go.V
end
section
namespace Go.V
open Go Go.RowKit
set_option linter.unusedVariables false
set_option linter.unusedSimpArgs false
def TbOK (P : Program) (tb : TypeId → Option TI) : Prop := ∀ t i, tb t = some i → entryOf P t = some i
structure Entry (P : Program) (t : TypeId) (i : TI) where
 d : TypeDesc
 inf : TypeInfo
 z : Value
 hu : P.underlying t = some d
 hi : P.info? t = some inf
 hz : inf.zero = some z
 htk : i.tk = tkOf P t d
 hsize : i.size = inf.size
 hbytes : i.bytes = inf.bytes
 hzero : i.zero = z.cells.toList
 hone : (aggTK i.tk || z.oneCell') = true
theorem TbOK.entry {P : Program} {tb : TypeId → Option TI} (h : TbOK P tb) {t : TypeId} {i : TI} (hi : tb t = some i) : Nonempty (Entry P t i) := by
 have := h t i hi
 unfold entryOf at this
 split at this
 ·rename_i d hd
  split at this
  ·rename_i inf hinf
   split at this
   ·rename_i z hz
    split at this
    ·rename_i hone
     cases this
     exact ⟨⟨d, inf, z, hd, hinf, hz, rfl, rfl, rfl, rfl, hone⟩⟩
    ·cases this
   ·cases this
  ·cases this
 ·cases this
theorem wrapV_eq (k : IntKind) (n : Int) : wrapV k n = k.wrap n := by cases k <;> first | rfl | exact (IntWalk.i64_left n).symm
section
variable {P : Program} {E : En} {R : Type} {w0 : World} {M : Mo} {X : Nat → Prop} {hd : Nat → Value} {st : St} {a : Act} {w : World}
def Next (w0 : World) (M : Mo) (X : Nat → Prop) (k : St → Option R) (r : R) (K : Act → World → Prop) : Prop :=
 ∀ st hd a w, Rel w0 M X hd st a w → k st = some r → K a w
theorem put_ok {k : St → Option R} {r : R} {K : Act → World → Prop} {dst : Option Tmp} {v : AV} {x : Value} (h : Rel w0 M X hd st a w) (hx : Rt (st.cx X hd w) v x)
  (hk : Next w0 M X k r K) (hr : st.put dst v k = some r) : K (a.put dst x) w := by
 cases dst with
 | none => exact hk _ _ _ _ h hr
 | some d =>
  unfold St.put at hr
  simp only at hr
  split at hr
  ·rename_i hlt
   exact hk _ _ _ _ (h.put (by simpa [Nat.blt_eq] using hlt) hx) hr
  ·cases hr
theorem All2.map {α β γ : Type} {R : β → γ → Prop} (f : α → β) (g : α → γ) : ∀ l : List α, (∀ x ∈ l, R (f x) (g x)) → All2 R (l.map f) (l.map g)
 | [], _ => trivial
 | x :: l, h => ⟨h x (by simp), All2.map f g l fun y hy => h y (by simp [hy])⟩
theorem const1_ok {c : Cx} (v : Value) : R1 c (constAV v) v := by
 cases v with
 | int k n => exact (rfl : [Value.int k n] = [Value.int k n])
 | bool b => exact (rfl : [Value.bool b] = [Value.bool b])
 | string s => exact (rfl : [Value.string s] = [Value.string s])
 | slice a n c =>
  cases a with
  | some a => exact True.intro
  | none => cases n with
   | succ n => exact True.intro
   | zero => cases c with
    | zero => exact rfl
    | succ c => exact True.intro
 | pointer a =>
  cases a with
  | none => exact rfl
  | some a => exact True.intro
 | _ => exact True.intro
theorem constL_ok {c : Cx} : ∀ l : List Value, All2 (R1 c) (l.map constAV) l
 | [] => trivial
 | v :: l => ⟨const1_ok v, constL_ok l⟩
theorem ev_ok (h : Rel w0 M X hd st a w) (x : Operand) : Rt (st.cx X hd w) (st.ev x) (a.eval x) := by
 cases x with
 | tmp t => exact h.tmps t
 | const v =>
  have key : v.cells = v.cells → Rt (st.cx X hd w) (constAV v) v := fun _ => Rt.of1 (const1_ok v)
  cases v with
  | agg cs => exact ⟨cs.toList, rfl, constL_ok _⟩
  | _ => exact key rfl
 | func f =>
  show Rt _ (match Nat.ble bfst f with | true => AV.undef | false => AV.clo f []) _
  cases hb : Nat.ble bfst f with
  | true => exact True.intro
  | false => exact Rt.of1 ⟨[], by rw [cloV_low hb]; rfl, trivial⟩
 | global g => exact True.intro
theorem wp_value {o : Oper} {K : Act → World → Prop} {Q : Exit → Act → World → Prop} {v : Value} {w' : World} (h : (execOp a.eval o).run P w = .ok (.value v) w') (hk : K (a.put o.dst v) w') : o.wp P a w K Q := by
 unfold Oper.wp; rw [h]; exact hk
theorem wp_skip' {o : Oper} {K : Act → World → Prop} {Q : Exit → Act → World → Prop} {w' : World} (h : (execOp a.eval o).run P w = .ok .skip w') (hk : K (a.put o.dst undef) w') : o.wp P a w K Q := by
 unfold Oper.wp; rw [h]; exact hk
theorem fork_ok {k : Bool → Option R} {r : R} {v : AV} {x : Value} {c : Cx} (hx : Rt c v x) (h : forkB v k = some r) : ∃ b, x = .bool b ∧ k b = some r := by
 cases v with
 | dat t y =>
  cases t <;> try (cases h; done)
  have hx : [x] = [Value.bool y] := hx
  have h : forkB1 y k = some r := h
  refine ⟨y, by simpa using hx, ?_⟩
  unfold forkB1 at h
  cases y <;> simpa using h
 | test pos p i =>
  have hx : x = .bool (pos == @decide p i) := hx
  cases pos
  ·have h : @ite _ p i (k false) (k true) = some r := h
   split at h
   ·rename_i hp; exact ⟨false, by rw [hx, decide_eq_true hp]; rfl, h⟩
   ·rename_i hp; exact ⟨true, by rw [hx, decide_eq_false hp]; rfl, h⟩
  ·have h : @ite _ p i (k true) (k false) = some r := h
   split at h
   ·rename_i hp; exact ⟨true, by rw [hx, decide_eq_true hp]; rfl, h⟩
   ·rename_i hp; exact ⟨false, by rw [hx, decide_eq_false hp]; rfl, h⟩
 | _ => cases h
theorem R1.one {c : Cx} {v : AV} {x : Value} (h : R1 c v x) (hv : v.known = true) : x.oneCell' = true := by
 cases v with
 | undef => cases hv
 | dat t y => exact Rc.oneCell (show Rc c.w c.N t y [x] from h) x (by simp)
 | test pos p i => rw [show x = _ from h]; rfl
 | own b => exact h.2.1
 | om b => exact h.2.1
 | pnil => rw [show x = _ from h]; rfl
 | dne t => obtain ⟨_, _, rfl⟩ := h; rfl
 | nil => rw [show x = _ from h]; rfl
 | gone => cases hv
 | box b i => obtain ⟨_, _, _, _, _, _, _, rfl⟩ := h; rfl
 | ep b i => obtain ⟨_, _, _, _, _, _, _, _, _, _, _, _, rfl⟩ := h; rfl
 | dp t y => exact Rc.oneCell (show Rc c.w c.N (.ptr t) y [x] from h) x (by simp)
 | clo f caps => obtain ⟨vs, rfl, _⟩ := h; exact cloV_one _ _
 | agg cs => exact h.elim
 | tup vs => exact h.elim
theorem cells_one {x : Value} (h : x.oneCell' = true) : x.cells = #[x] := by cases x <;> first | rfl | cases h
theorem cellsOf_ok {c : Cx} {v : AV} {x : Value} {cs : List AV} (hx : Rt c v x) (h : cellsOf v = some cs) : ∃ vs, x.cells = List.toArray vs ∧ All2 (R1 c) cs vs := by
 have key : ∀ v, R1 c v x → v.known = true → ∃ vs, x.cells = List.toArray vs ∧ All2 (R1 c) [v] vs := fun v hv hne => ⟨[x], cells_one (hv.one hne), hv, trivial⟩
 cases v with
 | agg l =>
  obtain ⟨vs, rfl, ha⟩ := hx
  cases h
  exact ⟨vs, rfl, ha⟩
 | tup l => cases h
 | undef => cases h
 | gone => cases h
 | _ => cases h; exact key _ hx rfl
theorem All2.one1 {c : Cx} : ∀ {l : List AV} {m : List Value}, All2 (R1 c) l m → (∀ v ∈ l, v.known = true) → ∀ x ∈ m, x.oneCell' = true
 | [], [], _, _, x, hx => by cases hx
 | v :: l, y :: m, h, hu, x, hx => by
  rcases List.mem_cons.1 hx with rfl | hx
  ·exact h.1.one (hu v (by simp))
  ·exact All2.one1 h.2 (fun v hv => hu v (by simp [hv])) x hx
 | [], _ :: _, h, _, _, _ => h.elim
 | _ :: _, [], h, _, _, _ => h.elim
variable {k : St → Option R} {r : R} {K : Act → World → Prop} {Q : Exit → Act → World → Prop} {o : Oper}
theorem move_ok {x : Operand} (ho : o.op = .move x ∨ o.op = .assign x) (h : Rel w0 M X hd st a w) (hk : Next w0 M X k r K) {v : AV} (hv : Rt (st.cx X hd w) v (a.eval x)) (hr : st.put o.dst v k = some r) : o.wp P a w K Q := by
 refine wp_value (v := a.eval x) (w' := w) ?_ (put_ok h hv hk hr)
 rcases ho with ho | ho <;> simp [execOp, ho]
theorem pick_ok {c x y : Operand} (ho : o.op = .pick c x y) (h : Rel w0 M X hd st a w) (hk : Next w0 M X k r K) {t : Bool} (hc : a.eval c = .bool t)
  (hr : st.put o.dst (st.ev (pickOf t x y)) k = some r) : o.wp P a w K Q := by
 cases t
 ·refine wp_value (v := a.eval y) (w' := w) ?_ (put_ok h (ev_ok h y) hk hr)
  simp [execOp, ho, hc, asBool]
 ·refine wp_value (v := a.eval x) (w' := w) ?_ (put_ok h (ev_ok h x) hk hr)
  simp [execOp, ho, hc, asBool]
theorem extract_ok {x : Operand} {i : Nat} (ho : o.op = .extract x i) (h : Rel w0 M X hd st a w) (hk : Next w0 M X k r K) (hr : opK E o st k = some r) : o.wp P a w K Q := by
 have hx := ev_ok h x
 simp only [opK, ho] at hr
 split at hr
 ·rename_i vs hvs
  rw [hvs] at hx
  obtain ⟨us, hu, ha⟩ := hx
  split at hr
  ·rename_i v hv
   obtain ⟨y, hy, hyr⟩ := ha.get hv
   refine wp_value (v := y) (w' := w) ?_ (put_ok h (Rt.ofa hyr) hk hr)
   simp [execOp, ho, hu, Instr.extract, hy]
  ·cases hr
 ·cases hr
theorem not_eq (y : Bool) : Bool.not y = (false == decide (y = true)) := by cases y <;> rfl
theorem un_ok {op : UnOp} {t : TypeId} {x : Operand} (ho : o.op = .unOp op t x) (h : Rel w0 M X hd st a w) (hk : Next w0 M X k r K) (hr : opK E o st k = some r) : o.wp P a w K Q := by
 have hx := ev_ok h x
 simp only [opK, ho] at hr
 split at hr
 ·rename_i v hv
  cases op with
  | neg =>
   have hv : negA (st.ev x) = some v := hv
   generalize st.ev x = u at hv hx
   cases u <;> try (cases hv; done)
   rename_i t' y
   cases t' with
   | int k' =>
    have hx : [a.eval x] = [Value.int k' y] := hx
    have hx : a.eval x = Value.int k' y := by simpa using hx
    cases hv
    rw [wrapV_eq] at hr
    refine wp_value (w' := w) (v := .int k' (k'.wrap (Int.sub 0 y))) ?_ (put_ok h ?_ hk hr)
    ·rw [show execOp a.eval o = _ from by simp only [execOp, ho]; rfl, hx]
     rfl
    ·exact (rfl : [_] = [_])
   | _ => cases hv
  | not =>
   have hv : notA (st.ev x) = some v := hv
   generalize st.ev x = u at hv hx
   cases u <;> try (cases hv; done)
   ·rename_i t' y
    cases t' with
    | bool =>
     have hx : [a.eval x] = [Value.bool y] := hx
     have hx : a.eval x = Value.bool y := by simpa using hx
     cases hv
     refine wp_value (w' := w) (v := Value.bool (Bool.not y)) ?_ (put_ok h ?_ hk hr)
     ·rw [show execOp a.eval o = _ from by simp only [execOp, ho]; rfl, hx]
      rfl
     ·exact congrArg Value.bool (not_eq y)
    | _ => cases hv
   ·rename_i pos p i
    have hx : a.eval x = .bool (pos == @decide p i) := hx
    refine wp_value (w' := w) (v := .bool !(pos == @decide p i)) ?_ (put_ok h ?_ hk hr)
    ·rw [show execOp a.eval o = _ from by simp only [execOp, ho]; rfl, hx]
     simp [Op.unary]
    ·cases pos <;> (cases hv; show Value.bool _ = .bool _; cases @decide p i <;> rfl)
  | _ => cases hv
 ·cases hr
end
end Go.V
end
section
namespace Go.V
open Go Go.RowKit
set_option linter.unusedVariables false
set_option linter.unusedSimpArgs false
section
variable {P : Program} {E : En} {R : Type} {w0 : World} {M : Mo} {X : Nat → Prop} {hd : Nat → Value} {st : St} {a : Act} {w : World}
variable {k : St → Option R} {r : R} {K : Act → World → Prop} {Q : Exit → Act → World → Prop} {o : Oper}
theorem run_bin_int {op : BinOp} {t u : TypeId} {x y : Operand} {j j' : IntKind} {m n : Int} (ho : o.op = .binOp op t x y u) (hx : a.eval x = .int j m) (hy : a.eval y = .int j' n) :
  (execOp a.eval o).run P w = ((binOp op t (.int j m) (.int j' n)).run P w).andThen fun v w => .ok (.value v) w := by
 have hg : (eqGuard op t x y (.int j m) (.int j' n)).run P w = .ok () w := by cases op <;> rfl
 rw [show execOp a.eval o = _ from by simp only [execOp, ho]; rfl, hx, hy]
 simp only [Sem.run_bind, hg, Result.andThen_ok]
 rfl
theorem run_bin_bool {op : BinOp} {t u : TypeId} {x y : Operand} {m n : Bool} (ho : o.op = .binOp op t x y u) (hx : a.eval x = .bool m) (hy : a.eval y = .bool n) :
  (execOp a.eval o).run P w = ((binOp op t (.bool m) (.bool n)).run P w).andThen fun v w => .ok (.value v) w := by
 have hg : (eqGuard op t x y (.bool m) (.bool n)).run P w = .ok () w := by cases op <;> rfl
 rw [show execOp a.eval o = _ from by simp only [execOp, ho]; rfl, hx, hy]
 simp only [Sem.run_bind, hg, Result.andThen_ok]
 rfl
theorem binT_bool {tb : TypeId → Option TI} (ht : TbOK P tb) {t : TypeId} (h : binT (tb t) = .bool) : P.underlying t = some .bool := by
 cases hi : tb t with
 | none => rw [hi] at h; cases h
 | some i =>
  obtain ⟨en⟩ := ht.entry hi
  rw [hi] at h
  obtain ⟨tk, _, _, _⟩ := i
  have hk := en.htk
  have hu := en.hu
  generalize en.d = d at hk hu
  cases tk <;> try (cases h; done)
  cases d <;> first | exact hu | (simp [tkOf] at hk; done)
theorem binT_slice {tb : TypeId → Option TI} (ht : TbOK P tb) {t : TypeId} (h : binT (tb t) = .slice) : ∃ e, P.underlying t = some (.slice e) := by
 cases hi : tb t with
 | none => rw [hi] at h; cases h
 | some i =>
  obtain ⟨en⟩ := ht.entry hi
  rw [hi] at h
  obtain ⟨tk, _, _, _⟩ := i
  have hk := en.htk
  have hu := en.hu
  generalize en.d = d at hk hu
  cases tk <;> try (cases h; done)
  cases d <;> first | exact ⟨_, hu⟩ | (simp [tkOf] at hk; done)
theorem got_int {x : Result Value} {j : IntKind} {n : Int} {f : AV → Option R} {c : Cx} (hx : x = .ok (.int j n) w) (h : f (.dat (.int j) n) = some r) : ∃ v y, x = .ok y w ∧ R1 c v y ∧ f v = some r :=
 ⟨.dat (.int j) n, .int j n, hx, (rfl : [Value.int j n] = [Value.int j n]), h⟩
theorem got_test {x : Result Value} {pos : Bool} {p : Prop} {i : Decidable p} {b : Bool} {f : AV → Option R} {c : Cx} (hx : x = .ok (.bool b) w) (hb : b = (pos == @decide p i)) (h : f (.test pos p i) = some r) : ∃ v y, x = .ok y w ∧ R1 c v y ∧ f v = some r :=
 ⟨.test pos p i, .bool b, hx, congrArg Value.bool hb, h⟩
def intK0 (op : BinOp) (j : IntKind) (a b : Int) (k : AV → Option R) : Option R :=
 match op with
 | .add => k (.dat (.int j) (j.wrap (a + b)))
 | .sub => k (.dat (.int j) (j.wrap (a - b)))
 | .mul => k (.dat (.int j) (j.wrap (a * b)))
 | .quo => if b = 0 then none else k (.dat (.int j) (j.wrap (a.tdiv b)))
 | .rem => if b = 0 then none else k (.dat (.int j) (a.tmod b))
 | .eql => k (.test true (a = b) inferInstance)
 | .neq => k (.test false (a = b) inferInstance)
 | .lss => k (.test true (a < b) inferInstance)
 | .leq => k (.test true (a ≤ b) inferInstance)
 | .gtr => k (.test true (b < a) inferInstance)
 | .geq => k (.test true (b ≤ a) inferInstance)
 | .and => k (.dat (.int j) (j.wrap ((BitVec.ofInt j.bits a &&& BitVec.ofInt j.bits b).toNat)))
 | .or => k (.dat (.int j) (j.wrap ((BitVec.ofInt j.bits a ||| BitVec.ofInt j.bits b).toNat)))
 | .xor => k (.dat (.int j) (j.wrap ((BitVec.ofInt j.bits a ^^^ BitVec.ofInt j.bits b).toNat)))
 | .andNot => k (.dat (.int j) (j.wrap ((BitVec.ofInt j.bits a &&& ~~~ BitVec.ofInt j.bits b).toNat)))
 | _ => none
def shiftK0 (op : BinOp) (j : IntKind) (a b : Int) (k : AV → Option R) : Option R :=
 if b < 0 then none else
 match op with
 | .shl => k (.dat (.int j) (j.wrap (a * 2 ^ min b.toNat j.bits)))
 | .shr => k (.dat (.int j) (a.fdiv (2 ^ min b.toNat j.bits)))
 | _ => none
theorem intK_eq (op : BinOp) (j : IntKind) (a b : Int) (k : AV → Option R) : intK op j a b k = intK0 op j a b k := by cases op <;> simp only [intK, intK0, wrapV_eq, andV_eq, orV_eq, xorV_eq, andNotV_eq]
theorem shiftK_eq (op : BinOp) (j : IntKind) (a b : Int) (k : AV → Option R) : shiftK op j a b k = shiftK0 op j a b k := by
 unfold shiftK shiftK0
 cases op <;> simp only [wrapV_eq, shlV_eq, shrV_eq]
theorem intK_ok {op : BinOp} {t : TypeId} {j : IntKind} {m n : Int} {f : AV → Option R} (hs : isShift op = false) (h : intK op j m n f = some r) {c : Cx} :
  ∃ v x, (binOp op t (.int j m) (.int j n)).run P w = .ok x w ∧ R1 c v x ∧ f v = some r := by
 rw [intK_eq] at h
 have hb : (binOp op t (.int j m) (.int j n)) = (match op with
  | .add | .sub | .mul => Op.intArith op j m n
  | .quo | .rem => Op.intDiv op j m n
  | .and | .or | .xor | .andNot => Op.intBits op j m n
  | _ => Op.intCmp op m n) := by
  cases op <;> first | rfl | (simp [isShift] at hs; done) | (simp [binOp]; done)
 rw [hb]
 cases op <;> first | (simp [isShift] at hs; done) | (simp only [intK0] at h; done) | skip
 case add => exact got_int rfl h
 case sub => exact got_int rfl h
 case mul => exact got_int rfl h
 case quo =>
  simp only [intK0] at h
  split at h
  ·cases h
  ·rename_i h0
   exact got_int (by simp [Op.intDiv, h0]) h
 case rem =>
  simp only [intK0] at h
  split at h
  ·cases h
  ·rename_i h0
   exact got_int (by simp [Op.intDiv, h0]) h
 case eql => exact got_test (b := m == n) rfl (by by_cases e : m = n <;> simp [e]) h
 case neq => exact got_test (b := m != n) rfl (by by_cases e : m = n <;> simp [e]) h
 case lss => exact got_test (b := m < n) rfl (by by_cases e : m < n <;> simp [e]) h
 case leq => exact got_test (b := m ≤ n) rfl (by by_cases e : m ≤ n <;> simp [e]) h
 case gtr => exact got_test (b := m > n) rfl (by by_cases e : n < m <;> simp [e]) h
 case geq => exact got_test (b := m ≥ n) rfl (by by_cases e : n ≤ m <;> simp [e]) h
 case and => exact got_int rfl h
 case or => exact got_int rfl h
 case xor => exact got_int rfl h
 case andNot => exact got_int rfl h
 all_goals cases h
theorem shiftK_ok {op : BinOp} {t : TypeId} {j j' : IntKind} {m n : Int} {f : AV → Option R} (hs : isShift op = true) (h : shiftK op j m n f = some r) {c : Cx} :
  ∃ v x, (binOp op t (.int j m) (.int j' n)).run P w = .ok x w ∧ R1 c v x ∧ f v = some r := by
 rw [shiftK_eq] at h
 unfold shiftK0 at h
 split at h
 ·cases h
 ·rename_i h0
  cases op <;> try (simp [isShift] at hs; done)
  ·exact got_int (by simp [binOp, Op.shift, h0]) h
  ·exact got_int (by simp [binOp, Op.shift, h0]) h
theorem run_eq_bool {t : TypeId} (h : P.underlying t = some .bool) (m n : Bool) : (Op.equal t (.bool m) (.bool n)).run P w = .ok (m == n) w :=
 run_equal_bool w t m n h
theorem run_equal_nil {t e : TypeId} (hu : P.underlying t = some (.slice e)) (A : Option Addr) (n cap : Nat) : (Op.equal t (.slice A n cap) (.slice none 0 0)).run P w = .ok A.isNone w := by
 have : Op.equal t (.slice A n cap) (.slice none 0 0) = Op.equalIn (9999 + 1) t (.slice A n cap) (.slice none 0 0) := rfl
 rw [this]
 unfold Op.equalIn
 cases A <;> simp [run_underlying hu]
theorem nilK_ok {t u : TypeId} {x y : Operand} {tb : TypeId → Option TI} {op : BinOp} {b : Bool} {A : Option Addr} {n cap : Nat} (ht : TbOK P tb) (ho : o.op = .binOp op t x y u) (h : Rel w0 M X hd st a w) (hk : Next w0 M X k r K)
  (hx : a.eval x = .slice A n cap) (hy : a.eval y = .slice none 0 0) (hb : A.isNone = b) (hr : nilK (binT (tb t)) op b (fun v => st.put o.dst v k) = some r) : o.wp P a w K Q := by
 have hg : (eqGuard op t x y (.slice A n cap) (.slice none 0 0)).run P w = .ok () w := by cases op <;> rfl
 have hrun : (execOp a.eval o).run P w = ((binOp op t (.slice A n cap) (.slice none 0 0)).run P w).andThen fun v w => .ok (.value v) w := by
  rw [show execOp a.eval o = _ from by simp only [execOp, ho]; rfl, hx, hy]
  simp only [Sem.run_bind, hg, Result.andThen_ok]
  rfl
 unfold nilK at hr
 split at hr
 ·rename_i hs
  obtain ⟨e, hu⟩ := binT_slice ht hs
  refine wp_value (v := .bool b) (w' := w) ?_ (put_ok h (v := .dat .bool b) (Rt.of1 (rfl : [Value.bool b] = [Value.bool b])) hk hr)
  rw [hrun, show binOp .eql t (.slice A n cap) (.slice none 0 0) = (do pure (.bool (← Op.equal t (.slice A n cap) (.slice none 0 0)))) from rfl]
  simp only [Sem.run_bind, run_equal_nil hu, Result.andThen_ok, Sem.run_pure, hb]
 ·rename_i hs
  obtain ⟨e, hu⟩ := binT_slice ht hs
  refine wp_value (v := .bool (!b)) (w' := w) ?_ (put_ok h (v := .dat .bool (!b)) (Rt.of1 (rfl : [Value.bool _] = [Value.bool _])) hk hr)
  rw [hrun, show binOp .neq t (.slice A n cap) (.slice none 0 0) = (do pure (.bool (!(← Op.equal t (.slice A n cap) (.slice none 0 0))))) from rfl]
  simp only [Sem.run_bind, run_equal_nil hu, Result.andThen_ok, Sem.run_pure, hb]
 ·cases hr
theorem toList_eq (p q : ByteArray) : (p.toList == q.toList) = decide (p = q) := by
 rw [ByteArray.toList_eq, ByteArray.toList_eq, Bool.eq_iff_iff]
 simp only [beq_iff_eq, decide_eq_true_eq]
 constructor
 ·intro h
  exact ByteArray.ext (Array.toList_inj.1 h)
 ·intro h; rw [h]
theorem strK_ok {op : BinOp} {p q : ByteArray} {t : TypeId} {f : AV → Option R} (h : strK op p q f = some r) {c : Cx} :
  ∃ v x, (binOp op t (.string p) (.string q)).run P w = .ok x w ∧ R1 c v x ∧ f v = some r := by
 unfold strK at h
 split at h
 ·exact got_test (b := p.toList == q.toList) rfl (by rw [toList_eq]; by_cases e : p = q <;> simp [e]) h
 ·exact got_test (b := !(p.toList == q.toList)) rfl (by rw [toList_eq]; by_cases e : p = q <;> simp [e]) h
 ·split at h
  ·rename_i hs
   refine ⟨.dat .str (p ++ q), .string (p ++ q), ?_, (rfl : [Value.string _] = [Value.string _]), h⟩
   have hs' : ¬ (((p.size + q.size : Nat) : Int) > IntKind.i64.max) := by
    have : IntKind.i64.max = 9223372036854775807 := by decide
    rw [this]; omega
   rw [show binOp .add t (.string p) (.string q) = (if ((p.size + q.size : Nat) : Int) > IntKind.i64.max then unsupported (.resourceLimit _) else pure (.string (p ++ q))) from rfl, if_neg hs']
   rfl
  ·cases h
 ·cases h
theorem run_bin_str {op : BinOp} {t u : TypeId} {x y : Operand} {m n : ByteArray} (ho : o.op = .binOp op t x y u) (hx : a.eval x = .string m) (hy : a.eval y = .string n) :
  (execOp a.eval o).run P w = ((binOp op t (.string m) (.string n)).run P w).andThen fun v w => .ok (.value v) w := by
 have hg : (eqGuard op t x y (.string m) (.string n)).run P w = .ok () w := by cases op <;> rfl
 rw [show execOp a.eval o = _ from by simp only [execOp, ho]; rfl, hx, hy]
 simp only [Sem.run_bind, hg, Result.andThen_ok]
 rfl
theorem bin0_ok {op : BinOp} {t u : TypeId} {x y : Operand} (ht : TbOK P E.tb) (ho : o.op = .binOp op t x y u)
  (h : Rel w0 M X hd st a w) (hk : Next w0 M X k r K) (hr : binK (binT (E.tb t)) op (st.ev x).settle (st.ev y).settle (fun v => st.put o.dst v k) = some r) : o.wp P a w K Q := by
 have hx := (ev_ok h x).settle
 have hy := (ev_ok h y).settle
 generalize (st.ev x).settle = u at hr hx
 generalize (st.ev y).settle = v at hr hy
 cases u with
 | dat s p =>
  cases v with
  | dat s' q =>
   cases s with
   | int j => cases s' with
    | int j' =>
     have hx : a.eval x = .int j p := by simpa using (show [a.eval x] = [Value.int j p] from hx)
     have hy : a.eval y = .int j' q := by simpa using (show [a.eval y] = [Value.int j' q] from hy)
     have hr : (match isShift op, decide (j = j') with
      | true, _ => shiftK op j p q fun v => st.put o.dst v k
      | false, true => intK op j p q fun v => st.put o.dst v k
      | false, false => none) = some r := hr
     split at hr
     ·rename_i h1
      obtain ⟨v, z, hz, hv, hp⟩ := shiftK_ok (P := P) (w := w) (t := t) (j' := j') h1 hr (c := st.cx X hd w)
      refine wp_value (w' := w) (v := z) ?_ (put_ok h (Rt.of1 hv) hk hp)
      rw [run_bin_int ho hx hy, hz]; rfl
     ·rename_i h1 h2
      have e : j = j' := of_decide_eq_true h2
      subst e
      obtain ⟨v, z, hz, hv, hp⟩ := intK_ok (P := P) (w := w) (t := t) h1 hr (c := st.cx X hd w)
      refine wp_value (w' := w) (v := z) ?_ (put_ok h (Rt.of1 hv) hk hp)
      rw [run_bin_int ho hx hy, hz]; rfl
     ·cases hr
    | _ => cases hr
   | bool => cases s' with
    | bool =>
     have hx : a.eval x = .bool p := by simpa using (show [a.eval x] = [Value.bool p] from hx)
     have hy : a.eval y = .bool q := by simpa using (show [a.eval y] = [Value.bool q] from hy)
     have hr : boolT (binT (E.tb t)) op p q (fun v => st.put o.dst v k) = some r := hr
     unfold boolT at hr
     split at hr
     ·rename_i hb
      have hb := run_eq_bool (w := w) (binT_bool ht hb) p q
      cases op <;> try (cases hr; done)
      ·refine wp_value (w' := w) (v := .bool (@BEq.beq Bool _ p q)) ?_ (put_ok h ?_ hk hr)
       ·rw [run_bin_bool ho hx hy]
        simp only [binOp, Sem.run_bind, hb, Result.andThen_ok, Sem.run_pure]
       ·exact congrArg Value.bool (beq_dec p q)
      ·refine wp_value (w' := w) (v := .bool (!(@BEq.beq Bool _ p q))) ?_ (put_ok h ?_ hk hr)
       ·rw [run_bin_bool ho hx hy]
        simp only [binOp, Sem.run_bind, hb, Result.andThen_ok, Sem.run_pure]
       ·exact congrArg Value.bool (bne_dec p q)
     ·cases hr
    | _ => cases hr
   | str => cases s' with
    | str =>
     have hx : a.eval x = .string p := by simpa using (show [a.eval x] = [Value.string p] from hx)
     have hy : a.eval y = .string q := by simpa using (show [a.eval y] = [Value.string q] from hy)
     have hr : strK op p q (fun v => st.put o.dst v k) = some r := hr
     obtain ⟨v, z, hz, hv, hp⟩ := strK_ok (P := P) (w := w) (t := t) hr (c := st.cx X hd w)
     refine wp_value (w' := w) (v := z) ?_ (put_ok h (Rt.of1 hv) hk hp)
     rw [run_bin_str ho hx hy, hz]; rfl
    | _ => cases hr
   | _ => cases s' <;> cases hr
  | nil =>
   cases s with
   | list s =>
    have hr : nil0K (List.length p) (nilK (binT (E.tb t)) op false (fun v => st.put o.dst v k)) = some r := hr
    unfold nil0K at hr
    split at hr
    ·cases hr
    ·rename_i h0
     have hy : a.eval y = .slice none 0 0 := hy
     obtain ⟨A, cap, e, _, _, hel⟩ := (show Rc w (st.cx X hd w).N (.list s) p [a.eval x] from hx)
     obtain ⟨ad, hA, _⟩ := hel 0 (by omega)
     exact nilK_ok ht ho h hk (by simpa using e) hy (by rw [hA]; rfl) hr
   | _ => cases hr
  | _ => cases s <;> cases hr
 | nil =>
  cases v with
  | nil => exact nilK_ok ht ho h hk (show a.eval x = .slice none 0 0 from hx) (show a.eval y = .slice none 0 0 from hy) rfl (show nilK (binT (E.tb t)) op true (fun v => st.put o.dst v k) = some r from hr)
  | _ => cases hr
 | dne s =>
  cases v with
  | nil =>
   obtain ⟨ad, cap, e⟩ := (show ∃ ad cap, a.eval x = .slice (some ad) 0 cap from hx)
   exact nilK_ok ht ho h hk e (show a.eval y = .slice none 0 0 from hy) rfl (show nilK (binT (E.tb t)) op false (fun v => st.put o.dst v k) = some r from hr)
  | _ => cases hr
 | _ => cases hr
where
 beq_dec (p q : Bool) : (p == q) = (true == decide (p = q)) := by cases p <;> cases q <;> rfl
 bne_dec (p q : Bool) : (!(p == q)) = (false == decide (p = q)) := by cases p <;> cases q <;> rfl
end
end Go.V
end
section
namespace Go.V
open Go Go.RowKit
set_option linter.unusedVariables false
set_option linter.unusedSimpArgs false
section
variable {P : Program} {E : En} {R : Type} {w0 : World} {M : Mo} {X : Nat → Prop} {hd : Nat → Value} {st : St} {a : Act} {w : World}
variable {k : St → Option R} {r : R} {K : Act → World → Prop} {Q : Exit → Act → World → Prop} {o : Oper}
def TK.isAgg : TK → Bool
 | .struct .. => true
 | _ => false
def TK.known : TK → Bool
 | .other => false
 | _ => true
theorem run_isAgg' {t : TypeId} {i : TI} (en : Entry P t i) (hk : i.tk.known = true) : (isAgg t).run P w = .ok i.tk.isAgg w := by
 have hu := en.hu
 have ht := en.htk
 generalize en.d = d at hu ht
 rw [ht] at hk ⊢
 unfold isAgg
 cases d <;> simp [run_underlying hu, tkOf, TK.isAgg, TK.known] at hk ⊢
theorem run_sizeOf' {t : TypeId} {i : TI} (en : Entry P t i) : (sizeOf t).run P w = .ok i.size w := by
 simp [sizeOf, typeInfo, en.hi, en.hsize]
theorem run_zeroValue' {t : TypeId} {i : TI} (en : Entry P t i) : (zeroValue t).run P w = .ok en.z w := by
 simp [zeroValue, typeInfo, en.hi, en.hz]
theorem run_typeInfo' {t : TypeId} {i : TI} (en : Entry P t i) : (typeInfo t).run P w = .ok en.inf w := by
 simp [typeInfo, en.hi]
theorem slice_of {t e : TypeId} {i : TI} (en : Entry P t i) (h : i.tk = .slice e) : P.underlying t = some (.slice e) := by
 have hu := en.hu
 have ht := en.htk
 generalize en.d = d at hu ht
 rw [h] at ht
 cases d <;> simp [tkOf] at ht
 rw [hu, ht]
theorem struct_of {t : TypeId} {i : TI} {q : Bool} {fs : List (Nat × TypeId)} (en : Entry P t i) (h : i.tk = .struct q fs) : ∃ F : Array Field, P.underlying t = some (.struct F) ∧ fs = F.toList.map fun f => (f.offset, f.type) := by
 have hu := en.hu
 have ht := en.htk
 generalize en.d = d at hu ht
 rw [h] at ht
 cases d <;> simp [tkOf] at ht
 exact ⟨_, hu, ht.2⟩
theorem structQ_of {t : TypeId} {i : TI} {fs : List (Nat × TypeId)} (en : Entry P t i) (h : i.tk = .struct true fs) : ∃ F : Array Field, P.underlying t = some (.struct F) ∧ fs = (F.toList.map fun f => (f.offset, f.type)) ∧ (∀ f ∈ F.toList, (f.name != "_") = true) ∧ P.stoodInHeld t = false ∧ P.eqGuardType P.depth t = false := by
 have hu := en.hu
 have ht := en.htk
 generalize en.d = d at hu ht
 rw [h] at ht
 cases d with
 | struct F =>
  simp only [tkOf, TK.struct.injEq] at ht
  obtain ⟨h1, h2⟩ := ht
  have h1 := h1.symm
  simp only [Bool.and_eq_true, Bool.not_eq_true'] at h1
  exact ⟨F, hu, h2, fun f hf => List.all_eq_true.1 h1.1.1 f hf, h1.1.2, h1.2⟩
 | _ => simp [tkOf] at ht
theorem int_of {t : TypeId} {j : IntKind} {i : TI} (en : Entry P t i) (h : i.tk = .int j) : P.underlying t = some (.int j) := by
 have hu := en.hu
 have ht := en.htk
 generalize en.d = d at hu ht
 rw [h] at ht
 cases d <;> simp [tkOf] at ht
 rw [hu, ht]
theorem cellsAV_ok {c : Cx} : ∀ {t : Ty} {x : t.den} {vs : List Value}, Rc c.w c.N t x vs → All2 (R0 c) (cellsAV t x) vs
 | .int _, _, _, h => by cases h; exact ⟨(rfl : [_] = [_]), trivial⟩
 | .bool, _, _, h => by cases h; exact ⟨(rfl : [_] = [_]), trivial⟩
 | .str, _, _, h => by cases h; exact ⟨(rfl : [_] = [_]), trivial⟩
 | .unit, _, _, h => by cases h; exact trivial
 | .pair _ _, _, _, ⟨c, d, e, h, k⟩ => by rw [e]; exact (cellsAV_ok h).append (cellsAV_ok k)
 | .struct t, _, _, h => cellsAV_ok (t := t) h
 | .list t, _, vs, h => by
  have h' := h
  obtain ⟨A, cap, e, _⟩ := h'
  subst e
  exact ⟨h, trivial⟩
 | .ptr t, _, vs, h => by
  have h' := h
  obtain ⟨A, e, _⟩ := h'
  subst e
  exact ⟨h, trivial⟩
 | .clo f t, _, vs, h => by
  have h' := h
  obtain ⟨v, e, _⟩ := h'
  subst e
  exact ⟨h, trivial⟩
 | .map k v, _, vs, h => by
  have h' := h
  obtain ⟨r, es, c, e, _⟩ := h'
  subst e
  exact ⟨h, trivial⟩
 | .optr t, none, vs, h => by
  have h' : vs = [.pointer none] := h
  subst h'
  exact ⟨h, trivial⟩
 | .optr t, some y, vs, h => by
  have h' := h
  obtain ⟨a, e, _⟩ := h'
  subst e
  exact ⟨h, trivial⟩
theorem cellsAV_length : ∀ (t : Ty) (x : t.den), (cellsAV t x).length = t.size
 | .int _, _ => rfl
 | .bool, _ => rfl
 | .str, _ => rfl
 | .unit, _ => rfl
 | .pair a b, x => by simp [cellsAV, cellsAV_length a, cellsAV_length b, Ty.size]
 | .struct t, x => cellsAV_length t x
 | .list _, _ => rfl
 | .ptr _, _ => rfl
 | .clo _ _, _ => rfl
 | .map _ _, _ => rfl
 | .optr _, _ => rfl
theorem row_cells {t : Ty} {e : TypeId} {v : Value} {l : List t.den} {xs : List Value} {N : Nat → Prop} (ho : w.ownsRow 0 e t.size v (List.length l) xs) (hE : Elems w N t l xs) {r m cap : Nat}
  (hv : v = .slice (some ⟨r, 0, none⟩) m cap) {i : Nat} (hi : i < List.length l) :
  ∀ j u, ((xs.drop (i * t.size)).take t.size)[j]? = some u → w.cell? ((⟨r, i * t.size, none⟩ : Addr).add j) = some u := by
 intro j u hu
 have hj : j < t.size := by
  rcases Nat.lt_or_ge j t.size with h | h
  ·exact h
  ·rw [List.getElem?_take, if_neg (by omega)] at hu; cases hu
 rw [List.getElem?_take, if_pos hj, List.getElem?_drop] at hu
 have := ho.cells (g := r) (by rw [hv]; rfl) _ _ hu
 rw [add_lit] at this ⊢
 rw [Nat.zero_add] at this
 exact this
theorem row_off {base : Nat} {e : TypeId} {size : Nat} {v : Value} {n : Nat} {xs : List Value} (ho : w.ownsRow base e size v n xs) {r off m cap : Nat} (hv : v = .slice (some ⟨r, off, none⟩) m cap) : off = 0 := by
 rcases ho.2 with ⟨hn, _⟩ | ⟨g, cap', cur, hvg, _⟩
 ·rw [hv] at hn; cases hn
 ·rw [hv] at hvg; simp at hvg; exact hvg.1.2
theorem rowAt_cells {t : Ty} {e : TypeId} {v : Value} {l : List t.den} {xs : List Value} (ho : ownsAt w e t.size v (List.length l) xs) {r off m cap : Nat}
  (hv : v = .slice (some ⟨r, off, none⟩) m cap) {i : Nat} (hi : i < List.length l) :
  ∀ j u, ((xs.drop (i * t.size)).take t.size)[j]? = some u → w.cell? ((⟨r, off + i * t.size, none⟩ : Addr).add j) = some u := by
 intro j u hu
 have hj : j < t.size := by
  rcases Nat.lt_or_ge j t.size with h | h
  ·exact h
  ·rw [List.getElem?_take, if_neg (by omega)] at hu; cases hu
 rw [List.getElem?_take, if_pos hj, List.getElem?_drop] at hu
 rcases ho.2 with ⟨hn, _⟩ | ⟨g, off', cap', cur, hvg, hg, _, _, _, htake⟩
 ·rw [hv] at hn; cases hn
 ·rw [hv] at hvg
  simp at hvg
  obtain ⟨⟨rfl, rfl⟩, _, _⟩ := hvg
  rw [← htake, List.getElem?_take] at hu
  split at hu
  ·rw [List.getElem?_drop] at hu
   rw [add_lit, cell_lit hg]
   rw [← Nat.add_assoc] at hu
   simpa using hu
  ·cases hu
theorem loadC_ok (h : Rel w0 M X hd st a w) {n : Nat} {p : AV} {v : Value} {cs : List AV} (hp : Rt (st.cx X hd w) p v) (hl : loadC st n p = some cs) :
  ∃ ad vs, v = .pointer (some ad) ∧ vs.length = n ∧ (∀ j u, vs[j]? = some u → w.cell? (ad.add j) = some u) ∧ All2 (R1 (st.cx X hd w)) cs vs := by
 cases p with
 | box b i =>
  obtain ⟨blk, m, r, hf, hs, hi, hh, hv⟩ := hp
  have hf : st.find b = some blk := hf
  simp only [loadC, hf] at hl
  cases blk with
  | cells cs' =>
   simp only at hl
   split at hl
   ·rename_i hle
    have hle := Nat.le_of_ble_eq_true hle
    cases hl
    obtain ⟨r', vs', e', hh', hg, ha⟩ := h.blocks b _ hf
    have : r' = r := by have := hh'.symm.trans hh; simpa using this
    subst this
    have hlen := ha.length
    refine ⟨_, (vs'.drop i).take n, hv, by simp; omega, ?_, (ha.drop i).take n⟩
    intro j u hu
    rw [add_lit, cell_lit (show w.heap[r']? = _ from hg)]
    have hj : j < n := by
     rcases Nat.lt_or_ge j n with h | h
     ·exact h
     ·rw [List.getElem?_take, if_neg (by omega)] at hu; cases hu
    rw [List.getElem?_take, if_pos hj, List.getElem?_drop] at hu
    simpa using hu
   ·cases hl
  | _ => cases hs
 | ep b i =>
  obtain ⟨blk, e, t, m, r, off, m', cap, hf, hs, hi, hh, hv⟩ := hp
  have hf : st.find b = some blk := hf
  have hh : hd b = _ := hh
  simp only [loadC, hf] at hl
  cases blk with
  | cells _ => cases hs
  | mp _ _ _ => cases hs
  | fmp _ _ _ => cases hs
  | flat e' t' l =>
   cases hs
   simp only at hl
   split at hl
   ·rename_i hsz
    have hsz := Nat.eq_of_beq_eq_true hsz
    cases hl
    obtain ⟨xs, ho, hE⟩ := h.blocks b _ hf
    have hr := hE.get i hi
    obtain rfl := row_off (w := w) ho hh
    rw [Nat.zero_add] at hv
    refine ⟨_, _, hv, (hr.length).trans hsz, row_cells (w := w) ho hE hh hi, ?_⟩
    rw [show List.getD l i (dflt _) = l[i] from by simp [List.getD, List.getElem?_eq_getElem hi]]
    exact (cellsAV_ok hr).mono fun _ _ => R1.of0
   ·cases hl
  | que e' t' l =>
   cases hs
   simp only at hl
   split at hl
   ·rename_i hsz
    have hsz := Nat.eq_of_beq_eq_true hsz
    cases hl
    obtain ⟨xs, ho, hE⟩ := h.blocks b _ hf
    have hr := hE.get i hi
    refine ⟨_, _, hv, (hr.length).trans hsz, rowAt_cells (w := w) ho hh hi, ?_⟩
    rw [show List.getD l i (dflt _) = l[i] from by simp [List.getD, List.getElem?_eq_getElem hi]]
    exact (cellsAV_ok hr).mono fun _ _ => R1.of0
   ·cases hl
  | frz e' t' l =>
   cases hs
   simp only at hl
   split at hl
   ·rename_i hsz
    have hsz := Nat.eq_of_beq_eq_true hsz
    cases hl
    obtain ⟨xs, ho, hE⟩ := h.blocks b _ hf
    have hr := hE.get i hi
    obtain rfl := row_off (w := w) ho hh
    rw [Nat.zero_add] at hv
    refine ⟨_, _, hv, (hr.length).trans hsz, row_cells (w := w) ho hE hh hi, ?_⟩
    rw [show List.getD l i (dflt _) = l[i] from by simp [List.getD, List.getElem?_eq_getElem hi]]
    exact (cellsAV_ok hr).mono fun _ _ => R1.of0
   ·cases hl
 | dp t x =>
  simp only [loadC] at hl
  split at hl
  ·rename_i hsz
   have hsz := Nat.eq_of_beq_eq_true hsz
   cases hl
   obtain ⟨ad, e, c, hlen, hat, hr⟩ := (show Rc w (st.cx X hd w).N (.ptr t) x [v] from hp)
   refine ⟨ad, c, by simpa using e, hlen.trans hsz, ?_, (cellsAV_ok (c := st.cx X hd w) hr).mono fun _ _ => R1.of0⟩
   intro j u hu
   have hj := (List.getElem?_eq_some_iff.1 hu)
   obtain ⟨hj, rfl⟩ := hj
   exact (hat j hj).2
  ·cases hl
 | _ => cases hl
theorem run_loadVar' {t : TypeId} {i : TI} (en : Entry P t i) {ad : Addr} {vs : List Value} {cs : List AV} {c : Cx} {v : AV} (hlen : vs.length = i.size)
  (hc : ∀ j u, vs[j]? = some u → w.cell? (ad.add j) = some u) (ha : All2 (R1 c) cs vs) (hv : valOf i cs = some v) : ∃ x, (loadVar t ad).run P w = .ok x w ∧ Rt c v x := by
 have hl := run_loadCells_list (P := P) w ad vs hc
 unfold valOf at hv
 have hk : i.tk.known = true := by cases h : i.tk <;> first | rfl | (rw [h] at hv; cases hv)
 have hagg := run_isAgg' (w := w) en hk
 cases htk : i.tk with
 | struct q fs =>
  rw [htk] at hv hagg
  cases hv
  refine ⟨.agg vs.toArray, ?_, vs, rfl, ha⟩
  simp [loadVar, hagg, TK.isAgg, run_sizeOf' en, ← hlen, hl]
 | other => rw [htk] at hv; cases hv
 | _ =>
  rw [htk] at hv hagg
  simp only at hv
  split at hv
  ·rename_i u
   cases hv
   obtain ⟨y, rfl, hy⟩ := ha.one
   refine ⟨y, ?_, Rt.of1 hy⟩
   have h0 := hc 0 y rfl
   have e0 : ad.add 0 = ad := by simp [Addr.add]
   rw [e0] at h0
   simp [loadVar, hagg, TK.isAgg, h0]
  ·cases hv
theorem load_ok {t : TypeId} {p : Operand} (ht : TbOK P E.tb) (ho : o.op = .load t p) (h : Rel w0 M X hd st a w) (hk : Next w0 M X k r K) (hr : opK E o st k = some r) : o.wp P a w K Q := by
 simp only [opK, ho] at hr
 split at hr
 ·rename_i i hi
  obtain ⟨en⟩ := ht.entry hi
  split at hr
  ·rename_i cs hcs
   split at hr
   ·rename_i v hv
    obtain ⟨ad, vs, hp, hlen, hc, ha⟩ := loadC_ok h (ev_ok h p) hcs
    obtain ⟨x, hx, hxr⟩ := run_loadVar' (P := P) en hlen hc ha hv
    refine wp_value (v := x) (w' := w) ?_ (put_ok h hxr hk hr)
    simp [execOp, ho, hp, Instr.loadAt, Instr.sureAddr, hx]
   ·cases hr
  ·cases hr
 ·cases hr
theorem alloc_cells (h : Rel w0 M X hd st a w) {b : Nat} {cs : List AV} {vs : List Value} {e : TypeId} (hf : st.find b = none) (ha : All2 (R1 (st.cx X hd w)) cs vs) :
  Rel w0 M X (fun c => if c = b then .pointer (some ⟨w.heap.size, 0, none⟩) else hd c) (st.lay b (.cells cs)) a (w.alloc (.cells vs.toArray e)) ∧
  ∀ (hpos : 0 < cs.length), Rt ((st.lay b (.cells cs)).cx X (fun c => if c = b then .pointer (some ⟨w.heap.size, 0, none⟩) else hd c) (w.alloc (.cells vs.toArray e))) (.box b 0) (.pointer (some ⟨w.heap.size, 0, none⟩)) := by
 constructor
 ·refine h.fresh hf rfl rfl rfl (by simp) (fun k hk => heap_alloc_old w _ k hk) (fun r hr => by simp [blockOf] at hr; omega) ?_
  intro g
  exact ⟨w.heap.size, vs, e, by show (if b = b then _ else _) = _; rw [if_pos rfl], heap_alloc_new w _, ha.mono fun x v hx => R1.go g hx⟩
 ·intro hpos
  exact ⟨.cells cs, cs.length, w.heap.size, by show St.find (St.lay _ _ _) _ = _; rw [St.find_cons, if_pos rfl], rfl, hpos, by show (if b = b then _ else _) = _; rw [if_pos rfl], rfl⟩
end
end Go.V
end
section
namespace Go.V
open Go Go.RowKit
set_option linter.unusedVariables false
set_option linter.unusedSimpArgs false
section
variable {P : Program} {E : En} {R : Type} {w0 : World} {M : Mo} {X : Nat → Prop} {hd : Nat → Value} {st : St} {a : Act} {w : World}
variable {k : St → Option R} {r : R} {K : Act → World → Prop} {Q : Exit → Act → World → Prop} {o : Oper}
def Frozen (st : St) (b : Nat) : Prop := (∃ e t l, st.find b = some (.frz e t l)) ∨ ∃ k v m, st.find b = some (.fmp k v m)
theorem Frozen.find {b : Nat} (h : Frozen st b) : ∃ blk, st.find b = some blk ∧ blk.live = false ∧ ∀ cs, blk ≠ .cells cs := by
 rcases h with ⟨e, t, l, h⟩ | ⟨k, v, m, h⟩
 ·exact ⟨_, h, rfl, fun cs => by simp⟩
 ·exact ⟨_, h, rfl, fun cs => by simp⟩
theorem frz_step {b : Nat} {blk0 blk1 : Blk} {ns : List Nat} {st' : St} (hf : st.find b = some blk0) (hsh : blk1.shape = blk0.shape) (hnl : blk1.live = false) (hb : Frozen (st.lay b blk1) b) (hnf : ¬ Frozen st b)
  (ih : Rel w0 M X hd st' a w ∧ (∀ b ∈ ns, Frozen st' b) ∧ (∀ c, Frozen (st.lay b blk1) c → Frozen st' c) ∧ st'.n = (st.lay b blk1).n ∧ st'.get = (st.lay b blk1).get ∧
  (∀ c blk, (st.lay b blk1).find c = some blk → ∃ blk', st'.find c = some blk' ∧ blk'.shape = blk.shape) ∧ (∀ c blk', st'.find c = some blk' → blk'.live = true → (st.lay b blk1).find c = some blk')) :
  Rel w0 M X hd st' a w ∧ (∀ c ∈ b :: ns, Frozen st' c) ∧ (∀ b, Frozen st b → Frozen st' b) ∧ st'.n = st.n ∧ st'.get = st.get ∧
  (∀ b blk, st.find b = some blk → ∃ blk', st'.find b = some blk' ∧ blk'.shape = blk.shape) ∧ (∀ b blk', st'.find b = some blk' → blk'.live = true → st.find b = some blk') := by
 obtain ⟨h2, h3, h4, h5, h6, h7, h8⟩ := ih
 refine ⟨h2, ?_, ?_, h5, h6, ?_, ?_⟩
 ·intro c hc
  rcases List.mem_cons.1 hc with rfl | hc
  ·exact h4 _ hb
  ·exact h3 c hc
 ·intro c hc
  have ec : c ≠ b := fun e => hnf (e ▸ hc)
  refine h4 c ?_
  rcases hc with ⟨e1, t1, l1, hc⟩ | ⟨e1, t1, l1, hc⟩
  ·exact .inl ⟨e1, t1, l1, by rw [St.find_cons, if_neg ec]; exact hc⟩
  ·exact .inr ⟨e1, t1, l1, by rw [St.find_cons, if_neg ec]; exact hc⟩
 ·intro c blk hc
  by_cases ec : c = b
  ·subst ec
   rw [hf] at hc
   cases hc
   obtain ⟨blk', q1, q2⟩ := h7 c blk1 (by rw [St.find_cons, if_pos rfl])
   exact ⟨blk', q1, q2.trans hsh⟩
  ·exact h7 c blk (by rw [St.find_cons, if_neg ec]; exact hc)
 ·intro c blk hc hl
  have hb' := h8 c blk hc hl
  rw [St.find_cons] at hb'
  by_cases ec : c = b
  ·rw [if_pos ec] at hb'; cases hb'; rw [hnl] at hl; cases hl
  ·rw [if_neg ec] at hb'; exact hb'
theorem not_frozen {b : Nat} {blk : Blk} (hf : st.find b = some blk) (hl : blk.live = true) : ¬ Frozen st b := by
 intro h
 obtain ⟨blk', h1, h2, _⟩ := h.find
 rw [hf] at h1
 cases h1
 rw [hl] at h2
 cases h2
theorem frzN_ok : ∀ {ns : List Nat} {st st' : St}, Rel w0 M X hd st a w → frzN st ns = some st' →
  Rel w0 M X hd st' a w ∧ (∀ b ∈ ns, Frozen st' b) ∧ (∀ b, Frozen st b → Frozen st' b) ∧ st'.n = st.n ∧ st'.get = st.get ∧
  (∀ b blk, st.find b = some blk → ∃ blk', st'.find b = some blk' ∧ blk'.shape = blk.shape) ∧ (∀ b blk', st'.find b = some blk' → blk'.live = true → st.find b = some blk')
 | [], st, st', h, e => by
  cases e
  exact ⟨h, by simp, fun b hb => hb, rfl, rfl, fun b blk hb => ⟨blk, hb, rfl⟩, fun b blk hb _ => hb⟩
 | b :: ns, st, st', h, e => by
  unfold frzN at e
  split at e
  ·rename_i e' t l hf
   exact frz_step (blk1 := .frz e' t l) hf rfl rfl (.inl ⟨e', t, l, by rw [St.find_cons, if_pos rfl]⟩) (not_frozen hf rfl) (frzN_ok (h.freeze hf) e)
  ·rename_i e' t l hf
   obtain ⟨h2, h3, h4, h5, h6, h7, h8⟩ := frzN_ok h e
   refine ⟨h2, ?_, h4, h5, h6, h7, h8⟩
   intro c hc
   rcases List.mem_cons.1 hc with rfl | hc
   ·exact h4 _ (.inl ⟨e', t, l, hf⟩)
   ·exact h3 c hc
  ·rename_i k v m hf
   exact frz_step (blk1 := .fmp k v m) hf rfl rfl (.inr ⟨k, v, m, by rw [St.find_cons, if_pos rfl]⟩) (not_frozen hf rfl) (frzN_ok (h.freezeM hf) e)
  ·rename_i k v m hf
   obtain ⟨h2, h3, h4, h5, h6, h7, h8⟩ := frzN_ok h e
   refine ⟨h2, ?_, h4, h5, h6, h7, h8⟩
   intro c hc
   rcases List.mem_cons.1 hc with rfl | hc
   ·exact h4 _ (.inr ⟨k, v, m, hf⟩)
   ·exact h3 c hc
  ·cases e
theorem frzN_goes {ns : List Nat} {st' : St} (h : Rel w0 M X hd st a w) (e : frzN st ns = some st') : Goes some (st.cx X hd w) (st'.cx X hd w) := by
 obtain ⟨_, _, _, _, _, h7, h8⟩ := frzN_ok h e
 refine ⟨?_, ?_⟩
 ·intro q o hn hc
  refine ⟨fun hN => hn (hN.imp id ?_), hc⟩
  rintro ⟨b, blk, hf, hl, hr⟩
  exact ⟨b, blk, h8 b blk hf hl, hl, hr⟩
 ·intro b b' blk hb hf
  cases hb
  obtain ⟨blk', h1, h2⟩ := h7 b blk hf
  exact ⟨blk', h1, h2, rfl⟩
theorem take_mid {C us : List Value} {p n : Nat} (h : p + us.length ≤ n) (h2 : n ≤ C.length) :
  (C.take p ++ us ++ C.drop (p + us.length)).take n = (C.take n).take p ++ us ++ (C.take n).drop (p + us.length) := by
 have e1 : (C.take p ++ us).length = p + us.length := by simp; omega
 rw [List.take_append, e1, List.take_of_length_le (by omega), List.take_take, Nat.min_eq_left (by omega), List.drop_take]
theorem Rel.clear (h : Rel w0 M X hd st a w) : Clear st X hd w (fun r => X r ∨ Mine st.find hd r) (Frozen st) := by
 refine ⟨fun r hr => hr, ?_, ?_⟩
 ·intro b r hfr hr hN
  obtain ⟨blk, hf, hnl, _⟩ := hfr.find
  rcases hN with hx | ⟨b', blk', hf', hl, hr'⟩
  ·exact (h.xfar r hx).2 ⟨b, _, hf, hr⟩
  ·have := h.inj b b' _ _ r hf hf' hr hr'
   subst this
   rw [hf] at hf'
   cases hf'
   rw [hnl] at hl
   cases hl
 ·intro b cs hfr hf'
  obtain ⟨blk, hf, _, hne⟩ := hfr.find
  rw [hf] at hf'
  cases hf'
  exact absurd rfl (hne cs)
theorem St.get_same {st st' : St} (h : st'.get = st.get) (t : Nat) : st'.get t = st.get t := by rw [h]
theorem St.ev_same {st st' : St} (h : st'.get = st.get) (x : Operand) : st'.ev x = st.ev x := by
 cases x with
 | tmp t => exact St.get_same h t
 | const v => cases v <;> rfl
 | _ => rfl
theorem alloc_find {b : Nat} {blk : Blk} {st' : St} (h : st.alloc b blk = some st') : st.find b = none ∧ st' = (st.lay b (blk)) := by
 unfold St.alloc at h
 split at h
 ·rename_i hf; cases h; exact ⟨hf, rfl⟩
 ·cases h
theorem boxK_ok {dst : Option Tmp} {cs : List AV} {vs : List Value} {e : TypeId} (h : Rel w0 M X hd st a w) (ha : All2 (R1 (st.cx X hd w)) cs vs) (hk : Next w0 M X k r K)
  (hr : boxK st dst cs k = some r) : K (a.put dst (.pointer (some ⟨w.heap.size, 0, none⟩))) (w.alloc (.cells vs.toArray e)) := by
 unfold boxK at hr
 split at hr
 ·rename_i st' hpos hal
  obtain ⟨hf, rfl⟩ := alloc_find hal
  obtain ⟨h1, h2⟩ := alloc_cells (e := e) h hf ha
  exact put_ok h1 (h2 (by simpa [Nat.blt_eq] using hpos)) hk hr
 ·cases hr
theorem box_ok {e : TypeId} {x : Operand} (ho : o.op = .box e x) (h : Rel w0 M X hd st a w) (hk : Next w0 M X k r K) (hr : opK E o st k = some r) : o.wp P a w K Q := by
 simp only [opK, ho] at hr
 split at hr
 ·rename_i cs hcs
  obtain ⟨vs, hv, ha⟩ := cellsOf_ok (ev_ok h x) hcs
  refine wp_value (v := .pointer (some ⟨w.heap.size, 0, none⟩)) (w' := w.alloc (.cells vs.toArray e)) ?_ (boxK_ok h ha.settle hk hr)
  simp [execOp, ho, Instr.box, newVar, newRow, newObj, Sem.run, hv]
 ·cases hr
theorem alloc_ok {e : TypeId} (ht : TbOK P E.tb) (ho : o.op = .alloc e) (h : Rel w0 M X hd st a w) (hk : Next w0 M X k r K) (hr : opK E o st k = some r) : o.wp P a w K Q := by
 simp only [opK, ho] at hr
 split at hr
 ·rename_i i hi
  obtain ⟨en⟩ := ht.entry hi
  have ha : All2 (R1 (st.cx X hd w)) (i.zero.map constAV) i.zero := constL_ok _
  refine wp_value (v := .pointer (some ⟨w.heap.size, 0, none⟩)) (w' := w.alloc (.cells i.zero.toArray e)) ?_ (boxK_ok h ha hk hr)
  have hz := run_zeroValue' (w := w) en
  simp [execOp, ho, Instr.alloc, newVar, newRow, newObj, Sem.run, hz, en.hzero]
 ·cases hr
theorem nilCheck_ok {x : Operand} (ho : o.op = .nilCheck x) (h : Rel w0 M X hd st a w) (hk : Next w0 M X k r K) (hr : opK E o st k = some r) : o.wp P a w K Q := by
 have hx := ev_ok h x
 simp only [opK, ho] at hr
 have key : ∀ {v : AV} {ad : Addr}, st.ev x = v → a.eval x = .pointer (some ad) → st.put o.dst v k = some r → o.wp P a w K Q := by
  intro v ad hv hp hr
  refine wp_value (v := .pointer (some ad)) (w' := w) ?_ (put_ok h (by rw [← hp, ← hv]; exact hx) hk hr)
  simp [execOp, ho, hp]
 split at hr
 ·rename_i b i hv
  rw [hv] at hx
  obtain ⟨_, _, _, _, _, _, _, hp⟩ := hx
  exact key hv hp hr
 ·rename_i b i hv
  rw [hv] at hx
  obtain ⟨_, _, _, _, _, _, _, _, _, _, _, _, hp⟩ := hx
  exact key hv hp hr
 ·rename_i t y hv
  rw [hv] at hx
  obtain ⟨ad, e, _⟩ := (show Rc w (st.cx X hd w).N (.ptr t) y [a.eval x] from hx)
  exact key hv (by simpa using e) hr
 ·rename_i t y hv
  rw [hv] at hx
  cases y with
  | none => cases hr
  | some y =>
   have hr : st.put o.dst (.dp t y) k = some r := hr
   obtain ⟨ad, e, hc⟩ := (show ∃ ad, [a.eval x] = [Value.pointer (some ad)] ∧ ∃ c, c.length = t.size ∧ At w (st.cx X hd w).N ad c ∧ Rc w (st.cx X hd w).N t y c from hx)
   have e' : a.eval x = .pointer (some ad) := by simpa using e
   refine wp_value (v := .pointer (some ad)) (w' := w) ?_ (put_ok h (v := .dp t y) (show Rc w (st.cx X hd w).N (.ptr t) y [Value.pointer (some ad)] from ⟨ad, rfl, hc⟩) hk hr)
   simp [execOp, ho, e']
 ·cases hr
theorem All2.range {α β : Type} {R : α → β → Prop} {l l' : List α} {m m' : List β} (h : All2 R l m) (h' : All2 R l' m') (i : Nat) : All2 R (l.take i ++ l' ++ l.drop (i + l'.length)) (m.take i ++ m' ++ m.drop (i + m'.length)) := by
 rw [h'.length]
 exact ((h.take i).append h').append (h.drop _)
theorem storeC_ok {p : AV} {v : Value} {vs : List AV} {us : List Value} {k : St → Option R} (h : Rel w0 M X hd st a w) (hp : Rt (st.cx X hd w) p v) (ha : All2 (R1 (st.cx X hd w)) vs us)
  (h1 : ∀ u ∈ us, u.oneCell' = true) (hr : storeC st vs k p = some r) :
  ∃ ad w' st', v = .pointer (some ad) ∧ (storeCells ad us).run P w = .ok () w' ∧ Rel w0 M X hd st' a w' ∧ k st' = some r := by
 cases p with
 | box b i =>
  obtain ⟨blk, n, r', hf, hs, hi, hh, hv⟩ := hp
  have hf : st.find b = some blk := hf
  have hh : hd b = _ := hh
  simp only [storeC, hf] at hr
  cases blk with
  | cells cs =>
   simp only at hr
   split at hr
   ·rename_i hle
    have hle := Nat.le_of_ble_eq_true hle
    obtain ⟨r1, xs, e, hh1, hg, hc⟩ := h.blocks b _ hf
    have : r1 = r' := by have := (show hd b = _ from hh1).symm.trans hh; simpa using this
    subst this
    have hg : w.heap[r1]? = _ := hg
    have hlen := hc.length
    have hlen' := ha.length
    have hst := run_storeCells_at P r1 i e us 0 xs.toArray w hg (by simp; omega) h1
    simp only [Nat.add_zero] at hst
    refine ⟨_, _, _, hv, hst, ?_, hr⟩
    refine h.write hf rfl ?_ rfl rfl rfl (setRow_size _ _ _) ?_ ?_
    ·simp only [Blk.shape, setRange, List.length_append, List.length_take, List.length_drop]
     congr 1
     omega
    ·intro c hc'
     refine setRow_other _ _ _ _ fun e' => hc' ?_
     rw [hh, e']; rfl
    ·intro g
     refine ⟨r1, _, e, hh, setRow_heap _ _ _ _ _ _ hg, ?_⟩
     have := All2.range hc ha i
     refine All2.mono (R := R1 (st.cx X hd w)) (fun x y hxy => R1.go g hxy) ?_
     exact this
   ·cases hr
  | _ => cases hs
 | ep b i =>
  simp only [storeC] at hr
  split at hr
  ·cases hr
  ·rename_i st1 hfz
   obtain ⟨h2, hfr, _, _, htm, hsh, _⟩ := frzN_ok h hfz
   obtain ⟨blk, e, t, n, r', off, m, cap, hf, hs, hi, hh, hv⟩ := hp
   obtain ⟨blk1, hf1, hs1⟩ := hsh b blk hf
   have hh : hd b = _ := hh
   split at hr
   ·rename_i e1 t1 l1 hf1'
    rw [hf1'] at hf1
    cases hf1
    rw [hs] at hs1
    simp only [Blk.shape, Shape.row.injEq] at hs1
    obtain ⟨rfl, rfl, rfl⟩ := hs1
    split at hr
    ·rename_i hsz
     have hsz := Nat.eq_of_beq_eq_true hsz
     split at hr
     ·rename_i x hx
      -- the cells in the state that is frozen
      have hcx : Goes some (st.cx X hd w) (st1.cx X hd w) := frzN_goes h hfz
      have ha1 : All2 (R1 (st1.cx X hd w)) vs us := ha.mono fun _ _ => R1.go hcx
      have hx' := cellsData_ok h2.blocks h2.clear t1 vs us x ha1 hfr hx
      obtain ⟨xs, hown, hE⟩ := h2.blocks b _ hf1'
      have hown : w.ownsRow 0 e1 t1.size (hd b) (List.length l1) xs := hown
      rcases hown.2 with ⟨hn, _⟩ | ⟨g, cap', cur, hvg, _, hg, hnc, hcm, hcs, htake⟩
      ·rw [hh] at hn; cases hn
      ·have hgr : g = r' ∧ m = List.length l1 := by rw [hh] at hvg; simp at hvg; exact ⟨hvg.1.1.symm, hvg.2.1⟩
       obtain ⟨rfl, rfl⟩ := hgr
       obtain rfl := row_off (w := w) hown hh
       rw [Nat.zero_add] at hv
       have hlen' := hx'.length
       have hb1 : i * t1.size + t1.size ≤ List.length l1 * t1.size := by
        have : (i + 1) * t1.size ≤ List.length l1 * t1.size := Nat.mul_le_mul_right _ hi
        rw [Nat.add_mul] at this; omega
       have hb2 : List.length l1 * t1.size ≤ cap' * t1.size := Nat.mul_le_mul_right _ hnc
       have hst := run_storeCells_at P g (i * t1.size) e1 us 0 cur w hg (by omega) h1
       simp only [Nat.add_zero] at hst
       refine ⟨_, _, _, hv, hst, ?_, hr⟩
       refine h2.write hf1' rfl (by simp [Blk.shape]) rfl rfl rfl (setRow_size _ _ _) ?_ ?_
       ·intro c hc'
        refine setRow_other _ _ _ _ fun e' => hc' ?_
        rw [hh, e']; rfl
       ·intro g1
        refine ⟨xs.take (i * t1.size) ++ us ++ xs.drop (i * t1.size + t1.size), ⟨?_, .inr ⟨g, cap', _, hvg.trans (by rw [List.length_set]), Nat.zero_le _, setRow_heap _ _ _ _ _ _ hg, by rw [List.length_set]; exact hnc, hcm, ?_, ?_⟩⟩, ?_⟩
        ·have := hown.1
         simp only [List.length_append, List.length_take, List.length_drop, List.length_set]
         omega
        ·simp only [List.size_toArray, List.length_append, List.length_take, List.length_drop, Array.length_toList]
         omega
        ·have e2 := take_mid (C := cur.toList) (us := us) (p := i * t1.size) (n := List.length l1 * t1.size) (by omega) (by have e3 : cur.toList.length = cap' * t1.size := by { rw [Array.length_toList]; exact hcs }; rw [e3]; exact hb2)
         rw [show cur.toList.take (List.length l1 * t1.size) = xs from htake, hlen'] at e2
         rw [List.length_set, hlen']
         exact e2
        ·exact (Elems.set hx' hE i hi).move g1.move
     ·cases hr
    ·cases hr
   ·cases hr
 | _ => cases hr
end
end Go.V
end
section
namespace Go.V
open Go Go.RowKit
set_option linter.unusedVariables false
set_option linter.unusedSimpArgs false
section
variable {P : Program} {E : En} {R : Type} {w0 : World} {M : Mo} {X : Nat → Prop} {hd : Nat → Value} {st : St} {a : Act} {w : World}
variable {k : St → Option R} {r : R} {K : Act → World → Prop} {Q : Exit → Act → World → Prop} {o : Oper}
theorem AV.known_settle {v : AV} (h : v.known = true) : v.known = true := h
theorem store_ok {t : TypeId} {p x : Operand} (ht : TbOK P E.tb) (ho : o.op = .store t p x) (h : Rel w0 M X hd st a w) (hk : Next w0 M X k r K) (hr : opK E o st k = some r) : o.wp P a w K Q := by
 simp only [opK, ho] at hr
 split at hr
 ·rename_i i hi
  obtain ⟨en⟩ := ht.entry hi
  split at hr
  ·rename_i vs hvs
   split at hr
   ·rename_i hsz
    have hsz := Nat.eq_of_beq_eq_true hsz
    split at hr
    ·rename_i hkn
     obtain ⟨us, hx, ha⟩ := cellsOf_ok (ev_ok h x) hvs
     have h1 := ha.one1 (fun v hv => AV.known_settle (List.all_eq_true.1 hkn v hv))
     obtain ⟨ad, w', st', hp, hst, hrel, hr'⟩ := storeC_ok (P := P) h (ev_ok h p) ha.settle h1 hr
     refine wp_skip' (w' := w') ?_ (put_ok hrel (show Rt (st'.cx X hd w') .undef undef from True.intro) hk hr')
     have hlen := ha.length
     simp [execOp, ho, hp, Instr.storeAt, Instr.sureAddr, storeVar, hx, run_sizeOf' en, ← hsz, hlen, hst]
    ·cases hr
   ·cases hr
  ·cases hr
 ·cases hr
theorem add_add (ad : Addr) (m n : Nat) : (ad.add m).add n = ad.add (m + n) := by
 unfold Addr.add
 by_cases h1 : m = 0
 ·subst h1; simp
 ·by_cases h2 : n = 0
  ·subst h2; simp
  ·simp [h1, h2]; omega
theorem At.left {N : Nat → Prop} {ad : Addr} {c d : List Value} (h : At w N ad (c ++ d)) : At w N ad c := by
 intro j hj
 have := h j (by simp; omega)
 rw [List.getElem_append_left hj] at this
 exact this
theorem At.right {N : Nat → Prop} {ad : Addr} {c d : List Value} (h : At w N ad (c ++ d)) : At w N (ad.add c.length) d := by
 intro j hj
 have := h (c.length + j) (by simp; omega)
 rw [List.getElem_append_right (by omega)] at this
 rw [add_add]
 simpa using this
theorem partD_ok {N : Nat → Prop} {want : Ty} : ∀ {t : Ty} {x : t.den} {o : Nat} {ad : Addr} {c : List Value} {y : want.den}, Rc w N t x c → At w N ad c → partD want t x o = some y →
  ∃ c', c'.length = want.size ∧ At w N (ad.add o) c' ∧ Rc w N want y c' := by
 have leaf : ∀ {t : Ty} {x : t.den} {o : Nat} {ad : Addr} {c : List Value} {y : want.den}, Rc w N t x c → At w N ad c → (match Nat.beq o 0 with | true => cast? t want x | false => none) = some y →
   ∃ c', c'.length = want.size ∧ At w N (ad.add o) c' ∧ Rc w N want y c' := by
  intro t x o ad c y hr hat h
  split at h
  ·rename_i he
   have he := Nat.eq_of_beq_eq_true he
   subst he
   obtain ⟨rfl, rfl⟩ := cast?_some h
   exact ⟨c, hr.length, by simpa [Addr.add] using hat, hr⟩
  ·cases h
 intro t
 induction t with
 | struct t ih =>
  intro x o ad c y hr hat h
  rw [partD] at h
  split at h
  ·rename_i he hc
   cases h
   have he := Nat.eq_of_beq_eq_true he
   subst he
   obtain ⟨rfl, rfl⟩ := cast?_some hc
   exact ⟨c, hr.length, by simpa [Addr.add] using hat, hr⟩
  ·exact ih (show Rc w N t x c from hr) hat h
 | pair a b iha ihb =>
  intro x o ad c y hr hat h
  obtain ⟨c1, c2, rfl, h1, h2⟩ := hr
  rw [partD] at h
  split at h
  ·exact iha h1 hat.left h
  ·rename_i hlt
   obtain ⟨c', q1, q2, q3⟩ := ihb h2 hat.right h
   refine ⟨c', q1, ?_, q3⟩
   have hge : a.size ≤ o := by
    rcases Nat.lt_or_ge o a.size with hh | hh
    ·rw [show Nat.blt o a.size = true by simpa [Nat.blt_eq] using hh] at hlt; cases hlt
    ·exact hh
   rw [add_add, h1.length, show a.size + (o - a.size) = o by omega] at q2
   exact q2
 | _ => intro x o ad c y hr hat h; exact leaf hr hat h
theorem fieldAddr_ok {t : TypeId} {p : Operand} {f : Nat} (ht : TbOK P E.tb) (ho : o.op = .fieldAddr t p f) (h : Rel w0 M X hd st a w) (hk : Next w0 M X k r K) (hr : opK E o st k = some r) : o.wp P a w K Q := by
 have hp := ev_ok h p
 simp only [opK, ho] at hr
 split at hr
 ·rename_i fs n1 n2 n3 hi
  obtain ⟨en⟩ := ht.entry hi
  obtain ⟨F, hF, hfs⟩ := struct_of en rfl
  split at hr
  ·rename_i off ft hft
   split at hr
   ·cases hr
   ·rename_i i hti
    obtain ⟨en'⟩ := ht.entry hti
    split at hr
    ·cases hr
    ·rename_i hpos
     have hpos : 0 < i.size := by simpa [Nat.blt_eq] using hpos
     rw [hfs, List.getElem?_map] at hft
     obtain ⟨fl, hfl, he⟩ := Option.map_eq_some_iff.1 hft
     simp only [Prod.mk.injEq] at he
     obtain ⟨rfl, rfl⟩ := he
     have hfl : F[f]? = some fl := by simpa using hfl
     have key : ∀ {ad : Addr} {v : AV}, a.eval p = .pointer (some ad) → Rt (st.cx X hd w) v (.pointer (some (ad.add fl.offset))) → st.put o.dst v k = some r → o.wp P a w K Q := by
      intro ad v hpv hv hr
      refine wp_value (v := .pointer (some (ad.add fl.offset))) (w' := w) ?_ (put_ok h hv hk hr)
      simp [execOp, ho, hpv, Instr.fieldAt, run_underlying hF, hfl, Instr.sureAddr, fieldPlace, run_sizeOf' en', Nat.ne_of_gt hpos]
     split at hr
     ·rename_i b j hv
      rw [hv] at hp
      obtain ⟨blk, n, r', hf, hs, hi', hh, hpv⟩ := hp
      have hf : st.find b = some blk := hf
      rw [hf] at hr
      cases blk with
      | cells cs =>
       simp only at hr
       split at hr
       ·rename_i hlt
        refine key hpv ?_ hr
        rw [add_lit]
        exact ⟨.cells cs, cs.length, r', hf, rfl, by simpa [Nat.blt_eq] using hlt, hh, rfl⟩
       ·cases hr
      | _ => cases hs
     ·rename_i s x hv
      rw [hv] at hp
      split at hr
      ·rename_i want hw
       split at hr
       ·rename_i y hy
        obtain ⟨ad, e, c, hl, hat, hrc⟩ := (show Rc w (st.cx X hd w).N (.ptr s) x [a.eval p] from hp)
        obtain ⟨c', q1, q2, q3⟩ := partD_ok hrc hat hy
        refine key (v := .dp want y) (by simpa using e) ?_ hr
        exact (show Rc w (st.cx X hd w).N (.ptr want) y [_] from ⟨_, rfl, c', q1, q2, q3⟩)
       ·cases hr
      ·cases hr
     ·cases hr
  ·cases hr
 ·cases hr
theorem getD_lt {α : Type} (l : List α) (n : Nat) (d : α) (h : n < l.length) : l.getD n d = l.get ⟨n, h⟩ := by simp [List.getD, List.getElem?_eq_getElem h]
theorem idxK_ok {i : Int} {n : Nat} {x : Option R} (h : idxK i n x = some r) : 0 ≤ i ∧ i.toNat < n ∧ i < n ∧ x = some r := by
 unfold idxK at h
 split at h
 ·split at h
  ·exact ⟨by assumption, by omega, by assumption, h⟩
  ·cases h
 ·cases h
theorem run_indexAt {t e : TypeId} {te : TI} (hs : P.underlying t = some (.slice e)) (en : Entry P e te) {j : IntKind} {i : Int} {ad : Addr} {n cap : Nat} (h0 : 0 ≤ i) (h1 : i < n) :
  (Instr.indexAt t (.slice (some ad) n cap) (.int j i)).run P w = .ok (.pointer (some (ad.add (i.toNat * te.size)))) w := by
 simp [Instr.indexAt, asIntOf, run_underlying hs, h0, h1, run_sizeOf' en]
theorem indexAddr_ok {t : TypeId} {x ix : Operand} (ht : TbOK P E.tb) (ho : o.op = .indexAddr t x ix) (h : Rel w0 M X hd st a w) (hk : Next w0 M X k r K) (hr : opK E o st k = some r) : o.wp P a w K Q := by
 have hx := ev_ok h x
 have hix := ev_ok h ix
 simp only [opK, ho] at hr
 split at hr
 ·rename_i e n1 n2 n3 hi
  obtain ⟨en⟩ := ht.entry hi
  have hsl := slice_of en rfl
  split at hr
  ·cases hr
  ·rename_i te hte
   obtain ⟨en'⟩ := ht.entry hte
   split at hr
   ·rename_i j i hiv
    rw [hiv] at hix
    have hix : a.eval ix = .int j i := by simpa using (show [a.eval ix] = [Value.int j i] from hix)
    have key : ∀ (i : Int) {ad : Addr} {n cap : Nat} {v : AV}, a.eval ix = .int j i → a.eval x = .slice (some ad) n cap → 0 ≤ i → i < (n : Int) → Rt (st.cx X hd w) v (.pointer (some (ad.add (Int.toNat i * te.size)))) → st.put o.dst v k = some r → o.wp P a w K Q := by
     intro i ad n cap v hix hxv h0 h1 hv hr
     refine wp_value (v := .pointer (some (ad.add (Int.toNat i * te.size)))) (w' := w) ?_ (put_ok h hv hk hr)
     have := run_indexAt (w := w) (j := j) (cap := cap) (ad := ad) hsl en' h0 h1
     simp [execOp, ho, hxv, hix, this]
    split at hr
    ·rename_i s l hv
     rw [hv] at hx
     split at hr
     ·rename_i hsz
      have hsz := Nat.eq_of_beq_eq_true hsz
      obtain ⟨h0, h1, h1', hr⟩ := idxK_ok hr
      obtain ⟨A, cap, e1, _, _, hel⟩ := (show Rc w (st.cx X hd w).N (.list s) l [a.eval x] from hx)
      obtain ⟨ad, hA, c, hc, hat, hrc⟩ := hel (Int.toNat i) h1
      subst hA
      refine key i hix (by simpa using e1) h0 h1' ?_ hr
      rw [hsz]
      refine (show Rc w (st.cx X hd w).N (.ptr s) _ [_] from ⟨_, rfl, c, hc, hat, ?_⟩)
      rw [show List.getD l (Int.toNat i) (dflt s) = List.get l ⟨Int.toNat i, h1⟩ from getD_lt _ _ _ h1]
      exact hrc
     ·cases hr
    ·rename_i b hv
     rw [hv] at hx
     obtain ⟨hxv, _, blk, e2, t2, n2', hf, hs⟩ := hx
     have hf : st.find b = some blk := hf
     have hxv : a.eval x = hd b := hxv
     have own : ∀ {e3 : TypeId} {s : Ty} {l : List s.den} {xs : List Value} {N : Nat → Prop}, blk.shape = .row e3 s (List.length l) → w.ownsRow 0 e3 s.size (hd b) (List.length l) xs → te.size = s.size → idxK i (List.length l) (st.put o.dst (.ep b (Int.toNat i)) k) = some r → o.wp P a w K Q := by
      intro e3 s l xs N hsh hown hsz hr
      obtain ⟨h0, h1, h1', hr⟩ := idxK_ok hr
      rcases hown.2 with ⟨_, hn⟩ | ⟨g, cap, cur, hvg, _⟩
      ·omega
      ·refine key i hix (hxv.trans hvg) h0 h1' ?_ hr
       rw [add_lit, hsz, Nat.zero_add]
       exact ⟨blk, e3, s, List.length l, g, 0, List.length l, cap, hf, hsh, h1, hvg, by rw [Nat.zero_add]⟩
     rw [hf] at hr
     cases blk with
     | flat e3 s l =>
      simp only at hr
      split at hr
      ·rename_i hsz
       obtain ⟨xs, hown, hE⟩ := h.blocks b _ hf
       exact own (N := (st.cx X hd w).N) rfl hown (Nat.eq_of_beq_eq_true hsz) hr
      ·cases hr
     | frz e3 s l =>
      simp only at hr
      split at hr
      ·rename_i hsz
       obtain ⟨xs, hown, hE⟩ := h.blocks b _ hf
       exact own (N := (st.cx X hd w).N) rfl hown (Nat.eq_of_beq_eq_true hsz) hr
      ·cases hr
     | que e3 s l =>
      simp only at hr
      split at hr
      ·rename_i hsz
       have hsz := Nat.eq_of_beq_eq_true hsz
       obtain ⟨xs, hown, hE⟩ := h.blocks b _ hf
       obtain ⟨h0, h1, h1', hr⟩ := idxK_ok hr
       rcases hown.2 with ⟨_, hn⟩ | ⟨g, off, cap, cur, hvg, _⟩
       ·omega
       ·refine key i hix (hxv.trans hvg) h0 h1' ?_ hr
        rw [add_lit, hsz]
        exact ⟨_, e3, s, List.length l, g, off, List.length l, cap, hf, rfl, h1, hvg, rfl⟩
      ·cases hr
     | _ => cases hs
    ·cases hr
   ·cases hr
 ·cases hr
end
end Go.V
end
section
namespace Go.V
open Go Go.RowKit
set_option linter.unusedVariables false
set_option linter.unusedSimpArgs false
theorem take_set_succ {α : Type} : ∀ (C : List α) (n : Nat) (v : α), n < C.length → (C.set n v).take (n + 1) = C.take n ++ [v]
 | [], _, _, h => by simp at h
 | c :: C, 0, v, _ => by simp
 | c :: C, n + 1, v, h => by simp [take_set_succ C n v (by simpa using h)]
theorem drop_set_lt {α : Type} : ∀ (C : List α) (n m : Nat) (v : α), n < m → (C.set n v).drop m = C.drop m
 | [], _, _, _, _ => by simp
 | c :: C, 0, m + 1, v, _ => by simp
 | c :: C, n + 1, m + 1, v, h => by simp [drop_set_lt C n m v (by omega)]
theorem foldl_set_list : ∀ (vs : List Value) (off k : Nat) (C : Array Value), off + k + vs.length ≤ C.size →
  (vs.zipIdx k).foldl (fun (cs : Array Value) (x : Value × Nat) => cs.setIfInBounds (off + x.2) x.1) C = (C.toList.take (off + k) ++ vs ++ C.toList.drop (off + k + vs.length)).toArray
 | [], off, k, C, h => by simp
 | v :: vs, off, k, C, h => by
  simp only [List.length_cons] at h
  have hlen : C.toList.length = C.size := Array.length_toList
  simp only [List.zipIdx_cons, List.foldl_cons]
  rw [foldl_set_list vs off (k + 1) _ (by simp; omega), Array.toList_setIfInBounds, ← Nat.add_assoc, take_set_succ _ _ _ (by omega), drop_set_lt _ _ _ _ (by omega)]
  simp only [List.append_assoc, List.singleton_append, List.length_cons, List.cons_append, List.nil_append]
  rw [show off + k + 1 + vs.length = off + k + (vs.length + 1) by omega]
theorem foldl_set (vs : Array Value) (off : Nat) (C : Array Value) (h : off + vs.size ≤ C.size) :
  vs.zipIdx.foldl (fun (cs : Array Value) (x : Value × Nat) => cs.setIfInBounds (off + x.2) x.1) C = (C.toList.take off ++ vs.toList ++ C.toList.drop (off + vs.size)).toArray := by
 have := foldl_set_list vs.toList off 0 C (by simpa using h)
 rw [← Array.foldl_toList, Array.toList_zipIdx]
 simpa using this
section
variable {P : Program} {E : En} {R : Type} {w0 : World} {M : Mo} {X : Nat → Prop} {hd : Nat → Value} {st : St} {a : Act} {w : World}
variable {k : St → Option R} {r : R} {K : Act → World → Prop} {Q : Exit → Act → World → Prop} {o : Oper}
theorem fillA_ok {c : Cx} (ht : TbOK P E.tb) {fs : List (Nat × TypeId)} {places : List (Nat × Nat)} (hp : ∀ (j o : Nat) (t : TypeId) (i : TI), fs[j]? = some (o, t) → E.tb t = some i → places[j]? = some (o, i.size)) :
  ∀ {parts : List (Nat × AV)} {vparts : List (Nat × Value)} {cells cs : List AV} {vcells : List Value}, All2 (fun p q => p.1 = q.1 ∧ Rt c p.2 q.2) parts vparts → All2 (R1 c) cells vcells → fillA fs E.tb cells parts = some cs →
  ∃ vs, Instr.fill (places.toArray[·]?) vcells.toArray vparts = some (List.toArray vs) ∧ All2 (R1 c) cs vs
 | [], [], cells, cs, vcells, _, hc, h => by
  cases h
  exact ⟨vcells, rfl, hc⟩
 | (j, v) :: parts, (j', x) :: vparts, cells, cs, vcells, hpt, hc, h => by
  obtain ⟨⟨rfl, hv⟩, hpt⟩ := hpt
  unfold fillA at h
  split at h
  ·rename_i o t hf
   split at h
   ·rename_i i hi
    split at h
    ·rename_i vs hvs
     obtain ⟨us, hx, ha⟩ := cellsOf_ok hv hvs
     split at h
     ·rename_i h1 h2
      have h1 := Nat.eq_of_beq_eq_true h1
      have h2 := Nat.le_of_ble_eq_true h2
      have hl := ha.length
      have hl' := hc.length
      have hrange := All2.range hc ha.settle o
      obtain ⟨ws, hw, hr⟩ := fillA_ok ht hp hpt hrange h
      refine ⟨ws, ?_, hr⟩
      have hpl := hp j o t i hf hi
      have hsz : x.cells.size = i.size := by rw [hx]; simp; omega
      have hpl' : places.toArray[j]? = some (o, i.size) := by simpa using hpl
      unfold Instr.fill
      simp only [hpl']
      rw [if_neg (by simp [hsz]; simp only [List.length_map] at *; omega), foldl_set x.cells o vcells.toArray (by rw [hsz]; simp; omega)]
      rw [← hw, show x.cells = _ from hx]
      simp
     ·cases h
    ·cases h
   ·cases h
  ·cases h
 | [], _ :: _, _, _, _, h, _, _ => h.elim
 | _ :: _, [], _, _, _, h, _, _ => h.elim
theorem places_ok (ht : TbOK P E.tb) : ∀ (F : List Field), ((F.map fun f => (f.offset, f.type)).all fun f => (E.tb f.2).isSome) = true →
  ∃ places, F.mapM (fun f => (P.info? f.type).map fun i => (f.offset, i.size)) = some places ∧ ∀ (j o : Nat) (t : TypeId) (i : TI), (F.map fun f => (f.offset, f.type))[j]? = some (o, t) → E.tb t = some i → places[j]? = some (o, i.size)
 | [], _ => ⟨[], rfl, by simp⟩
 | f :: F, h => by
  simp only [List.map_cons, List.all_cons, Bool.and_eq_true] at h
  obtain ⟨places, hp, hq⟩ := places_ok ht F h.2
  obtain ⟨i, hi⟩ := Option.isSome_iff_exists.1 h.1
  obtain ⟨en⟩ := ht.entry hi
  refine ⟨(f.offset, i.size) :: places, by simp [List.mapM_cons, hp, en.hi, en.hsize], ?_⟩
  intro j o t i' hj hi'
  cases j with
  | zero =>
   simp at hj
   obtain ⟨rfl, rfl⟩ := hj
   rw [hi] at hi'
   cases hi'
   rfl
  | succ j => exact hq j o t i' (by simpa using hj) hi'
theorem build_ok {t : TypeId} {parts : Array (Nat × Operand)} (ht : TbOK P E.tb) (ho : o.op = .build t parts) (h : Rel w0 M X hd st a w) (hk : Next w0 M X k r K) (hr : opK E o st k = some r) : o.wp P a w K Q := by
 simp only [opK, ho] at hr
 split at hr
 ·rename_i i hi
  obtain ⟨en⟩ := ht.entry hi
  split at hr
  ·rename_i fs htk
   obtain ⟨F, hF, rfl⟩ := struct_of en htk
   split at hr
   ·rename_i hall
    split at hr
    ·rename_i cs hcs
     obtain ⟨places, hp, hq⟩ := places_ok ht F.toList hall
     have hz : All2 (R1 (st.cx X hd w)) (i.zero.map constAV) i.zero := constL_ok _
     have hparts : All2 (fun (p : Nat × AV) (q : Nat × Value) => p.1 = q.1 ∧ Rt (st.cx X hd w) p.2 q.2) (parts.toList.map fun p => (p.1, st.ev p.2)) (parts.toList.map fun p => (p.1, a.eval p.2)) :=
      All2.map _ _ _ fun p _ => ⟨rfl, ev_ok h p.2⟩
     obtain ⟨vs, hf, ha⟩ := fillA_ok ht hq hparts hz hcs
     have hb : P.built t (parts.map fun (i, x) => (i, a.eval x)).toList = some vs.toArray := by
      unfold Program.built
      simp only [en.hi, hF, en.hz, hp]
      rw [← hf, en.hzero]
      simp [Function.comp_def]
     refine wp_value (v := .agg vs.toArray) (w' := w) ?_ (put_ok h (v := AV.agg cs) (show Rt (st.cx X hd w) (AV.agg cs) _ from ⟨vs, rfl, ha⟩) hk hr)
     have := run_build w t _ _ hb
     simp [execOp, ho, this]
    ·cases hr
   ·cases hr
  ·cases hr
 ·cases hr
theorem field_ok {t : TypeId} {x : Operand} {f : Nat} (ht : TbOK P E.tb) (ho : o.op = .field t x f) (h : Rel w0 M X hd st a w) (hk : Next w0 M X k r K) (hr : opK E o st k = some r) : o.wp P a w K Q := by
 have hx := ev_ok h x
 simp only [opK, ho] at hr
 split at hr
 ·rename_i fs n1 n2 n3 hi
  obtain ⟨en⟩ := ht.entry hi
  obtain ⟨F, hF, rfl⟩ := struct_of en rfl
  split at hr
  ·rename_i off ft hft
   split at hr
   ·rename_i i cs hti hv
    obtain ⟨en'⟩ := ht.entry hti
    rw [hv] at hx
    obtain ⟨vs, hxv, ha⟩ := hx
    rw [List.getElem?_map] at hft
    obtain ⟨fl, hfl, he⟩ := Option.map_eq_some_iff.1 hft
    simp only [Prod.mk.injEq] at he
    obtain ⟨rfl, rfl⟩ := he
    have hfl : F[f]? = some fl := by simpa using hfl
    split at hr
    ·rename_i hle
     have hle := Nat.le_of_ble_eq_true hle
     split at hr
     ·rename_i v hvv
      have hl := ha.length
      have ha' := (ha.drop fl.offset).take i.size
      have key : ∃ y, (part fl.type vs.toArray fl.offset).run P w = .ok y w ∧ Rt (st.cx X hd w) v y := by
       unfold valOf at hvv
       have hkn : i.tk.known = true := by cases h : i.tk <;> first | rfl | (rw [h] at hvv; cases hvv)
       have hagg := run_isAgg' (w := w) en' hkn
       cases htk : i.tk with
       | struct q' fs' =>
        rw [htk] at hvv hagg
        cases hvv
        refine ⟨.agg (vs.toArray.extract fl.offset (fl.offset + i.size)), by simp [part, hagg, TK.isAgg, run_sizeOf' en'], (vs.drop fl.offset).take i.size, ?_, ha'⟩
        congr 1
        apply Array.toList_inj.1
        simp [Array.toList_extract, List.extract, List.take_drop]
       | other => rw [htk] at hvv; cases hvv
       | _ =>
        rw [htk] at hvv hagg
        simp only at hvv
        split at hvv
        ·rename_i u hu
         cases hvv
         rw [hu] at ha'
         obtain ⟨y, hy, hyr⟩ := ha'.one
         refine ⟨y, ?_, Rt.of1 hyr⟩
         have h0 : vs[fl.offset]? = some y := by
          have : ((vs.drop fl.offset).take i.size)[0]? = some y := by rw [hy]; rfl
          rw [List.getElem?_take] at this
          split at this
          ·simpa using this
          ·cases this
         simp [part, hagg, TK.isAgg, h0]
        ·cases hvv
      obtain ⟨y, hy, hyr⟩ := key
      refine wp_value (v := y) (w' := w) ?_ (put_ok h hyr hk hr)
      simp [execOp, ho, hxv, Instr.field, run_underlying hF, hfl, asAgg, hy]
     ·cases hr
    ·cases hr
   ·cases hr
  ·cases hr
 ·cases hr
end
end Go.V
end
section
namespace Go.V
open Go Go.RowKit
set_option linter.unusedVariables false
set_option linter.unusedSimpArgs false
section
variable {P : Program} {E : En} {R : Type} {w0 : World} {M : Mo} {X : Nat → Prop} {hd : Nat → Value} {st : St} {a : Act} {w : World}
variable {k : St → Option R} {r : R} {K : Act → World → Prop} {Q : Exit → Act → World → Prop} {o : Oper}
theorem eqParts_ok {tb : TypeId → Option TI} (ht : TbOK P tb) {c : Cx} {US VS : List Value} : ∀ {fs : List Field} {n : Nat} {xs ys : List AV} {b : Bool}, (∀ f ∈ fs, (f.name != "_") = true) → eqParts tb (fs.map fun f => (f.offset, f.type)) n xs ys = some b → All2 (R1 c) xs (US.drop n) → All2 (R1 c) ys (VS.drop n) →
  (Op.eqFields 9999 US.toArray VS.toArray fs).run P w = .ok b w
 | [], n, [], [], b, _, h, _, _ => by
  cases (show some true = some b from h)
  rfl
 | [], n, _ :: _, ys, b, _, h, _, _ => by cases ys <;> cases h
 | [], n, [], _ :: _, b, _, h, _, _ => by cases h
 | f :: fs, n, [], ys, b, _, h, _, _ => by cases ys <;> cases h
 | f :: fs, n, x :: xs, [], b, _, h, _, _ => by
  cases x with
  | dat t v => cases t <;> cases h
  | _ => cases h
 | f :: fs, n, x :: xs, y :: ys, b, hn, h, hx, hy => by
  cases x with
  | dat t v =>
   cases t with
   | int j =>
    cases y with
    | dat t' v' =>
     cases t' with
     | int j' =>
      have h : (match tb f.type, Nat.beq f.offset n, decide (j = j') with
       | some ⟨.int j2, 1, _, _⟩, true, true => match eqParts tb (fs.map fun f => (f.offset, f.type)) (n + 1) xs ys with
        | some r => some (eqI v v' && r)
        | none => none
       | _, _, _ => none) = some b := h
      split at h
      ·rename_i j2 m1 m2 hti hoff hj
       split at h
       ·rename_i r hr
        cases h
        obtain ⟨en⟩ := ht.entry hti
        have hint := int_of en rfl
        have hoff := Nat.eq_of_beq_eq_true hoff
        have hj : j = j' := of_decide_eq_true hj
        subst hj
        cases hU : US.drop n with
        | nil => rw [hU] at hx; exact hx.elim
        | cons u us =>
         cases hV : VS.drop n with
         | nil => rw [hV] at hy; exact hy.elim
         | cons v2 vs =>
          rw [hU] at hx
          rw [hV] at hy
          have hu : u = .int j v := by simpa using (show [u] = [Value.int j v] from hx.1)
          have hv : v2 = .int j v' := by simpa using (show [v2] = [Value.int j v'] from hy.1)
          have gU : US[n]? = some (.int j v) := by
           have := congrArg (·[0]?) hU
           simpa [List.getElem?_drop, hu] using this
          have gV : VS[n]? = some (.int j v') := by
           have := congrArg (·[0]?) hV
           simpa [List.getElem?_drop, hv] using this
          have dU : US.drop (n + 1) = us := by rw [← List.drop_drop, hU]; rfl
          have dV : VS.drop (n + 1) = vs := by rw [← List.drop_drop, hV]; rfl
          have rest := eqParts_ok ht (fs := fs) (n := n + 1) (fun g hg => hn g (by simp [hg])) hr (by rw [dU]; exact hx.2) (by rw [dV]; exact hy.2)
          have hagg := run_isAgg' (P := P) (w := w) en (by rfl)
          have hp1 : (part f.type US.toArray f.offset).run P w = .ok (.int j v) w := by
           simp [part, Sem.run_bind, hagg, hoff, gU, TK.isAgg]
          have hp2 : (part f.type VS.toArray f.offset).run P w = .ok (.int j v') w := by
           simp [part, Sem.run_bind, hagg, hoff, gV, TK.isAgg]
          have he : ∀ d, (Op.equalIn (d + 1) f.type (.int j v) (.int j v')).run P w = .ok (eqI v v') w := by
           intro d
           simp only [Op.equalIn, Sem.run_bind, run_underlying hint, Result.andThen_ok, if_true]
           rfl
          have he := he 9998
          have hnm : f.name ≠ "_" := by simpa using hn f (by simp)
          rw [Op.eqFields]
          simp only [if_pos hnm, Sem.run_bind, hp1, hp2, he, Result.andThen_ok]
          cases eqI v v' with
          | true => exact rest
          | false => rfl
       ·cases h
      ·cases h
     | _ => cases h
    | _ => cases h
   | _ => cases y <;> cases h
  | _ => cases y <;> cases h
theorem bin_ok {op : BinOp} {t u : TypeId} {x y : Operand} (ht : TbOK P E.tb) (ho : o.op = .binOp op t x y u)
  (h : Rel w0 M X hd st a w) (hk : Next w0 M X k r K) (hr : opK E o st k = some r) : o.wp P a w K Q := by
 simp only [opK, ho] at hr
 unfold bin2K at hr
 split at hr
 ·rename_i b hq
  have hx := (ev_ok h x).settle
  have hy := (ev_ok h y).settle
  generalize (st.ev x).settle = u1 at hq hx
  generalize (st.ev y).settle = u2 at hq hy
  unfold structQ at hq
  split at hq
  ·rename_i xs ys
   split at hq
   ·rename_i fs m1 m2 m3 hti
    obtain ⟨en⟩ := ht.entry hti
    obtain ⟨F, hF, rfl, hn, hs1, hs2⟩ := structQ_of en rfl
    obtain ⟨us, hxv, ha⟩ := (show ∃ vs : List Value, a.eval x = .agg vs.toArray ∧ All2 (R1 (st.cx X hd w)) xs vs from hx)
    obtain ⟨vs, hyv, hb⟩ := (show ∃ vs : List Value, a.eval y = .agg vs.toArray ∧ All2 (R1 (st.cx X hd w)) ys vs from hy)
    have hfl : P.fieldsOf t = F := by simp [Program.fieldsOf, hF]
    have heq := eqParts_ok (P := P) (w := w) ht (US := us) (VS := vs) hn hq (by simpa using ha) (by simpa using hb)
    have hE : (Op.equal t (.agg us.toArray) (.agg vs.toArray)).run P w = .ok b w := by
     show (Op.equalIn (9999 + 1) t (.agg us.toArray) (.agg vs.toArray)).run P w = _
     rw [run_equalIn_struct (P := P) w 9999 t us.toArray vs.toArray (by rw [hfl]; exact hF) hs1, hfl]
     exact heq
    have hg : (eqGuard op t x y (.agg us.toArray) (.agg vs.toArray)).run P w = .ok () w := by
     unfold eqGuard
     cases op <;> simp [Sem.run_bind, hs2]
    have hrun : (execOp a.eval o).run P w = ((binOp op t (.agg us.toArray) (.agg vs.toArray)).run P w).andThen fun v w => .ok (.value v) w := by
     rw [show execOp a.eval o = _ from by simp only [execOp, ho]; rfl, hxv, hyv]
     simp only [Sem.run_bind, hg, Result.andThen_ok]
     rfl
    unfold eqlK at hr
    split at hr
    ·refine wp_value (w' := w) (v := .bool b) ?_ (put_ok h (v := .dat .bool b) (rfl : [Value.bool b] = [Value.bool b]) hk hr)
     rw [hrun]
     simp only [binOp, Sem.run_bind, hE, Result.andThen_ok, Sem.run_pure]
    ·refine wp_value (w' := w) (v := .bool (!b)) ?_ (put_ok h (v := .dat .bool (!b)) (rfl : [Value.bool (!b)] = [Value.bool (!b)]) hk hr)
     rw [hrun]
     simp only [binOp, Sem.run_bind, hE, Result.andThen_ok, Sem.run_pure]
    ·cases hr
   ·cases hq
  ·cases hq
 ·exact bin0_ok ht ho h hk hr
end
end Go.V
end
