/- Draws of tasks and channels: all roads. Conditions: as each theorem states. My own. -/
import Derived.Test.YtcbhhbkghbnljaaNc
section
set_option linter.unusedVariables false
set_option maxRecDepth 100000
set_option linter.defProp false
namespace Go.Proofs.Ytcbhhbkghbnljaa.Vf
open Go Go.V Go.RowKit Go.Proofs
open Go.Proofs.YtcbhhbkghbnljaaW.PrintWords (Kd aR dC)
open Go.Proofs.YtcbhhbkghbnljaaW.PrintLast
open Go.Proofs.YtcbhhbkghbnljaaW.PrintWords Go.Proofs.YtcbhhbkghbnljaaW.PrintLast in
def ba.T12 : Bool × List (List Nat × List Nat) := (true, [([], []), ([0], [0]), ([1], [1]), ([], []), ([], []), ([3, 4], [3, 4]), ([2, 0, 1, 2, 3, 4, 5], [2]), ([6, 5, 5, 0, 1, 2, 3, 4, 5], [5, 6])])
def ba.B12 : List Nat := [0, 1, 3, 0, 0, 24, 63, 127]
open Go.Proofs.YtcbhhbkghbnljaaW.PrintWords Go.Proofs.YtcbhhbkghbnljaaW.PrintLast in
theorem ba.Av : jJ .any (opsOf Try.f195 12) = ba.T12 := by kernel_rfl
open Go.Proofs.YtcbhhbkghbnljaaW.PrintWords Go.Proofs.YtcbhhbkghbnljaaW.PrintLast in
theorem ba.sO : mZ ba.T12.2 ba.B12 = true := by kernel_rfl
structure WP (k : Nat) (k4 : Nat) (w : World) (X : Nat → Prop) (vc : Value) (code : List Int) (lt : List Int) (ls : List (List Int)) (s0 : dg) (s1 : dg) (a : Int) (c : Int) (p : Int) (q : Int) : Prop where
 hX : ∀ q, X q → q < w.heap.size
 h : Rc w X (.list (.int .u8)) code [vc]
 e1 : bC.f k code = some s0
 e2 : dN.f k s0 = some (lt, s1)
 e3 : di.f lt = some a
 hl : s1.1.length ≤ 9223372036854775807
 e4 : K.ai.f k4 s1.1 s1.2.1 s1.2.2 a = some (ls, p, q)
 e5 : gq.f k lt = some c
def WE (w : World) (X : Nat → Prop) (vc : Value) (lt' : List Int) (ls : List (List Int)) : Prop := Calls Try.prog 195 #[vc] w fun e w' => ∃ u v hs, e = .returned (.tuple #[.agg #[u], v]) ∧ bRL w' X u lt' ∧ lY w' v hs ls ∧ (∀ q, nBl v hs q → w.heap.size ≤ q) ∧ Below w.heap.size w w'
theorem wI : cJ (Try.prog.underlying 86 = some (.slice 29)) ∧ ∃ i0 : TypeInfo, cJ (Try.prog.info? 29 = some i0) ∧ cJ (i0.zero = some (.slice none 0 0)) ∧ cJ (i0.size = 1) ∧ cJ (i0.bytes = 24) := by
 have hinfo : (Try.prog.info? 29).map (fun i => (i.zero, i.size, i.bytes)) = some (some (.slice none 0 0), 1, 24) := by kernel_rfl
 obtain ⟨i0, h1, h2⟩ := Option.map_eq_some_iff.1 hinfo
 simp only [Prod.mk.injEq] at h2
 exact ⟨⟨by kernel_rfl⟩, i0, ⟨h1⟩, ⟨h2.1⟩, ⟨h2.2.1⟩, ⟨h2.2.2⟩⟩
variable {k k4 k8 : Nat} {w : World} {X : Nat → Prop} {vc : Value} {code lt lt' y1 y2 : List Int} {ls lsp : List (List Int)} {s0 s1 s3 s4 s5 s2 : dg} {a c z p q z2 y c2 c3 : Int}
def wq0 (P : WP k k4 w X vc code lt ls s0 s1 a c p q) := cJ.mk (nA.first k P.hX P.h P.e1)
def wq1 (P : WP k k4 w X vc code lt ls s0 s1 a c p q) := cJ.mk (fun (W : World) (g : Nat) (hA : nA w W X g s0) => hA.tasks k P.e2)
def wq2 (P : WP k k4 w X vc code lt ls s0 s1 a c p q) := cJ.mk (fun (W : World) (b2 b5 g : Nat) (vt v : Value) (hs : List Value) (s : dg) (ls : List (List Int)) (hS : nS w W X b2 b5 g s vt lt v hs ls) => nS.num (Ga k) hS P.e3)
def wq3 (P : WP k k4 w X vc code lt ls s0 s1 a c p q) := cJ.mk (fun (W : World) (b2 b5 g : Nat) (vt v : Value) (hs : List Value) (ls0 : List (List Int)) (hS : nS w W X b2 b5 g s1 vt lt v hs ls0) => nS.list k4 hS P.hl P.e4)
def wq4 (P : WP k k4 w X vc code lt ls s0 s1 a c p q) := cJ.mk (fun (W : World) (b2 b5 g : Nat) (vt v : Value) (hs : List Value) (s : dg) (ls : List (List Int)) (hS : nS w W X b2 b5 g s vt lt v hs ls) => nS.num (Oh k) hS P.e5)
def wq5 (w : World) (X : Nat → Prop) (lt : List Int) (ls : List (List Int)) (e9 : ak.f (s1.1, p, q) 24 = some (z, s3)) := cJ.mk (fun (W : World) (b2 b5 g : Nat) (vt v : Value) (hs : List Value) (hS : nS w W X b2 b5 g (s1.1, p, q) vt lt v hs ls) => nS.next hS e9)
def wq6 (w : World) (X : Nat → Prop) (lt : List Int) (ls : List (List Int)) (s3 : dg) := cJ.mk (fun (W : World) (b2 b5 g : Nat) (vt v : Value) (hs : List Value) (hS : nS w W X b2 b5 g s3 vt lt v hs ls) => hS.pre)
def wq7 (w : World) (X : Nat → Prop) (lt : List Int) (ls : List (List Int)) (s3 : dg) := cJ.mk (fun (W : World) (b2 b5 g : Nat) (vt v : Value) (hs : List Value) (hS : nS w W X b2 b5 g s3 vt lt v hs ls) w3 v3 ho hg hb => nS.app (w3 := w3) (v3 := v3) hS ho hg hb)
def wq8 (w : World) (X : Nat → Prop) (ls : List (List Int)) (e10 : aY.f k s3 lt = some (lt', s4)) := cJ.mk (fun (W : World) (b2 b5 g : Nat) (vt v : Value) (hs : List Value) (ls : List (List Int)) (hS : nS w W X b2 b5 g s3 vt lt v hs ls) => nS.bad k hS e10)
def wq9 (w : World) (X : Nat → Prop) (lt : List Int) (s3 : dg) (hn9 : 0 < ls.length) (hn8 : 0 < (ls.getD 0 []).length) := cJ.mk (fun (W : World) (b2 b5 g : Nat) (vt v : Value) (hs : List Value) (hS : nS w W X b2 b5 g s3 vt lt v hs ls) => hS.head hn9 hn8)
def Ky (w : World) (X : Nat → Prop) (lt : List Int) (ls : List (List Int)) (e11 : bT.f s3 [8, -2, 0] = some (z2, s5)) := cJ.mk (fun (W W0 : World) (b2 b5 g : Nat) (vt v u : Value) (hs : List Value) (hS : nS w W X b2 b5 g s3 vt lt v hs ls) (hS0 : nS w W0 X b2 b5 g s3 vt lt v hs ls) (hu : bOw W W0.heap.size u [8, -2, 0]) => nS.pick hS hS0 hu e11)
def Kz (w : World) (X : Nat → Prop) (lt : List Int) (s5 : dg) (hn9 : 0 < ls.length) (hn8 : 0 < (ls.getD 0 []).length) := cJ.mk (fun (W : World) (b2 b5 g : Nat) (vt v : Value) (hs : List Value) (gv cv g1 n1 c1 : Nat) (hS : nS w W X b2 b5 g s5 vt lt v hs ls) (ev : v = .slice (some ⟨gv, 0, none⟩) ls.length cv) (eh : hs.getD 0 undef = .slice (some ⟨g1, 0, none⟩) n1 c1) => hS.KK hn9 hn8 ev eh)
def KA (w : World) (X : Nat → Prop) (lt : List Int) (s5 : dg) (z2 : Int) (hn9 : 0 < ls.length) (hn8 : 0 < (ls.getD 0 []).length) := cJ.mk (fun (W : World) (b2 b5 g : Nat) (vt v : Value) (hs : List Value) (n1 c1 g1 : Nat) (hS : nS w W X b2 b5 g s5 vt lt v hs ls) (he : hs.getD 0 undef = .slice (some ⟨g1, 0, none⟩) n1 c1) => nS.set (y := z2) hS hn9 hn8 he)
def Iq (w : World) (X : Nat → Prop) (ls : List (List Int)) (e10 : aY.f k s5 lt = some (lt', s4)) := cJ.mk (fun (W : World) (b2 b5 g : Nat) (vt v : Value) (hs : List Value) (ls : List (List Int)) (hS : nS w W X b2 b5 g s5 vt lt v hs ls) => nS.bad k hS e10)
def rh (w : World) (X : Nat → Prop) (lt : List Int) (ls : List (List Int)) (e6 : ak.f (s1.1, p, q) 2 = some (y, s2)) := cJ.mk (fun (W : World) (b2 b5 g : Nat) (vt v : Value) (hs : List Value) (ls : List (List Int)) (hS : nS w W X b2 b5 g (s1.1, p, q) vt lt v hs ls) => nS.next hS e6)
def yN (w : World) (X : Nat → Prop) (lt : List Int) (ls : List (List Int)) (e9 : ak.f s2 24 = some (z, s3)) := cJ.mk (fun (W : World) (b2 b5 g : Nat) (vt v : Value) (hs : List Value) (hS : nS w W X b2 b5 g s2 vt lt v hs ls) => nS.next hS e9)
def yO (w : World) (X : Nat → Prop) (ls : List (List Int)) (e7 : aq.f k lt 2 = some (y1, y2, c2)) := cJ.mk (fun (W : World) (b2 b5 g : Nat) (vt v : Value) (hs : List Value) (s : dg) (ls : List (List Int)) (hS : nS w W X b2 b5 g s vt lt v hs ls) => nS.least k hS e7)
def ND (w : World) (X : Nat → Prop) (lt : List Int) (ls : List (List Int)) (hn : y2.length ≤ 120) (e8 : K.aa.f k8 a 2 y2 = some (lsp, c3)) := cJ.mk (fun (W : World) (b2 b5 g : Nat) (vt v : Value) (hs : List Value) (s : dg) (ls : List (List Int)) (u : Value) (hS : nS w W X b2 b5 g s vt lt v hs ls) (hu : bRL W (fun _ => False) u y2) => nS.put k8 hS hu (Nat.le_trans hn (by decide)) e8)
def NF (w : World) (X : Nat → Prop) (lt : List Int) (lsp : List (List Int)) (e9 : ak.f s2 24 = some (z, s3)) := cJ.mk (fun (W : World) (b2 b5 g : Nat) (vt v : Value) (hs : List Value) (hS : nS w W X b2 b5 g s2 vt lt v hs lsp) => nS.next hS e9)
set_option maxHeartbeats 4000000 in
theorem Kj (P : WP k k4 w X vc code lt ls s0 s1 a c p q) (hc : c ≠ 0) (e9 : ak.f (s1.1, p, q) 24 = some (z, s3)) (hz : z = 0) (hn9 : ls.length + 1 ≤ 1099511627776) (e10 : aY.f k s3 lt = some (lt', s4)) : WE w X vc lt' (ls ++ [[0]]) := by
 unfold WE
 subst hz
 have H1 := wq0 P
 have H2 := wq1 P
 have H3 := wq2 P
 have H4 := wq3 P
 have H5 := wq4 P
 have hc1 : (c == 0) = false := beq_eq_false_iff_ne.2 hc
 have H9 := wq5 w X lt ls e9
 have HM := cJ.mk (show ls.length + 1 ≤ maxLen ∧ (ls.length + 1) * 24 ≤ 140737488355328 by unfold maxLen; omega)
 obtain ⟨HU, i0, HI0, HZ0, HS0, HY0⟩ := wI
 have H11 := wq6 w X lt ls s3
 have H12 := wq7 w X lt ls s3
 have H10 := wq8 w X ls e10
 clear P hc e9 hn9 e10
 go_enter Try.func195, Try.ntmps195
 go_wp2_with (first
  | (go_at_call 135; (refine H1.out.mono ?_; rintro e w1 ⟨g, rfl, hA⟩))
  | (go_at_call 213; (refine (H2.out _ _ hA).mono ?_; rintro e w2 ⟨vt, rfl, hS0⟩; obtain ⟨tA, tn, tc, rfl⟩ := hS0.tsl; have q0 := hS0.cells))
  | (go_at_call 142; (refine (H3.out _ _ _ _ _ _ _ _ _ hS0).mono ?_; rintro e w3 ⟨rfl, hS1, -⟩; have q1 := hS1.cells))
  | (go_at_call 223; (refine (H4.out _ _ _ _ _ _ _ _ hS1).mono ?_; rintro e w4 ⟨v, hs, rfl, hS2⟩; obtain ⟨vA, vn, vc, rfl⟩ := hS2.vsl; have q2 := hS2.cells; clear hS0 hS1))
  | (go_at_call 146; (refine (H5.out _ _ _ _ _ _ _ _ _ hS2).mono ?_; rintro e w5 ⟨rfl, hS3, -⟩; have q3 := hS3.cells; clear hS2))
  | (go_at_call 147; (refine (H9.out _ _ _ _ _ _ _ hS3).mono ?_; rintro e wz ⟨rfl, hSz⟩; have qz := hSz.cells; clear hS3; have qp := H11.out _ _ _ _ _ _ _ hSz))
  | (at_builtin; (refine wpList_append_own_at _ rfl _ _ 86 rfl 0 29 i0 (.slice none 0 0) 1 24 HU.out HI0.out HZ0.out HS0.out HY0.out rfl (by decide) _ ls.length _ rfl qp.1 ⟨wz.heap.size + 1, 0, none⟩ 1 1 [.slice (some ⟨wz.heap.size, 0, none⟩) 1 1] rfl rfl qp.2 (by intro u hu; rw [List.mem_singleton.1 hu]; rfl) HM.out.1 HM.out.2 (Nat.zero_le _) ?_; intro v10 w10 hown hgr _ hbl; have hSf := H12.out _ _ _ _ _ _ _ hSz _ _ hown hgr hbl; have qy := hSf.cells; obtain ⟨vA10, vn10, vc10, rfl⟩ := hSf.vsl; clear hown hgr hbl hSz))
  | (go_at_call 190; (refine (H10.out _ _ _ _ _ _ _ _ hSf).mono ?_; rintro e wb ⟨u, rfl, hu, hSb⟩; obtain ⟨uA, un, uc, rfl⟩ := hu.sl; obtain ⟨r6, r7⟩ := hSb.two; have hD := hSb.done hu; have r8 := hSb.res (.slice uA un uc); clear hSb hu)))
 refine bodyPost_ret (Go.Proofs.YtcbhhbkghbnljaaW.PrintWords.cW rfl _ _ w.heap.size 35 #[.slice uA un uc] (0, 0) _ rfl r8 Try.underlying35 rfl (by kernel_rfl)) rfl ?_
 exact ⟨_, _, _, rfl, hD⟩
set_option maxHeartbeats 4000000 in
theorem Kk (P : WP k k4 w X vc code lt ls s0 s1 a c p q) (hc : c ≠ 0) (e9 : ak.f (s1.1, p, q) 24 = some (z, s3)) (hz : z = 1) (hn9 : 0 < ls.length) (hn8 : 0 < (ls.getD 0 []).length) (e11 : bT.f s3 [8, -2, 0] = some (z2, s5)) (e10 : aY.f k s5 lt = some (lt', s4)) : WE w X vc lt' (ls.set 0 ((ls.getD 0 []).set 0 z2)) := by
 unfold WE
 subst hz
 have H1 := wq0 P
 have H2 := wq1 P
 have H3 := wq2 P
 have H4 := wq3 P
 have H5 := wq4 P
 have hc1 : (c == 0) = false := beq_eq_false_iff_ne.2 hc
 have H9 := wq5 w X lt ls e9
 have H11 := wq9 w X lt s3 hn9 hn8
 have H12 := Ky w X lt ls e11
 have H13 := Kz w X lt s5 hn9 hn8
 have H14 := KA w X lt s5 z2 hn9 hn8
 have l1 : (0 < ls.length) = True := eq_true hn9
 have H10 := Iq w X ls e10
 clear P hc e9 hn9 hn8 e11 e10
 go_enter Try.func195, Try.ntmps195
 go_wp2_with (first
  | (go_at_call 135; (refine H1.out.mono ?_; rintro e w1 ⟨g, rfl, hA⟩))
  | (go_at_call 213; (refine (H2.out _ _ hA).mono ?_; rintro e w2 ⟨vt, rfl, hS0⟩; obtain ⟨tA, tn, tc, rfl⟩ := hS0.tsl; have q0 := hS0.cells))
  | (go_at_call 142; (refine (H3.out _ _ _ _ _ _ _ _ _ hS0).mono ?_; rintro e w3 ⟨rfl, hS1, -⟩; have q1 := hS1.cells))
  | (go_at_call 223; (refine (H4.out _ _ _ _ _ _ _ _ hS1).mono ?_; rintro e w4 ⟨v, hs, rfl, hS2⟩; obtain ⟨vA, vn, vc, rfl⟩ := hS2.vsl; have q2 := hS2.cells; clear hS0 hS1))
  | (go_at_call 146; (refine (H5.out _ _ _ _ _ _ _ _ _ hS2).mono ?_; rintro e w5 ⟨rfl, hS3, -⟩; have q3 := hS3.cells; clear hS2))
  | (go_at_call 147; (refine (H9.out _ _ _ _ _ _ _ hS3).mono ?_; rintro e wz ⟨rfl, hSz⟩; have qz := hSz.cells; clear hS3; obtain ⟨gv, cv, g1, n1, c1, ev, eh, qa, l2⟩ := H11.out _ _ _ _ _ _ _ hSz)))
 have hSd := hSz.drew
 refine qb (n := 8) (S := fun w' => w'.cell? ⟨gv, 0, none⟩ = some (.slice (some ⟨g1, 0, none⟩) n1 c1)) (ds := [7]) #[false, false, false, false, false, false, false, false] (by kernel_rfl) rfl rfl qa (fun hHeld => ?_); refine jd ba.Av ba.sO (fun HT_ HW_ => ?_)
 generalize wz.drew = wd at hSd hHeld ⊢
 refine dT (i := 0) (N := some 56) (v := ?_) (a' := ?_) #[true, false, false, false, false, false, false, false] rfl rfl (dc HT_.out (by kernel_rfl)) (fun _ _ _ h => h) (Or.inl ⟨by rfl, ?_⟩) ?_ ?_
 rotate_left
 ·intro w'
  go_simp
  with_reducible rfl
 rotate_left
 ·simp only [Act.put, List.setIfInBounds_toArray, List.set_cons_zero, List.set_cons_succ]
  rfl
 refine dT (i := 1) (N := some 57) (v := ?_) (a' := ?_) #[true, true, false, false, false, false, false, false] rfl rfl (dc HT_.out (by kernel_rfl)) (fun _ _ _ h => h) (Or.inl ⟨by rfl, ?_⟩) ?_ ?_
 rotate_left
 ·intro w'
  go_simp
  with_reducible rfl
 rotate_left
 ·simp only [Act.put, List.setIfInBounds_toArray, List.set_cons_zero, List.set_cons_succ]
  rfl
 refine dT (i := 3) (N := some 59) (v := ?_) (a' := ?_) #[true, true, false, true, false, false, false, false] rfl rfl (dc HT_.out (by kernel_rfl)) (fun _ _ _ h => h) (Or.inl ⟨by rfl, ?_⟩) ?_ ?_
 rotate_left
 ·intro w'
  go_simp
  with_reducible rfl
 rotate_left
 ·simp only [Act.put, List.setIfInBounds_toArray, List.set_cons_zero, List.set_cons_succ]
  rfl
 refine uw (i := 2) (N := some 58) (v := ?_) (a' := ?_) #[true, true, true, true, false, false, false, false] rfl rfl (jE HT_.out HW_.out (by kernel_rfl)) (fun _ _ _ h => h) (Or.inl ⟨by rfl, ?_⟩) hHeld ?_ ?_
 rotate_left
 ·intro w' s0
  go_simp
  with_reducible rfl
 rotate_left
 ·simp only [Act.put, List.setIfInBounds_toArray, List.set_cons_zero, List.set_cons_succ]
  rfl
 refine tI (i := 4) (N := some 60) #[true, true, true, true, true, false, false, false] rfl rfl (eX HT_.out (by kernel_rfl)) (by decide) (fun K hK => ?_)
 refine Kd.jh (Kd.int .i64) wd.heap.size 2 ?hg (N := 60) ?hd (xs := ([8, (-2), 0] : List Int)) (inner := [.int .i64 8, .int .i64 (-2), .int .i64 0]) (ok := fun _ => True) (okp := fun _ => True) ?hr ?hp (fun _ hk => hk) trivial (Below.refl _ _) (Nat.le_refl _) (by simp) ?_; (case hd => rfl); (case hg => rfl); (case hr => first | (go_simp; done) | (go_simp; rfl)); (case hp => exact (dC.one (show Kd.M (Kd.int .i64) _ _ _ 8 [.int .i64 8] from rfl) (dC.one (show Kd.M (Kd.int .i64) _ _ _ (-2) [.int .i64 (-2)] from rfl) (dC.one (show Kd.M (Kd.int .i64) _ _ _ 0 [.int .i64 0] from rfl) (dC.none _ _)))))
 intro v625 w73 ho74 hb hg_ hnew_
 have HS0_ := (hb.cell (World.block_lt_of_cell? _ _ (hHeld))).trans (hHeld)
 have hSe := hSd.jP hb
 have hu74 := zR ho74
 obtain ⟨pA, pn, pc, rfl⟩ := bRL.sl (hu74.rl (N := fun _ => False) fun _ _ => id)
 clear hg_ hnew_ ho74
 refine hK.out _ _ (HS0_) (fun hHeld => ?_)
 clear hK K
 refine kY (a' := ?_) ?_ ?_
 rotate_left
 ·show Act.put _ (some 60) _ = _
  simp only [Act.put, List.setIfInBounds_toArray, List.set_cons_zero, List.set_cons_succ]
  rfl
 refine tI (i := 5) (N := some 61) #[true, true, true, true, true, true, false, false] rfl rfl (eX HT_.out (by kernel_rfl)) (by decide) (fun K hK => ?_)
 refine zB Try.func136 (by kernel_rfl) rfl #[.pointer (some ⟨g, 0, none⟩), .slice pA pn pc] (by rfl) rfl rfl (by (try simp only [List.map_toArray, List.map_cons, List.map_nil]); first | done | rfl) ?_
 refine (H12.out _ _ _ _ _ _ _ _ _ hSe hSd hu74).mono ?_
 rintro e w76 ⟨rfl, hSp⟩
 obtain ⟨HS1_, ⟨x68, hx68⟩, hf68⟩ := H13.out _ _ _ _ _ _ _ _ _ _ _ _ hSp rfl eh
 refine ⟨_, rfl, ?_⟩
 refine hK.out _ _ (HS1_) (fun hHeld => ?_)
 clear hK K
 refine kY (a' := ?_) ?_ ?_
 rotate_left
 ·show Act.put _ (some 61) _ = _
  simp only [Act.put, List.setIfInBounds_toArray, List.set_cons_zero, List.set_cons_succ]
  rfl
 refine dT (i := 6) (N := some 62) (v := ?_) (a' := ?_) #[true, true, true, true, true, true, true, false] rfl rfl (dc HT_.out (by kernel_rfl)) (fun _ _ _ h => h) (Or.inl ⟨by rfl, ?_⟩) ?_ ?_
 rotate_left
 ·intro w'
  go_simp
  with_reducible rfl
 rotate_left
 ·simp only [Act.put, List.setIfInBounds_toArray, List.set_cons_zero, List.set_cons_succ]
  rfl
 refine tp (i := 7) (N := none) #[true, true, true, true, true, true, true, true] rfl rfl (eX HT_.out (by kernel_rfl)) (by decide) (fun K hK => ?_)
 refine wB (w1 := ?_) (by rfl) rfl ?_ ?_
 rotate_left
 ·go_simp
  rfl
 refine hK.out _ _ ?_
 clear hK K
 refine vE (mL HT_.out (by kernel_rfl)) ?_
 have hSf := H14.out _ _ _ _ _ _ _ _ _ _ hSp eh
 have qy := hSf.cells
 generalize (w76.setCell ⟨g1, 0, none⟩ (.int .i64 z2)) = w79 at hSf qy ⊢
 go_wp2_with (first
  | (go_at_call 190; (refine (H10.out _ _ _ _ _ _ _ _ hSf).mono ?_; rintro e wb ⟨u, rfl, hu, hSb⟩; obtain ⟨uA, un, uc, rfl⟩ := hu.sl; obtain ⟨r6, r7⟩ := hSb.two; have hD := hSb.done hu; have r8 := hSb.res (.slice uA un uc); clear hSb hu)))
 refine bodyPost_ret (Go.Proofs.YtcbhhbkghbnljaaW.PrintWords.cW rfl _ _ w.heap.size 35 #[.slice uA un uc] (0, 0) _ rfl r8 Try.underlying35 rfl (by kernel_rfl)) rfl ?_
 exact ⟨_, _, _, rfl, hD⟩
set_option maxHeartbeats 4000000 in
theorem Kl (P : WP k k4 w X vc code lt ls s0 s1 a c p q) (hc : c ≠ 0) (e9 : ak.f (s1.1, p, q) 24 = some (z, s3)) (hz0 : z ≠ 0) (hz1 : z ≠ 1) (e10 : aY.f k s3 lt = some (lt', s4)) : WE w X vc lt' ls := by
 unfold WE
 have H1 := wq0 P
 have H2 := wq1 P
 have H3 := wq2 P
 have H4 := wq3 P
 have H5 := wq4 P
 have hc1 : (c == 0) = false := beq_eq_false_iff_ne.2 hc
 have H9 := wq5 w X lt ls e9
 have hz2 : (z == 0) = false := beq_eq_false_iff_ne.2 hz0
 have hz3 : (z == 1) = false := beq_eq_false_iff_ne.2 hz1
 have H10 := wq8 w X ls e10
 clear P hc e9 hz0 hz1 e10
 go_enter Try.func195, Try.ntmps195
 go_wp2_with (first
  | (go_at_call 135; (refine H1.out.mono ?_; rintro e w1 ⟨g, rfl, hA⟩))
  | (go_at_call 213; (refine (H2.out _ _ hA).mono ?_; rintro e w2 ⟨vt, rfl, hS0⟩; obtain ⟨tA, tn, tc, rfl⟩ := hS0.tsl; have q0 := hS0.cells))
  | (go_at_call 142; (refine (H3.out _ _ _ _ _ _ _ _ _ hS0).mono ?_; rintro e w3 ⟨rfl, hS1, -⟩; have q1 := hS1.cells))
  | (go_at_call 223; (refine (H4.out _ _ _ _ _ _ _ _ hS1).mono ?_; rintro e w4 ⟨v, hs, rfl, hS2⟩; obtain ⟨vA, vn, vc, rfl⟩ := hS2.vsl; have q2 := hS2.cells; clear hS0 hS1))
  | (go_at_call 146; (refine (H5.out _ _ _ _ _ _ _ _ _ hS2).mono ?_; rintro e w5 ⟨rfl, hS3, -⟩; have q3 := hS3.cells; clear hS2))
  | (go_at_call 147; (refine (H9.out _ _ _ _ _ _ _ hS3).mono ?_; rintro e wz ⟨rfl, hSz⟩; have qz := hSz.cells; clear hS3))
  | (go_at_call 190; (refine (H10.out _ _ _ _ _ _ _ _ hSz).mono ?_; rintro e wb ⟨u, rfl, hu, hSb⟩; obtain ⟨uA, un, uc, rfl⟩ := hu.sl; obtain ⟨r6, r7⟩ := hSb.two; have hD := hSb.done hu; have r8 := hSb.res (.slice uA un uc); clear hSb hu)))
 refine bodyPost_ret (Go.Proofs.YtcbhhbkghbnljaaW.PrintWords.cW rfl _ _ w.heap.size 35 #[.slice uA un uc] (0, 0) _ rfl r8 Try.underlying35 rfl (by kernel_rfl)) rfl ?_
 exact ⟨_, _, _, rfl, hD⟩
set_option maxHeartbeats 4000000 in
theorem Km (P : WP k k4 w X vc code lt ls s0 s1 a c p q) (hc : c = 0) (e6 : ak.f (s1.1, p, q) 2 = some (y, s2)) (hy : y ≠ 0) (e9 : ak.f s2 24 = some (z, s3)) (hz : z = 0) (hn9 : ls.length + 1 ≤ 1099511627776) (e10 : aY.f k s3 lt = some (lt', s4)) : WE w X vc lt' (ls ++ [[0]]) := by
 unfold WE
 subst hz
 subst hc
 have H1 := wq0 P
 have H2 := wq1 P
 have H3 := wq2 P
 have H4 := wq3 P
 have H5 := wq4 P
 have H6 := rh w X lt ls e6
 have hy1 : (y == 0) = false := beq_eq_false_iff_ne.2 hy
 have H9 := yN w X lt ls e9
 have HM := cJ.mk (show ls.length + 1 ≤ maxLen ∧ (ls.length + 1) * 24 ≤ 140737488355328 by unfold maxLen; omega)
 obtain ⟨HU, i0, HI0, HZ0, HS0, HY0⟩ := wI
 have H11 := wq6 w X lt ls s3
 have H12 := wq7 w X lt ls s3
 have H10 := wq8 w X ls e10
 clear P e6 hy e9 hn9 e10
 go_enter Try.func195, Try.ntmps195
 go_wp2_with (first
  | (go_at_call 135; (refine H1.out.mono ?_; rintro e w1 ⟨g, rfl, hA⟩))
  | (go_at_call 213; (refine (H2.out _ _ hA).mono ?_; rintro e w2 ⟨vt, rfl, hS0⟩; obtain ⟨tA, tn, tc, rfl⟩ := hS0.tsl; have q0 := hS0.cells))
  | (go_at_call 142; (refine (H3.out _ _ _ _ _ _ _ _ _ hS0).mono ?_; rintro e w3 ⟨rfl, hS1, -⟩; have q1 := hS1.cells))
  | (go_at_call 223; (refine (H4.out _ _ _ _ _ _ _ _ hS1).mono ?_; rintro e w4 ⟨v, hs, rfl, hS2⟩; obtain ⟨vA, vn, vc, rfl⟩ := hS2.vsl; have q2 := hS2.cells; clear hS0 hS1))
  | (go_at_call 146; (refine (H5.out _ _ _ _ _ _ _ _ _ hS2).mono ?_; rintro e w5 ⟨rfl, hS3, -⟩; have q3 := hS3.cells; clear hS2))
  | (go_at_call 147; (refine (H6.out _ _ _ _ _ _ _ _ hS3).mono ?_; rintro e w6 ⟨rfl, hS4⟩; have q4 := hS4.cells; clear hS3))
  | (go_at_call 147; (refine (H9.out _ _ _ _ _ _ _ hS4).mono ?_; rintro e wz ⟨rfl, hSz⟩; have qz := hSz.cells; clear hS4; have qp := H11.out _ _ _ _ _ _ _ hSz))
  | (at_builtin; (refine wpList_append_own_at _ rfl _ _ 86 rfl 0 29 i0 (.slice none 0 0) 1 24 HU.out HI0.out HZ0.out HS0.out HY0.out rfl (by decide) _ ls.length _ rfl qp.1 ⟨wz.heap.size + 1, 0, none⟩ 1 1 [.slice (some ⟨wz.heap.size, 0, none⟩) 1 1] rfl rfl qp.2 (by intro u hu; rw [List.mem_singleton.1 hu]; rfl) HM.out.1 HM.out.2 (Nat.zero_le _) ?_; intro v10 w10 hown hgr _ hbl; have hSf := H12.out _ _ _ _ _ _ _ hSz _ _ hown hgr hbl; have qy := hSf.cells; obtain ⟨vA10, vn10, vc10, rfl⟩ := hSf.vsl; clear hown hgr hbl hSz))
  | (go_at_call 190; (refine (H10.out _ _ _ _ _ _ _ _ hSf).mono ?_; rintro e wb ⟨u, rfl, hu, hSb⟩; obtain ⟨uA, un, uc, rfl⟩ := hu.sl; obtain ⟨r6, r7⟩ := hSb.two; have hD := hSb.done hu; have r8 := hSb.res (.slice uA un uc); clear hSb hu)))
 refine bodyPost_ret (Go.Proofs.YtcbhhbkghbnljaaW.PrintWords.cW rfl _ _ w.heap.size 35 #[.slice uA un uc] (0, 0) _ rfl r8 Try.underlying35 rfl (by kernel_rfl)) rfl ?_
 exact ⟨_, _, _, rfl, hD⟩
set_option maxHeartbeats 4000000 in
theorem Kn (P : WP k k4 w X vc code lt ls s0 s1 a c p q) (hc : c = 0) (e6 : ak.f (s1.1, p, q) 2 = some (y, s2)) (hy : y ≠ 0) (e9 : ak.f s2 24 = some (z, s3)) (hz : z = 1) (hn9 : 0 < ls.length) (hn8 : 0 < (ls.getD 0 []).length) (e11 : bT.f s3 [8, -2, 0] = some (z2, s5)) (e10 : aY.f k s5 lt = some (lt', s4)) : WE w X vc lt' (ls.set 0 ((ls.getD 0 []).set 0 z2)) := by
 unfold WE
 subst hz
 subst hc
 have H1 := wq0 P
 have H2 := wq1 P
 have H3 := wq2 P
 have H4 := wq3 P
 have H5 := wq4 P
 have H6 := rh w X lt ls e6
 have hy1 : (y == 0) = false := beq_eq_false_iff_ne.2 hy
 have H9 := yN w X lt ls e9
 have H11 := wq9 w X lt s3 hn9 hn8
 have H12 := Ky w X lt ls e11
 have H13 := Kz w X lt s5 hn9 hn8
 have H14 := KA w X lt s5 z2 hn9 hn8
 have l1 : (0 < ls.length) = True := eq_true hn9
 have H10 := Iq w X ls e10
 clear P e6 hy e9 hn9 hn8 e11 e10
 go_enter Try.func195, Try.ntmps195
 go_wp2_with (first
  | (go_at_call 135; (refine H1.out.mono ?_; rintro e w1 ⟨g, rfl, hA⟩))
  | (go_at_call 213; (refine (H2.out _ _ hA).mono ?_; rintro e w2 ⟨vt, rfl, hS0⟩; obtain ⟨tA, tn, tc, rfl⟩ := hS0.tsl; have q0 := hS0.cells))
  | (go_at_call 142; (refine (H3.out _ _ _ _ _ _ _ _ _ hS0).mono ?_; rintro e w3 ⟨rfl, hS1, -⟩; have q1 := hS1.cells))
  | (go_at_call 223; (refine (H4.out _ _ _ _ _ _ _ _ hS1).mono ?_; rintro e w4 ⟨v, hs, rfl, hS2⟩; obtain ⟨vA, vn, vc, rfl⟩ := hS2.vsl; have q2 := hS2.cells; clear hS0 hS1))
  | (go_at_call 146; (refine (H5.out _ _ _ _ _ _ _ _ _ hS2).mono ?_; rintro e w5 ⟨rfl, hS3, -⟩; have q3 := hS3.cells; clear hS2))
  | (go_at_call 147; (refine (H6.out _ _ _ _ _ _ _ _ hS3).mono ?_; rintro e w6 ⟨rfl, hS4⟩; have q4 := hS4.cells; clear hS3))
  | (go_at_call 147; (refine (H9.out _ _ _ _ _ _ _ hS4).mono ?_; rintro e wz ⟨rfl, hSz⟩; have qz := hSz.cells; clear hS4; obtain ⟨gv, cv, g1, n1, c1, ev, eh, qa, l2⟩ := H11.out _ _ _ _ _ _ _ hSz)))
 have hSd := hSz.drew
 refine qb (n := 8) (S := fun w' => w'.cell? ⟨gv, 0, none⟩ = some (.slice (some ⟨g1, 0, none⟩) n1 c1)) (ds := [7]) #[false, false, false, false, false, false, false, false] (by kernel_rfl) rfl rfl qa (fun hHeld => ?_); refine jd ba.Av ba.sO (fun HT_ HW_ => ?_)
 generalize wz.drew = wd at hSd hHeld ⊢
 refine dT (i := 0) (N := some 56) (v := ?_) (a' := ?_) #[true, false, false, false, false, false, false, false] rfl rfl (dc HT_.out (by kernel_rfl)) (fun _ _ _ h => h) (Or.inl ⟨by rfl, ?_⟩) ?_ ?_
 rotate_left
 ·intro w'
  go_simp
  with_reducible rfl
 rotate_left
 ·simp only [Act.put, List.setIfInBounds_toArray, List.set_cons_zero, List.set_cons_succ]
  rfl
 refine dT (i := 1) (N := some 57) (v := ?_) (a' := ?_) #[true, true, false, false, false, false, false, false] rfl rfl (dc HT_.out (by kernel_rfl)) (fun _ _ _ h => h) (Or.inl ⟨by rfl, ?_⟩) ?_ ?_
 rotate_left
 ·intro w'
  go_simp
  with_reducible rfl
 rotate_left
 ·simp only [Act.put, List.setIfInBounds_toArray, List.set_cons_zero, List.set_cons_succ]
  rfl
 refine dT (i := 3) (N := some 59) (v := ?_) (a' := ?_) #[true, true, false, true, false, false, false, false] rfl rfl (dc HT_.out (by kernel_rfl)) (fun _ _ _ h => h) (Or.inl ⟨by rfl, ?_⟩) ?_ ?_
 rotate_left
 ·intro w'
  go_simp
  with_reducible rfl
 rotate_left
 ·simp only [Act.put, List.setIfInBounds_toArray, List.set_cons_zero, List.set_cons_succ]
  rfl
 refine uw (i := 2) (N := some 58) (v := ?_) (a' := ?_) #[true, true, true, true, false, false, false, false] rfl rfl (jE HT_.out HW_.out (by kernel_rfl)) (fun _ _ _ h => h) (Or.inl ⟨by rfl, ?_⟩) hHeld ?_ ?_
 rotate_left
 ·intro w' s0
  go_simp
  with_reducible rfl
 rotate_left
 ·simp only [Act.put, List.setIfInBounds_toArray, List.set_cons_zero, List.set_cons_succ]
  rfl
 refine tI (i := 4) (N := some 60) #[true, true, true, true, true, false, false, false] rfl rfl (eX HT_.out (by kernel_rfl)) (by decide) (fun K hK => ?_)
 refine Kd.jh (Kd.int .i64) wd.heap.size 2 ?hg (N := 60) ?hd (xs := ([8, (-2), 0] : List Int)) (inner := [.int .i64 8, .int .i64 (-2), .int .i64 0]) (ok := fun _ => True) (okp := fun _ => True) ?hr ?hp (fun _ hk => hk) trivial (Below.refl _ _) (Nat.le_refl _) (by simp) ?_; (case hd => rfl); (case hg => rfl); (case hr => first | (go_simp; done) | (go_simp; rfl)); (case hp => exact (dC.one (show Kd.M (Kd.int .i64) _ _ _ 8 [.int .i64 8] from rfl) (dC.one (show Kd.M (Kd.int .i64) _ _ _ (-2) [.int .i64 (-2)] from rfl) (dC.one (show Kd.M (Kd.int .i64) _ _ _ 0 [.int .i64 0] from rfl) (dC.none _ _)))))
 intro v625 w73 ho74 hb hg_ hnew_
 have HS0_ := (hb.cell (World.block_lt_of_cell? _ _ (hHeld))).trans (hHeld)
 have hSe := hSd.jP hb
 have hu74 := zR ho74
 obtain ⟨pA, pn, pc, rfl⟩ := bRL.sl (hu74.rl (N := fun _ => False) fun _ _ => id)
 clear hg_ hnew_ ho74
 refine hK.out _ _ (HS0_) (fun hHeld => ?_)
 clear hK K
 refine kY (a' := ?_) ?_ ?_
 rotate_left
 ·show Act.put _ (some 60) _ = _
  simp only [Act.put, List.setIfInBounds_toArray, List.set_cons_zero, List.set_cons_succ]
  rfl
 refine tI (i := 5) (N := some 61) #[true, true, true, true, true, true, false, false] rfl rfl (eX HT_.out (by kernel_rfl)) (by decide) (fun K hK => ?_)
 refine zB Try.func136 (by kernel_rfl) rfl #[.pointer (some ⟨g, 0, none⟩), .slice pA pn pc] (by rfl) rfl rfl (by (try simp only [List.map_toArray, List.map_cons, List.map_nil]); first | done | rfl) ?_
 refine (H12.out _ _ _ _ _ _ _ _ _ hSe hSd hu74).mono ?_
 rintro e w76 ⟨rfl, hSp⟩
 obtain ⟨HS1_, ⟨x68, hx68⟩, hf68⟩ := H13.out _ _ _ _ _ _ _ _ _ _ _ _ hSp rfl eh
 refine ⟨_, rfl, ?_⟩
 refine hK.out _ _ (HS1_) (fun hHeld => ?_)
 clear hK K
 refine kY (a' := ?_) ?_ ?_
 rotate_left
 ·show Act.put _ (some 61) _ = _
  simp only [Act.put, List.setIfInBounds_toArray, List.set_cons_zero, List.set_cons_succ]
  rfl
 refine dT (i := 6) (N := some 62) (v := ?_) (a' := ?_) #[true, true, true, true, true, true, true, false] rfl rfl (dc HT_.out (by kernel_rfl)) (fun _ _ _ h => h) (Or.inl ⟨by rfl, ?_⟩) ?_ ?_
 rotate_left
 ·intro w'
  go_simp
  with_reducible rfl
 rotate_left
 ·simp only [Act.put, List.setIfInBounds_toArray, List.set_cons_zero, List.set_cons_succ]
  rfl
 refine tp (i := 7) (N := none) #[true, true, true, true, true, true, true, true] rfl rfl (eX HT_.out (by kernel_rfl)) (by decide) (fun K hK => ?_)
 refine wB (w1 := ?_) (by rfl) rfl ?_ ?_
 rotate_left
 ·go_simp
  rfl
 refine hK.out _ _ ?_
 clear hK K
 refine vE (mL HT_.out (by kernel_rfl)) ?_
 have hSf := H14.out _ _ _ _ _ _ _ _ _ _ hSp eh
 have qy := hSf.cells
 generalize (w76.setCell ⟨g1, 0, none⟩ (.int .i64 z2)) = w79 at hSf qy ⊢
 go_wp2_with (first
  | (go_at_call 190; (refine (H10.out _ _ _ _ _ _ _ _ hSf).mono ?_; rintro e wb ⟨u, rfl, hu, hSb⟩; obtain ⟨uA, un, uc, rfl⟩ := hu.sl; obtain ⟨r6, r7⟩ := hSb.two; have hD := hSb.done hu; have r8 := hSb.res (.slice uA un uc); clear hSb hu)))
 refine bodyPost_ret (Go.Proofs.YtcbhhbkghbnljaaW.PrintWords.cW rfl _ _ w.heap.size 35 #[.slice uA un uc] (0, 0) _ rfl r8 Try.underlying35 rfl (by kernel_rfl)) rfl ?_
 exact ⟨_, _, _, rfl, hD⟩
set_option maxHeartbeats 4000000 in
theorem Ko (P : WP k k4 w X vc code lt ls s0 s1 a c p q) (hc : c = 0) (e6 : ak.f (s1.1, p, q) 2 = some (y, s2)) (hy : y ≠ 0) (e9 : ak.f s2 24 = some (z, s3)) (hz0 : z ≠ 0) (hz1 : z ≠ 1) (e10 : aY.f k s3 lt = some (lt', s4)) : WE w X vc lt' ls := by
 unfold WE
 subst hc
 have H1 := wq0 P
 have H2 := wq1 P
 have H3 := wq2 P
 have H4 := wq3 P
 have H5 := wq4 P
 have H6 := rh w X lt ls e6
 have hy1 : (y == 0) = false := beq_eq_false_iff_ne.2 hy
 have H9 := yN w X lt ls e9
 have hz2 : (z == 0) = false := beq_eq_false_iff_ne.2 hz0
 have hz3 : (z == 1) = false := beq_eq_false_iff_ne.2 hz1
 have H10 := wq8 w X ls e10
 clear P e6 hy e9 hz0 hz1 e10
 go_enter Try.func195, Try.ntmps195
 go_wp2_with (first
  | (go_at_call 135; (refine H1.out.mono ?_; rintro e w1 ⟨g, rfl, hA⟩))
  | (go_at_call 213; (refine (H2.out _ _ hA).mono ?_; rintro e w2 ⟨vt, rfl, hS0⟩; obtain ⟨tA, tn, tc, rfl⟩ := hS0.tsl; have q0 := hS0.cells))
  | (go_at_call 142; (refine (H3.out _ _ _ _ _ _ _ _ _ hS0).mono ?_; rintro e w3 ⟨rfl, hS1, -⟩; have q1 := hS1.cells))
  | (go_at_call 223; (refine (H4.out _ _ _ _ _ _ _ _ hS1).mono ?_; rintro e w4 ⟨v, hs, rfl, hS2⟩; obtain ⟨vA, vn, vc, rfl⟩ := hS2.vsl; have q2 := hS2.cells; clear hS0 hS1))
  | (go_at_call 146; (refine (H5.out _ _ _ _ _ _ _ _ _ hS2).mono ?_; rintro e w5 ⟨rfl, hS3, -⟩; have q3 := hS3.cells; clear hS2))
  | (go_at_call 147; (refine (H6.out _ _ _ _ _ _ _ _ hS3).mono ?_; rintro e w6 ⟨rfl, hS4⟩; have q4 := hS4.cells; clear hS3))
  | (go_at_call 147; (refine (H9.out _ _ _ _ _ _ _ hS4).mono ?_; rintro e wz ⟨rfl, hSz⟩; have qz := hSz.cells; clear hS4))
  | (go_at_call 190; (refine (H10.out _ _ _ _ _ _ _ _ hSz).mono ?_; rintro e wb ⟨u, rfl, hu, hSb⟩; obtain ⟨uA, un, uc, rfl⟩ := hu.sl; obtain ⟨r6, r7⟩ := hSb.two; have hD := hSb.done hu; have r8 := hSb.res (.slice uA un uc); clear hSb hu)))
 refine bodyPost_ret (Go.Proofs.YtcbhhbkghbnljaaW.PrintWords.cW rfl _ _ w.heap.size 35 #[.slice uA un uc] (0, 0) _ rfl r8 Try.underlying35 rfl (by kernel_rfl)) rfl ?_
 exact ⟨_, _, _, rfl, hD⟩
set_option maxHeartbeats 4000000 in
theorem Kp (P : WP k k4 w X vc code lt ls s0 s1 a c p q) (hc : c = 0) (e6 : ak.f (s1.1, p, q) 2 = some (y, s2)) (hy : y = 0) (e7 : aq.f k lt 2 = some (y1, y2, c2)) (hc2 : c2 ≠ 0) (e9 : ak.f s2 24 = some (z, s3)) (hz : z = 0) (hn9 : ls.length + 1 ≤ 1099511627776) (e10 : aY.f k s3 lt = some (lt', s4)) : WE w X vc lt' (ls ++ [[0]]) := by
 unfold WE
 subst hz
 subst hy
 subst hc
 have H1 := wq0 P
 have H2 := wq1 P
 have H3 := wq2 P
 have H4 := wq3 P
 have H5 := wq4 P
 have H6 := rh w X lt ls e6
 have H7 := yO w X ls e7
 have hc21 : (c2 == 0) = false := beq_eq_false_iff_ne.2 hc2
 have H9 := yN w X lt ls e9
 have HM := cJ.mk (show ls.length + 1 ≤ maxLen ∧ (ls.length + 1) * 24 ≤ 140737488355328 by unfold maxLen; omega)
 obtain ⟨HU, i0, HI0, HZ0, HS0, HY0⟩ := wI
 have H11 := wq6 w X lt ls s3
 have H12 := wq7 w X lt ls s3
 have H10 := wq8 w X ls e10
 clear P e6 e7 hc2 e9 hn9 e10
 go_enter Try.func195, Try.ntmps195
 go_wp2_with (first
  | (go_at_call 135; (refine H1.out.mono ?_; rintro e w1 ⟨g, rfl, hA⟩))
  | (go_at_call 213; (refine (H2.out _ _ hA).mono ?_; rintro e w2 ⟨vt, rfl, hS0⟩; obtain ⟨tA, tn, tc, rfl⟩ := hS0.tsl; have q0 := hS0.cells))
  | (go_at_call 142; (refine (H3.out _ _ _ _ _ _ _ _ _ hS0).mono ?_; rintro e w3 ⟨rfl, hS1, -⟩; have q1 := hS1.cells))
  | (go_at_call 223; (refine (H4.out _ _ _ _ _ _ _ _ hS1).mono ?_; rintro e w4 ⟨v, hs, rfl, hS2⟩; obtain ⟨vA, vn, vc, rfl⟩ := hS2.vsl; have q2 := hS2.cells; clear hS0 hS1))
  | (go_at_call 146; (refine (H5.out _ _ _ _ _ _ _ _ _ hS2).mono ?_; rintro e w5 ⟨rfl, hS3, -⟩; have q3 := hS3.cells; clear hS2))
  | (go_at_call 147; (refine (H6.out _ _ _ _ _ _ _ _ hS3).mono ?_; rintro e w6 ⟨rfl, hS4⟩; have q4 := hS4.cells; clear hS3))
  | (go_at_call 22; (refine (H7.out _ _ _ _ _ _ _ _ _ hS4).mono ?_; rintro e w7 ⟨u1, u2, rfl, hS5, hu2⟩; obtain ⟨uA2, uc2, rfl⟩ := bRL.sl2 hu2; have q5 := hS5.cells; clear hS4))
  | (go_at_call 147; (refine (H9.out _ _ _ _ _ _ _ hS5).mono ?_; rintro e wz ⟨rfl, hSz⟩; have qz := hSz.cells; clear hS5; have qp := H11.out _ _ _ _ _ _ _ hSz))
  | (at_builtin; (refine wpList_append_own_at _ rfl _ _ 86 rfl 0 29 i0 (.slice none 0 0) 1 24 HU.out HI0.out HZ0.out HS0.out HY0.out rfl (by decide) _ ls.length _ rfl qp.1 ⟨wz.heap.size + 1, 0, none⟩ 1 1 [.slice (some ⟨wz.heap.size, 0, none⟩) 1 1] rfl rfl qp.2 (by intro u hu; rw [List.mem_singleton.1 hu]; rfl) HM.out.1 HM.out.2 (Nat.zero_le _) ?_; intro v10 w10 hown hgr _ hbl; have hSf := H12.out _ _ _ _ _ _ _ hSz _ _ hown hgr hbl; have qy := hSf.cells; obtain ⟨vA10, vn10, vc10, rfl⟩ := hSf.vsl; clear hown hgr hbl hSz))
  | (go_at_call 190; (refine (H10.out _ _ _ _ _ _ _ _ hSf).mono ?_; rintro e wb ⟨u, rfl, hu, hSb⟩; obtain ⟨uA, un, uc, rfl⟩ := hu.sl; obtain ⟨r6, r7⟩ := hSb.two; have hD := hSb.done hu; have r8 := hSb.res (.slice uA un uc); clear hSb hu)))
 refine bodyPost_ret (Go.Proofs.YtcbhhbkghbnljaaW.PrintWords.cW rfl _ _ w.heap.size 35 #[.slice uA un uc] (0, 0) _ rfl r8 Try.underlying35 rfl (by kernel_rfl)) rfl ?_
 exact ⟨_, _, _, rfl, hD⟩
set_option maxHeartbeats 4000000 in
theorem Kq (P : WP k k4 w X vc code lt ls s0 s1 a c p q) (hc : c = 0) (e6 : ak.f (s1.1, p, q) 2 = some (y, s2)) (hy : y = 0) (e7 : aq.f k lt 2 = some (y1, y2, c2)) (hc2 : c2 ≠ 0) (e9 : ak.f s2 24 = some (z, s3)) (hz : z = 1) (hn9 : 0 < ls.length) (hn8 : 0 < (ls.getD 0 []).length) (e11 : bT.f s3 [8, -2, 0] = some (z2, s5)) (e10 : aY.f k s5 lt = some (lt', s4)) : WE w X vc lt' (ls.set 0 ((ls.getD 0 []).set 0 z2)) := by
 unfold WE
 subst hz
 subst hy
 subst hc
 have H1 := wq0 P
 have H2 := wq1 P
 have H3 := wq2 P
 have H4 := wq3 P
 have H5 := wq4 P
 have H6 := rh w X lt ls e6
 have H7 := yO w X ls e7
 have hc21 : (c2 == 0) = false := beq_eq_false_iff_ne.2 hc2
 have H9 := yN w X lt ls e9
 have H11 := wq9 w X lt s3 hn9 hn8
 have H12 := Ky w X lt ls e11
 have H13 := Kz w X lt s5 hn9 hn8
 have H14 := KA w X lt s5 z2 hn9 hn8
 have l1 : (0 < ls.length) = True := eq_true hn9
 have H10 := Iq w X ls e10
 clear P e6 e7 hc2 e9 hn9 hn8 e11 e10
 go_enter Try.func195, Try.ntmps195
 go_wp2_with (first
  | (go_at_call 135; (refine H1.out.mono ?_; rintro e w1 ⟨g, rfl, hA⟩))
  | (go_at_call 213; (refine (H2.out _ _ hA).mono ?_; rintro e w2 ⟨vt, rfl, hS0⟩; obtain ⟨tA, tn, tc, rfl⟩ := hS0.tsl; have q0 := hS0.cells))
  | (go_at_call 142; (refine (H3.out _ _ _ _ _ _ _ _ _ hS0).mono ?_; rintro e w3 ⟨rfl, hS1, -⟩; have q1 := hS1.cells))
  | (go_at_call 223; (refine (H4.out _ _ _ _ _ _ _ _ hS1).mono ?_; rintro e w4 ⟨v, hs, rfl, hS2⟩; obtain ⟨vA, vn, vc, rfl⟩ := hS2.vsl; have q2 := hS2.cells; clear hS0 hS1))
  | (go_at_call 146; (refine (H5.out _ _ _ _ _ _ _ _ _ hS2).mono ?_; rintro e w5 ⟨rfl, hS3, -⟩; have q3 := hS3.cells; clear hS2))
  | (go_at_call 147; (refine (H6.out _ _ _ _ _ _ _ _ hS3).mono ?_; rintro e w6 ⟨rfl, hS4⟩; have q4 := hS4.cells; clear hS3))
  | (go_at_call 22; (refine (H7.out _ _ _ _ _ _ _ _ _ hS4).mono ?_; rintro e w7 ⟨u1, u2, rfl, hS5, hu2⟩; obtain ⟨uA2, uc2, rfl⟩ := bRL.sl2 hu2; have q5 := hS5.cells; clear hS4))
  | (go_at_call 147; (refine (H9.out _ _ _ _ _ _ _ hS5).mono ?_; rintro e wz ⟨rfl, hSz⟩; have qz := hSz.cells; clear hS5; obtain ⟨gv, cv, g1, n1, c1, ev, eh, qa, l2⟩ := H11.out _ _ _ _ _ _ _ hSz)))
 have hSd := hSz.drew
 refine qb (n := 8) (S := fun w' => w'.cell? ⟨gv, 0, none⟩ = some (.slice (some ⟨g1, 0, none⟩) n1 c1)) (ds := [7]) #[false, false, false, false, false, false, false, false] (by kernel_rfl) rfl rfl qa (fun hHeld => ?_); refine jd ba.Av ba.sO (fun HT_ HW_ => ?_)
 generalize wz.drew = wd at hSd hHeld ⊢
 refine dT (i := 0) (N := some 56) (v := ?_) (a' := ?_) #[true, false, false, false, false, false, false, false] rfl rfl (dc HT_.out (by kernel_rfl)) (fun _ _ _ h => h) (Or.inl ⟨by rfl, ?_⟩) ?_ ?_
 rotate_left
 ·intro w'
  go_simp
  with_reducible rfl
 rotate_left
 ·simp only [Act.put, List.setIfInBounds_toArray, List.set_cons_zero, List.set_cons_succ]
  rfl
 refine dT (i := 1) (N := some 57) (v := ?_) (a' := ?_) #[true, true, false, false, false, false, false, false] rfl rfl (dc HT_.out (by kernel_rfl)) (fun _ _ _ h => h) (Or.inl ⟨by rfl, ?_⟩) ?_ ?_
 rotate_left
 ·intro w'
  go_simp
  with_reducible rfl
 rotate_left
 ·simp only [Act.put, List.setIfInBounds_toArray, List.set_cons_zero, List.set_cons_succ]
  rfl
 refine dT (i := 3) (N := some 59) (v := ?_) (a' := ?_) #[true, true, false, true, false, false, false, false] rfl rfl (dc HT_.out (by kernel_rfl)) (fun _ _ _ h => h) (Or.inl ⟨by rfl, ?_⟩) ?_ ?_
 rotate_left
 ·intro w'
  go_simp
  with_reducible rfl
 rotate_left
 ·simp only [Act.put, List.setIfInBounds_toArray, List.set_cons_zero, List.set_cons_succ]
  rfl
 refine uw (i := 2) (N := some 58) (v := ?_) (a' := ?_) #[true, true, true, true, false, false, false, false] rfl rfl (jE HT_.out HW_.out (by kernel_rfl)) (fun _ _ _ h => h) (Or.inl ⟨by rfl, ?_⟩) hHeld ?_ ?_
 rotate_left
 ·intro w' s0
  go_simp
  with_reducible rfl
 rotate_left
 ·simp only [Act.put, List.setIfInBounds_toArray, List.set_cons_zero, List.set_cons_succ]
  rfl
 refine tI (i := 4) (N := some 60) #[true, true, true, true, true, false, false, false] rfl rfl (eX HT_.out (by kernel_rfl)) (by decide) (fun K hK => ?_)
 refine Kd.jh (Kd.int .i64) wd.heap.size 2 ?hg (N := 60) ?hd (xs := ([8, (-2), 0] : List Int)) (inner := [.int .i64 8, .int .i64 (-2), .int .i64 0]) (ok := fun _ => True) (okp := fun _ => True) ?hr ?hp (fun _ hk => hk) trivial (Below.refl _ _) (Nat.le_refl _) (by simp) ?_; (case hd => rfl); (case hg => rfl); (case hr => first | (go_simp; done) | (go_simp; rfl)); (case hp => exact (dC.one (show Kd.M (Kd.int .i64) _ _ _ 8 [.int .i64 8] from rfl) (dC.one (show Kd.M (Kd.int .i64) _ _ _ (-2) [.int .i64 (-2)] from rfl) (dC.one (show Kd.M (Kd.int .i64) _ _ _ 0 [.int .i64 0] from rfl) (dC.none _ _)))))
 intro v625 w73 ho74 hb hg_ hnew_
 have HS0_ := (hb.cell (World.block_lt_of_cell? _ _ (hHeld))).trans (hHeld)
 have hSe := hSd.jP hb
 have hu74 := zR ho74
 obtain ⟨pA, pn, pc, rfl⟩ := bRL.sl (hu74.rl (N := fun _ => False) fun _ _ => id)
 clear hg_ hnew_ ho74
 refine hK.out _ _ (HS0_) (fun hHeld => ?_)
 clear hK K
 refine kY (a' := ?_) ?_ ?_
 rotate_left
 ·show Act.put _ (some 60) _ = _
  simp only [Act.put, List.setIfInBounds_toArray, List.set_cons_zero, List.set_cons_succ]
  rfl
 refine tI (i := 5) (N := some 61) #[true, true, true, true, true, true, false, false] rfl rfl (eX HT_.out (by kernel_rfl)) (by decide) (fun K hK => ?_)
 refine zB Try.func136 (by kernel_rfl) rfl #[.pointer (some ⟨g, 0, none⟩), .slice pA pn pc] (by rfl) rfl rfl (by (try simp only [List.map_toArray, List.map_cons, List.map_nil]); first | done | rfl) ?_
 refine (H12.out _ _ _ _ _ _ _ _ _ hSe hSd hu74).mono ?_
 rintro e w76 ⟨rfl, hSp⟩
 obtain ⟨HS1_, ⟨x68, hx68⟩, hf68⟩ := H13.out _ _ _ _ _ _ _ _ _ _ _ _ hSp rfl eh
 refine ⟨_, rfl, ?_⟩
 refine hK.out _ _ (HS1_) (fun hHeld => ?_)
 clear hK K
 refine kY (a' := ?_) ?_ ?_
 rotate_left
 ·show Act.put _ (some 61) _ = _
  simp only [Act.put, List.setIfInBounds_toArray, List.set_cons_zero, List.set_cons_succ]
  rfl
 refine dT (i := 6) (N := some 62) (v := ?_) (a' := ?_) #[true, true, true, true, true, true, true, false] rfl rfl (dc HT_.out (by kernel_rfl)) (fun _ _ _ h => h) (Or.inl ⟨by rfl, ?_⟩) ?_ ?_
 rotate_left
 ·intro w'
  go_simp
  with_reducible rfl
 rotate_left
 ·simp only [Act.put, List.setIfInBounds_toArray, List.set_cons_zero, List.set_cons_succ]
  rfl
 refine tp (i := 7) (N := none) #[true, true, true, true, true, true, true, true] rfl rfl (eX HT_.out (by kernel_rfl)) (by decide) (fun K hK => ?_)
 refine wB (w1 := ?_) (by rfl) rfl ?_ ?_
 rotate_left
 ·go_simp
  rfl
 refine hK.out _ _ ?_
 clear hK K
 refine vE (mL HT_.out (by kernel_rfl)) ?_
 have hSf := H14.out _ _ _ _ _ _ _ _ _ _ hSp eh
 have qy := hSf.cells
 generalize (w76.setCell ⟨g1, 0, none⟩ (.int .i64 z2)) = w79 at hSf qy ⊢
 go_wp2_with (first
  | (go_at_call 190; (refine (H10.out _ _ _ _ _ _ _ _ hSf).mono ?_; rintro e wb ⟨u, rfl, hu, hSb⟩; obtain ⟨uA, un, uc, rfl⟩ := hu.sl; obtain ⟨r6, r7⟩ := hSb.two; have hD := hSb.done hu; have r8 := hSb.res (.slice uA un uc); clear hSb hu)))
 refine bodyPost_ret (Go.Proofs.YtcbhhbkghbnljaaW.PrintWords.cW rfl _ _ w.heap.size 35 #[.slice uA un uc] (0, 0) _ rfl r8 Try.underlying35 rfl (by kernel_rfl)) rfl ?_
 exact ⟨_, _, _, rfl, hD⟩
set_option maxHeartbeats 4000000 in
theorem Kr (P : WP k k4 w X vc code lt ls s0 s1 a c p q) (hc : c = 0) (e6 : ak.f (s1.1, p, q) 2 = some (y, s2)) (hy : y = 0) (e7 : aq.f k lt 2 = some (y1, y2, c2)) (hc2 : c2 ≠ 0) (e9 : ak.f s2 24 = some (z, s3)) (hz0 : z ≠ 0) (hz1 : z ≠ 1) (e10 : aY.f k s3 lt = some (lt', s4)) : WE w X vc lt' ls := by
 unfold WE
 subst hy
 subst hc
 have H1 := wq0 P
 have H2 := wq1 P
 have H3 := wq2 P
 have H4 := wq3 P
 have H5 := wq4 P
 have H6 := rh w X lt ls e6
 have H7 := yO w X ls e7
 have hc21 : (c2 == 0) = false := beq_eq_false_iff_ne.2 hc2
 have H9 := yN w X lt ls e9
 have hz2 : (z == 0) = false := beq_eq_false_iff_ne.2 hz0
 have hz3 : (z == 1) = false := beq_eq_false_iff_ne.2 hz1
 have H10 := wq8 w X ls e10
 clear P e6 e7 hc2 e9 hz0 hz1 e10
 go_enter Try.func195, Try.ntmps195
 go_wp2_with (first
  | (go_at_call 135; (refine H1.out.mono ?_; rintro e w1 ⟨g, rfl, hA⟩))
  | (go_at_call 213; (refine (H2.out _ _ hA).mono ?_; rintro e w2 ⟨vt, rfl, hS0⟩; obtain ⟨tA, tn, tc, rfl⟩ := hS0.tsl; have q0 := hS0.cells))
  | (go_at_call 142; (refine (H3.out _ _ _ _ _ _ _ _ _ hS0).mono ?_; rintro e w3 ⟨rfl, hS1, -⟩; have q1 := hS1.cells))
  | (go_at_call 223; (refine (H4.out _ _ _ _ _ _ _ _ hS1).mono ?_; rintro e w4 ⟨v, hs, rfl, hS2⟩; obtain ⟨vA, vn, vc, rfl⟩ := hS2.vsl; have q2 := hS2.cells; clear hS0 hS1))
  | (go_at_call 146; (refine (H5.out _ _ _ _ _ _ _ _ _ hS2).mono ?_; rintro e w5 ⟨rfl, hS3, -⟩; have q3 := hS3.cells; clear hS2))
  | (go_at_call 147; (refine (H6.out _ _ _ _ _ _ _ _ hS3).mono ?_; rintro e w6 ⟨rfl, hS4⟩; have q4 := hS4.cells; clear hS3))
  | (go_at_call 22; (refine (H7.out _ _ _ _ _ _ _ _ _ hS4).mono ?_; rintro e w7 ⟨u1, u2, rfl, hS5, hu2⟩; obtain ⟨uA2, uc2, rfl⟩ := bRL.sl2 hu2; have q5 := hS5.cells; clear hS4))
  | (go_at_call 147; (refine (H9.out _ _ _ _ _ _ _ hS5).mono ?_; rintro e wz ⟨rfl, hSz⟩; have qz := hSz.cells; clear hS5))
  | (go_at_call 190; (refine (H10.out _ _ _ _ _ _ _ _ hSz).mono ?_; rintro e wb ⟨u, rfl, hu, hSb⟩; obtain ⟨uA, un, uc, rfl⟩ := hu.sl; obtain ⟨r6, r7⟩ := hSb.two; have hD := hSb.done hu; have r8 := hSb.res (.slice uA un uc); clear hSb hu)))
 refine bodyPost_ret (Go.Proofs.YtcbhhbkghbnljaaW.PrintWords.cW rfl _ _ w.heap.size 35 #[.slice uA un uc] (0, 0) _ rfl r8 Try.underlying35 rfl (by kernel_rfl)) rfl ?_
 exact ⟨_, _, _, rfl, hD⟩
set_option maxHeartbeats 4000000 in
theorem Ks (P : WP k k4 w X vc code lt ls s0 s1 a c p q) (hc : c = 0) (e6 : ak.f (s1.1, p, q) 2 = some (y, s2)) (hy : y = 0) (e7 : aq.f k lt 2 = some (y1, y2, c2)) (hc2 : c2 = 0) (hn : ¬ y2.length ≤ 120) (e9 : ak.f s2 24 = some (z, s3)) (hz : z = 0) (hn9 : ls.length + 1 ≤ 1099511627776) (e10 : aY.f k s3 lt = some (lt', s4)) : WE w X vc lt' (ls ++ [[0]]) := by
 unfold WE
 subst hz
 subst hc2
 subst hy
 subst hc
 have H1 := wq0 P
 have H2 := wq1 P
 have H3 := wq2 P
 have H4 := wq3 P
 have H5 := wq4 P
 have H6 := rh w X lt ls e6
 have H7 := yO w X ls e7
 have hn1 : decide ((y2.length : Int) ≤ 120) = false := decide_eq_false (by omega)
 have H9 := yN w X lt ls e9
 have HM := cJ.mk (show ls.length + 1 ≤ maxLen ∧ (ls.length + 1) * 24 ≤ 140737488355328 by unfold maxLen; omega)
 obtain ⟨HU, i0, HI0, HZ0, HS0, HY0⟩ := wI
 have H11 := wq6 w X lt ls s3
 have H12 := wq7 w X lt ls s3
 have H10 := wq8 w X ls e10
 clear P e6 e7 hn e9 hn9 e10
 go_enter Try.func195, Try.ntmps195
 go_wp2_with (first
  | (go_at_call 135; (refine H1.out.mono ?_; rintro e w1 ⟨g, rfl, hA⟩))
  | (go_at_call 213; (refine (H2.out _ _ hA).mono ?_; rintro e w2 ⟨vt, rfl, hS0⟩; obtain ⟨tA, tn, tc, rfl⟩ := hS0.tsl; have q0 := hS0.cells))
  | (go_at_call 142; (refine (H3.out _ _ _ _ _ _ _ _ _ hS0).mono ?_; rintro e w3 ⟨rfl, hS1, -⟩; have q1 := hS1.cells))
  | (go_at_call 223; (refine (H4.out _ _ _ _ _ _ _ _ hS1).mono ?_; rintro e w4 ⟨v, hs, rfl, hS2⟩; obtain ⟨vA, vn, vc, rfl⟩ := hS2.vsl; have q2 := hS2.cells; clear hS0 hS1))
  | (go_at_call 146; (refine (H5.out _ _ _ _ _ _ _ _ _ hS2).mono ?_; rintro e w5 ⟨rfl, hS3, -⟩; have q3 := hS3.cells; clear hS2))
  | (go_at_call 147; (refine (H6.out _ _ _ _ _ _ _ _ hS3).mono ?_; rintro e w6 ⟨rfl, hS4⟩; have q4 := hS4.cells; clear hS3))
  | (go_at_call 22; (refine (H7.out _ _ _ _ _ _ _ _ _ hS4).mono ?_; rintro e w7 ⟨u1, u2, rfl, hS5, hu2⟩; obtain ⟨uA2, uc2, rfl⟩ := bRL.sl2 hu2; have q5 := hS5.cells; clear hS4))
  | (go_at_call 147; (refine (H9.out _ _ _ _ _ _ _ hS5).mono ?_; rintro e wz ⟨rfl, hSz⟩; have qz := hSz.cells; clear hS5; have qp := H11.out _ _ _ _ _ _ _ hSz))
  | (at_builtin; (refine wpList_append_own_at _ rfl _ _ 86 rfl 0 29 i0 (.slice none 0 0) 1 24 HU.out HI0.out HZ0.out HS0.out HY0.out rfl (by decide) _ ls.length _ rfl qp.1 ⟨wz.heap.size + 1, 0, none⟩ 1 1 [.slice (some ⟨wz.heap.size, 0, none⟩) 1 1] rfl rfl qp.2 (by intro u hu; rw [List.mem_singleton.1 hu]; rfl) HM.out.1 HM.out.2 (Nat.zero_le _) ?_; intro v10 w10 hown hgr _ hbl; have hSf := H12.out _ _ _ _ _ _ _ hSz _ _ hown hgr hbl; have qy := hSf.cells; obtain ⟨vA10, vn10, vc10, rfl⟩ := hSf.vsl; clear hown hgr hbl hSz))
  | (go_at_call 190; (refine (H10.out _ _ _ _ _ _ _ _ hSf).mono ?_; rintro e wb ⟨u, rfl, hu, hSb⟩; obtain ⟨uA, un, uc, rfl⟩ := hu.sl; obtain ⟨r6, r7⟩ := hSb.two; have hD := hSb.done hu; have r8 := hSb.res (.slice uA un uc); clear hSb hu)))
 refine bodyPost_ret (Go.Proofs.YtcbhhbkghbnljaaW.PrintWords.cW rfl _ _ w.heap.size 35 #[.slice uA un uc] (0, 0) _ rfl r8 Try.underlying35 rfl (by kernel_rfl)) rfl ?_
 exact ⟨_, _, _, rfl, hD⟩
set_option maxHeartbeats 4000000 in
theorem Kt (P : WP k k4 w X vc code lt ls s0 s1 a c p q) (hc : c = 0) (e6 : ak.f (s1.1, p, q) 2 = some (y, s2)) (hy : y = 0) (e7 : aq.f k lt 2 = some (y1, y2, c2)) (hc2 : c2 = 0) (hn : ¬ y2.length ≤ 120) (e9 : ak.f s2 24 = some (z, s3)) (hz : z = 1) (hn9 : 0 < ls.length) (hn8 : 0 < (ls.getD 0 []).length) (e11 : bT.f s3 [8, -2, 0] = some (z2, s5)) (e10 : aY.f k s5 lt = some (lt', s4)) : WE w X vc lt' (ls.set 0 ((ls.getD 0 []).set 0 z2)) := by
 unfold WE
 subst hz
 subst hc2
 subst hy
 subst hc
 have H1 := wq0 P
 have H2 := wq1 P
 have H3 := wq2 P
 have H4 := wq3 P
 have H5 := wq4 P
 have H6 := rh w X lt ls e6
 have H7 := yO w X ls e7
 have hn1 : decide ((y2.length : Int) ≤ 120) = false := decide_eq_false (by omega)
 have H9 := yN w X lt ls e9
 have H11 := wq9 w X lt s3 hn9 hn8
 have H12 := Ky w X lt ls e11
 have H13 := Kz w X lt s5 hn9 hn8
 have H14 := KA w X lt s5 z2 hn9 hn8
 have l1 : (0 < ls.length) = True := eq_true hn9
 have H10 := Iq w X ls e10
 clear P e6 e7 hn e9 hn9 hn8 e11 e10
 go_enter Try.func195, Try.ntmps195
 go_wp2_with (first
  | (go_at_call 135; (refine H1.out.mono ?_; rintro e w1 ⟨g, rfl, hA⟩))
  | (go_at_call 213; (refine (H2.out _ _ hA).mono ?_; rintro e w2 ⟨vt, rfl, hS0⟩; obtain ⟨tA, tn, tc, rfl⟩ := hS0.tsl; have q0 := hS0.cells))
  | (go_at_call 142; (refine (H3.out _ _ _ _ _ _ _ _ _ hS0).mono ?_; rintro e w3 ⟨rfl, hS1, -⟩; have q1 := hS1.cells))
  | (go_at_call 223; (refine (H4.out _ _ _ _ _ _ _ _ hS1).mono ?_; rintro e w4 ⟨v, hs, rfl, hS2⟩; obtain ⟨vA, vn, vc, rfl⟩ := hS2.vsl; have q2 := hS2.cells; clear hS0 hS1))
  | (go_at_call 146; (refine (H5.out _ _ _ _ _ _ _ _ _ hS2).mono ?_; rintro e w5 ⟨rfl, hS3, -⟩; have q3 := hS3.cells; clear hS2))
  | (go_at_call 147; (refine (H6.out _ _ _ _ _ _ _ _ hS3).mono ?_; rintro e w6 ⟨rfl, hS4⟩; have q4 := hS4.cells; clear hS3))
  | (go_at_call 22; (refine (H7.out _ _ _ _ _ _ _ _ _ hS4).mono ?_; rintro e w7 ⟨u1, u2, rfl, hS5, hu2⟩; obtain ⟨uA2, uc2, rfl⟩ := bRL.sl2 hu2; have q5 := hS5.cells; clear hS4))
  | (go_at_call 147; (refine (H9.out _ _ _ _ _ _ _ hS5).mono ?_; rintro e wz ⟨rfl, hSz⟩; have qz := hSz.cells; clear hS5; obtain ⟨gv, cv, g1, n1, c1, ev, eh, qa, l2⟩ := H11.out _ _ _ _ _ _ _ hSz)))
 have hSd := hSz.drew
 refine qb (n := 8) (S := fun w' => w'.cell? ⟨gv, 0, none⟩ = some (.slice (some ⟨g1, 0, none⟩) n1 c1)) (ds := [7]) #[false, false, false, false, false, false, false, false] (by kernel_rfl) rfl rfl qa (fun hHeld => ?_); refine jd ba.Av ba.sO (fun HT_ HW_ => ?_)
 generalize wz.drew = wd at hSd hHeld ⊢
 refine dT (i := 0) (N := some 56) (v := ?_) (a' := ?_) #[true, false, false, false, false, false, false, false] rfl rfl (dc HT_.out (by kernel_rfl)) (fun _ _ _ h => h) (Or.inl ⟨by rfl, ?_⟩) ?_ ?_
 rotate_left
 ·intro w'
  go_simp
  with_reducible rfl
 rotate_left
 ·simp only [Act.put, List.setIfInBounds_toArray, List.set_cons_zero, List.set_cons_succ]
  rfl
 refine dT (i := 1) (N := some 57) (v := ?_) (a' := ?_) #[true, true, false, false, false, false, false, false] rfl rfl (dc HT_.out (by kernel_rfl)) (fun _ _ _ h => h) (Or.inl ⟨by rfl, ?_⟩) ?_ ?_
 rotate_left
 ·intro w'
  go_simp
  with_reducible rfl
 rotate_left
 ·simp only [Act.put, List.setIfInBounds_toArray, List.set_cons_zero, List.set_cons_succ]
  rfl
 refine dT (i := 3) (N := some 59) (v := ?_) (a' := ?_) #[true, true, false, true, false, false, false, false] rfl rfl (dc HT_.out (by kernel_rfl)) (fun _ _ _ h => h) (Or.inl ⟨by rfl, ?_⟩) ?_ ?_
 rotate_left
 ·intro w'
  go_simp
  with_reducible rfl
 rotate_left
 ·simp only [Act.put, List.setIfInBounds_toArray, List.set_cons_zero, List.set_cons_succ]
  rfl
 refine uw (i := 2) (N := some 58) (v := ?_) (a' := ?_) #[true, true, true, true, false, false, false, false] rfl rfl (jE HT_.out HW_.out (by kernel_rfl)) (fun _ _ _ h => h) (Or.inl ⟨by rfl, ?_⟩) hHeld ?_ ?_
 rotate_left
 ·intro w' s0
  go_simp
  with_reducible rfl
 rotate_left
 ·simp only [Act.put, List.setIfInBounds_toArray, List.set_cons_zero, List.set_cons_succ]
  rfl
 refine tI (i := 4) (N := some 60) #[true, true, true, true, true, false, false, false] rfl rfl (eX HT_.out (by kernel_rfl)) (by decide) (fun K hK => ?_)
 refine Kd.jh (Kd.int .i64) wd.heap.size 2 ?hg (N := 60) ?hd (xs := ([8, (-2), 0] : List Int)) (inner := [.int .i64 8, .int .i64 (-2), .int .i64 0]) (ok := fun _ => True) (okp := fun _ => True) ?hr ?hp (fun _ hk => hk) trivial (Below.refl _ _) (Nat.le_refl _) (by simp) ?_; (case hd => rfl); (case hg => rfl); (case hr => first | (go_simp; done) | (go_simp; rfl)); (case hp => exact (dC.one (show Kd.M (Kd.int .i64) _ _ _ 8 [.int .i64 8] from rfl) (dC.one (show Kd.M (Kd.int .i64) _ _ _ (-2) [.int .i64 (-2)] from rfl) (dC.one (show Kd.M (Kd.int .i64) _ _ _ 0 [.int .i64 0] from rfl) (dC.none _ _)))))
 intro v625 w73 ho74 hb hg_ hnew_
 have HS0_ := (hb.cell (World.block_lt_of_cell? _ _ (hHeld))).trans (hHeld)
 have hSe := hSd.jP hb
 have hu74 := zR ho74
 obtain ⟨pA, pn, pc, rfl⟩ := bRL.sl (hu74.rl (N := fun _ => False) fun _ _ => id)
 clear hg_ hnew_ ho74
 refine hK.out _ _ (HS0_) (fun hHeld => ?_)
 clear hK K
 refine kY (a' := ?_) ?_ ?_
 rotate_left
 ·show Act.put _ (some 60) _ = _
  simp only [Act.put, List.setIfInBounds_toArray, List.set_cons_zero, List.set_cons_succ]
  rfl
 refine tI (i := 5) (N := some 61) #[true, true, true, true, true, true, false, false] rfl rfl (eX HT_.out (by kernel_rfl)) (by decide) (fun K hK => ?_)
 refine zB Try.func136 (by kernel_rfl) rfl #[.pointer (some ⟨g, 0, none⟩), .slice pA pn pc] (by rfl) rfl rfl (by (try simp only [List.map_toArray, List.map_cons, List.map_nil]); first | done | rfl) ?_
 refine (H12.out _ _ _ _ _ _ _ _ _ hSe hSd hu74).mono ?_
 rintro e w76 ⟨rfl, hSp⟩
 obtain ⟨HS1_, ⟨x68, hx68⟩, hf68⟩ := H13.out _ _ _ _ _ _ _ _ _ _ _ _ hSp rfl eh
 refine ⟨_, rfl, ?_⟩
 refine hK.out _ _ (HS1_) (fun hHeld => ?_)
 clear hK K
 refine kY (a' := ?_) ?_ ?_
 rotate_left
 ·show Act.put _ (some 61) _ = _
  simp only [Act.put, List.setIfInBounds_toArray, List.set_cons_zero, List.set_cons_succ]
  rfl
 refine dT (i := 6) (N := some 62) (v := ?_) (a' := ?_) #[true, true, true, true, true, true, true, false] rfl rfl (dc HT_.out (by kernel_rfl)) (fun _ _ _ h => h) (Or.inl ⟨by rfl, ?_⟩) ?_ ?_
 rotate_left
 ·intro w'
  go_simp
  with_reducible rfl
 rotate_left
 ·simp only [Act.put, List.setIfInBounds_toArray, List.set_cons_zero, List.set_cons_succ]
  rfl
 refine tp (i := 7) (N := none) #[true, true, true, true, true, true, true, true] rfl rfl (eX HT_.out (by kernel_rfl)) (by decide) (fun K hK => ?_)
 refine wB (w1 := ?_) (by rfl) rfl ?_ ?_
 rotate_left
 ·go_simp
  rfl
 refine hK.out _ _ ?_
 clear hK K
 refine vE (mL HT_.out (by kernel_rfl)) ?_
 have hSf := H14.out _ _ _ _ _ _ _ _ _ _ hSp eh
 have qy := hSf.cells
 generalize (w76.setCell ⟨g1, 0, none⟩ (.int .i64 z2)) = w79 at hSf qy ⊢
 go_wp2_with (first
  | (go_at_call 190; (refine (H10.out _ _ _ _ _ _ _ _ hSf).mono ?_; rintro e wb ⟨u, rfl, hu, hSb⟩; obtain ⟨uA, un, uc, rfl⟩ := hu.sl; obtain ⟨r6, r7⟩ := hSb.two; have hD := hSb.done hu; have r8 := hSb.res (.slice uA un uc); clear hSb hu)))
 refine bodyPost_ret (Go.Proofs.YtcbhhbkghbnljaaW.PrintWords.cW rfl _ _ w.heap.size 35 #[.slice uA un uc] (0, 0) _ rfl r8 Try.underlying35 rfl (by kernel_rfl)) rfl ?_
 exact ⟨_, _, _, rfl, hD⟩
set_option maxHeartbeats 4000000 in
theorem Ku (P : WP k k4 w X vc code lt ls s0 s1 a c p q) (hc : c = 0) (e6 : ak.f (s1.1, p, q) 2 = some (y, s2)) (hy : y = 0) (e7 : aq.f k lt 2 = some (y1, y2, c2)) (hc2 : c2 = 0) (hn : ¬ y2.length ≤ 120) (e9 : ak.f s2 24 = some (z, s3)) (hz0 : z ≠ 0) (hz1 : z ≠ 1) (e10 : aY.f k s3 lt = some (lt', s4)) : WE w X vc lt' ls := by
 unfold WE
 subst hc2
 subst hy
 subst hc
 have H1 := wq0 P
 have H2 := wq1 P
 have H3 := wq2 P
 have H4 := wq3 P
 have H5 := wq4 P
 have H6 := rh w X lt ls e6
 have H7 := yO w X ls e7
 have hn1 : decide ((y2.length : Int) ≤ 120) = false := decide_eq_false (by omega)
 have H9 := yN w X lt ls e9
 have hz2 : (z == 0) = false := beq_eq_false_iff_ne.2 hz0
 have hz3 : (z == 1) = false := beq_eq_false_iff_ne.2 hz1
 have H10 := wq8 w X ls e10
 clear P e6 e7 hn e9 hz0 hz1 e10
 go_enter Try.func195, Try.ntmps195
 go_wp2_with (first
  | (go_at_call 135; (refine H1.out.mono ?_; rintro e w1 ⟨g, rfl, hA⟩))
  | (go_at_call 213; (refine (H2.out _ _ hA).mono ?_; rintro e w2 ⟨vt, rfl, hS0⟩; obtain ⟨tA, tn, tc, rfl⟩ := hS0.tsl; have q0 := hS0.cells))
  | (go_at_call 142; (refine (H3.out _ _ _ _ _ _ _ _ _ hS0).mono ?_; rintro e w3 ⟨rfl, hS1, -⟩; have q1 := hS1.cells))
  | (go_at_call 223; (refine (H4.out _ _ _ _ _ _ _ _ hS1).mono ?_; rintro e w4 ⟨v, hs, rfl, hS2⟩; obtain ⟨vA, vn, vc, rfl⟩ := hS2.vsl; have q2 := hS2.cells; clear hS0 hS1))
  | (go_at_call 146; (refine (H5.out _ _ _ _ _ _ _ _ _ hS2).mono ?_; rintro e w5 ⟨rfl, hS3, -⟩; have q3 := hS3.cells; clear hS2))
  | (go_at_call 147; (refine (H6.out _ _ _ _ _ _ _ _ hS3).mono ?_; rintro e w6 ⟨rfl, hS4⟩; have q4 := hS4.cells; clear hS3))
  | (go_at_call 22; (refine (H7.out _ _ _ _ _ _ _ _ _ hS4).mono ?_; rintro e w7 ⟨u1, u2, rfl, hS5, hu2⟩; obtain ⟨uA2, uc2, rfl⟩ := bRL.sl2 hu2; have q5 := hS5.cells; clear hS4))
  | (go_at_call 147; (refine (H9.out _ _ _ _ _ _ _ hS5).mono ?_; rintro e wz ⟨rfl, hSz⟩; have qz := hSz.cells; clear hS5))
  | (go_at_call 190; (refine (H10.out _ _ _ _ _ _ _ _ hSz).mono ?_; rintro e wb ⟨u, rfl, hu, hSb⟩; obtain ⟨uA, un, uc, rfl⟩ := hu.sl; obtain ⟨r6, r7⟩ := hSb.two; have hD := hSb.done hu; have r8 := hSb.res (.slice uA un uc); clear hSb hu)))
 refine bodyPost_ret (Go.Proofs.YtcbhhbkghbnljaaW.PrintWords.cW rfl _ _ w.heap.size 35 #[.slice uA un uc] (0, 0) _ rfl r8 Try.underlying35 rfl (by kernel_rfl)) rfl ?_
 exact ⟨_, _, _, rfl, hD⟩
set_option maxHeartbeats 4000000 in
theorem Kv (P : WP k k4 w X vc code lt ls s0 s1 a c p q) (hc : c = 0) (e6 : ak.f (s1.1, p, q) 2 = some (y, s2)) (hy : y = 0) (e7 : aq.f k lt 2 = some (y1, y2, c2)) (hc2 : c2 = 0) (hn : y2.length ≤ 120) (e8 : K.aa.f k8 a 2 y2 = some (lsp, c3)) (e9 : ak.f s2 24 = some (z, s3)) (hz : z = 0) (hn9 : lsp.length + 1 ≤ 1099511627776) (e10 : aY.f k s3 lt = some (lt', s4)) : WE w X vc lt' (lsp ++ [[0]]) := by
 unfold WE
 subst hz
 subst hc2
 subst hy
 subst hc
 have H1 := wq0 P
 have H2 := wq1 P
 have H3 := wq2 P
 have H4 := wq3 P
 have H5 := wq4 P
 have H6 := rh w X lt ls e6
 have H7 := yO w X ls e7
 have hn1 : decide ((y2.length : Int) ≤ 120) = true := decide_eq_true (by omega)
 have H8 := ND w X lt ls hn e8
 have H9 := NF w X lt lsp e9
 have HM := cJ.mk (show lsp.length + 1 ≤ maxLen ∧ (lsp.length + 1) * 24 ≤ 140737488355328 by unfold maxLen; omega)
 obtain ⟨HU, i0, HI0, HZ0, HS0, HY0⟩ := wI
 have H11 := cJ.mk (fun (W : World) (b2 b5 g : Nat) (vt v : Value) (hs : List Value) (hS : nS w W X b2 b5 g s3 vt lt v hs lsp) => hS.pre)
 have H12 := cJ.mk (fun (W : World) (b2 b5 g : Nat) (vt v : Value) (hs : List Value) (hS : nS w W X b2 b5 g s3 vt lt v hs lsp) w3 v3 ho hg hb => nS.app (w3 := w3) (v3 := v3) hS ho hg hb)
 have H10 := wq8 w X ls e10
 clear P e6 e7 hn e8 e9 hn9 e10
 go_enter Try.func195, Try.ntmps195
 go_wp2_with (first
  | (go_at_call 135; (refine H1.out.mono ?_; rintro e w1 ⟨g, rfl, hA⟩))
  | (go_at_call 213; (refine (H2.out _ _ hA).mono ?_; rintro e w2 ⟨vt, rfl, hS0⟩; obtain ⟨tA, tn, tc, rfl⟩ := hS0.tsl; have q0 := hS0.cells))
  | (go_at_call 142; (refine (H3.out _ _ _ _ _ _ _ _ _ hS0).mono ?_; rintro e w3 ⟨rfl, hS1, -⟩; have q1 := hS1.cells))
  | (go_at_call 223; (refine (H4.out _ _ _ _ _ _ _ _ hS1).mono ?_; rintro e w4 ⟨v, hs, rfl, hS2⟩; obtain ⟨vA, vn, vc, rfl⟩ := hS2.vsl; have q2 := hS2.cells; clear hS0 hS1))
  | (go_at_call 146; (refine (H5.out _ _ _ _ _ _ _ _ _ hS2).mono ?_; rintro e w5 ⟨rfl, hS3, -⟩; have q3 := hS3.cells; clear hS2))
  | (go_at_call 147; (refine (H6.out _ _ _ _ _ _ _ _ hS3).mono ?_; rintro e w6 ⟨rfl, hS4⟩; have q4 := hS4.cells; clear hS3))
  | (go_at_call 22; (refine (H7.out _ _ _ _ _ _ _ _ _ hS4).mono ?_; rintro e w7 ⟨u1, u2, rfl, hS5, hu2⟩; obtain ⟨uA2, uc2, rfl⟩ := bRL.sl2 hu2; have q5 := hS5.cells; clear hS4))
  | (go_at_call 142; (refine (H3.out _ _ _ _ _ _ _ _ _ hS5).mono ?_; rintro e w8 ⟨rfl, hS6, hb6⟩; have hu3 := bRL.jP hu2 hb6; have q6 := hS6.cells; clear hS5 hu2))
  | (go_at_call 224; (refine (H8.out _ _ _ _ _ _ _ _ _ _ hS6 hu3).mono ?_; rintro e w9 ⟨v9, hs9, rfl, hS7⟩; obtain ⟨vA9, vn9, vc9, rfl⟩ := hS7.vsl; have q7 := hS7.cells; clear hS6))
  | (go_at_call 147; (refine (H9.out _ _ _ _ _ _ _ hS7).mono ?_; rintro e wz ⟨rfl, hSz⟩; have qz := hSz.cells; clear hS7; have qp := H11.out _ _ _ _ _ _ _ hSz))
  | (at_builtin; (refine wpList_append_own_at _ rfl _ _ 86 rfl 0 29 i0 (.slice none 0 0) 1 24 HU.out HI0.out HZ0.out HS0.out HY0.out rfl (by decide) _ lsp.length _ rfl qp.1 ⟨wz.heap.size + 1, 0, none⟩ 1 1 [.slice (some ⟨wz.heap.size, 0, none⟩) 1 1] rfl rfl qp.2 (by intro u hu; rw [List.mem_singleton.1 hu]; rfl) HM.out.1 HM.out.2 (Nat.zero_le _) ?_; intro v10 w10 hown hgr _ hbl; have hSf := H12.out _ _ _ _ _ _ _ hSz _ _ hown hgr hbl; have qy := hSf.cells; obtain ⟨vA10, vn10, vc10, rfl⟩ := hSf.vsl; clear hown hgr hbl hSz))
  | (go_at_call 190; (refine (H10.out _ _ _ _ _ _ _ _ hSf).mono ?_; rintro e wb ⟨u, rfl, hu, hSb⟩; obtain ⟨uA, un, uc, rfl⟩ := hu.sl; obtain ⟨r6, r7⟩ := hSb.two; have hD := hSb.done hu; have r8 := hSb.res (.slice uA un uc); clear hSb hu)))
 refine bodyPost_ret (Go.Proofs.YtcbhhbkghbnljaaW.PrintWords.cW rfl _ _ w.heap.size 35 #[.slice uA un uc] (0, 0) _ rfl r8 Try.underlying35 rfl (by kernel_rfl)) rfl ?_
 exact ⟨_, _, _, rfl, hD⟩
set_option maxHeartbeats 4000000 in
theorem Kw (P : WP k k4 w X vc code lt ls s0 s1 a c p q) (hc : c = 0) (e6 : ak.f (s1.1, p, q) 2 = some (y, s2)) (hy : y = 0) (e7 : aq.f k lt 2 = some (y1, y2, c2)) (hc2 : c2 = 0) (hn : y2.length ≤ 120) (e8 : K.aa.f k8 a 2 y2 = some (lsp, c3)) (e9 : ak.f s2 24 = some (z, s3)) (hz : z = 1) (hn9 : 0 < lsp.length) (hn8 : 0 < (lsp.getD 0 []).length) (e11 : bT.f s3 [8, -2, 0] = some (z2, s5)) (e10 : aY.f k s5 lt = some (lt', s4)) : WE w X vc lt' (lsp.set 0 ((lsp.getD 0 []).set 0 z2)) := by
 unfold WE
 subst hz
 subst hc2
 subst hy
 subst hc
 have H1 := wq0 P
 have H2 := wq1 P
 have H3 := wq2 P
 have H4 := wq3 P
 have H5 := wq4 P
 have H6 := rh w X lt ls e6
 have H7 := yO w X ls e7
 have hn1 : decide ((y2.length : Int) ≤ 120) = true := decide_eq_true (by omega)
 have H8 := ND w X lt ls hn e8
 have H9 := NF w X lt lsp e9
 have H11 := cJ.mk (fun (W : World) (b2 b5 g : Nat) (vt v : Value) (hs : List Value) (hS : nS w W X b2 b5 g s3 vt lt v hs lsp) => hS.head hn9 hn8)
 have H12 := cJ.mk (fun (W W0 : World) (b2 b5 g : Nat) (vt v u : Value) (hs : List Value) (hS : nS w W X b2 b5 g s3 vt lt v hs lsp) (hS0 : nS w W0 X b2 b5 g s3 vt lt v hs lsp) (hu : bOw W W0.heap.size u [8, -2, 0]) => nS.pick hS hS0 hu e11)
 have H13 := cJ.mk (fun (W : World) (b2 b5 g : Nat) (vt v : Value) (hs : List Value) (gv cv g1 n1 c1 : Nat) (hS : nS w W X b2 b5 g s5 vt lt v hs lsp) (ev : v = .slice (some ⟨gv, 0, none⟩) lsp.length cv) (eh : hs.getD 0 undef = .slice (some ⟨g1, 0, none⟩) n1 c1) => hS.KK hn9 hn8 ev eh)
 have H14 := cJ.mk (fun (W : World) (b2 b5 g : Nat) (vt v : Value) (hs : List Value) (n1 c1 g1 : Nat) (hS : nS w W X b2 b5 g s5 vt lt v hs lsp) (he : hs.getD 0 undef = .slice (some ⟨g1, 0, none⟩) n1 c1) => nS.set (y := z2) hS hn9 hn8 he)
 have l1 : (0 < lsp.length) = True := eq_true hn9
 have H10 := Iq w X ls e10
 clear P e6 e7 hn e8 e9 hn9 hn8 e11 e10
 go_enter Try.func195, Try.ntmps195
 go_wp2_with (first
  | (go_at_call 135; (refine H1.out.mono ?_; rintro e w1 ⟨g, rfl, hA⟩))
  | (go_at_call 213; (refine (H2.out _ _ hA).mono ?_; rintro e w2 ⟨vt, rfl, hS0⟩; obtain ⟨tA, tn, tc, rfl⟩ := hS0.tsl; have q0 := hS0.cells))
  | (go_at_call 142; (refine (H3.out _ _ _ _ _ _ _ _ _ hS0).mono ?_; rintro e w3 ⟨rfl, hS1, -⟩; have q1 := hS1.cells))
  | (go_at_call 223; (refine (H4.out _ _ _ _ _ _ _ _ hS1).mono ?_; rintro e w4 ⟨v, hs, rfl, hS2⟩; obtain ⟨vA, vn, vc, rfl⟩ := hS2.vsl; have q2 := hS2.cells; clear hS0 hS1))
  | (go_at_call 146; (refine (H5.out _ _ _ _ _ _ _ _ _ hS2).mono ?_; rintro e w5 ⟨rfl, hS3, -⟩; have q3 := hS3.cells; clear hS2))
  | (go_at_call 147; (refine (H6.out _ _ _ _ _ _ _ _ hS3).mono ?_; rintro e w6 ⟨rfl, hS4⟩; have q4 := hS4.cells; clear hS3))
  | (go_at_call 22; (refine (H7.out _ _ _ _ _ _ _ _ _ hS4).mono ?_; rintro e w7 ⟨u1, u2, rfl, hS5, hu2⟩; obtain ⟨uA2, uc2, rfl⟩ := bRL.sl2 hu2; have q5 := hS5.cells; clear hS4))
  | (go_at_call 142; (refine (H3.out _ _ _ _ _ _ _ _ _ hS5).mono ?_; rintro e w8 ⟨rfl, hS6, hb6⟩; have hu3 := bRL.jP hu2 hb6; have q6 := hS6.cells; clear hS5 hu2))
  | (go_at_call 224; (refine (H8.out _ _ _ _ _ _ _ _ _ _ hS6 hu3).mono ?_; rintro e w9 ⟨v9, hs9, rfl, hS7⟩; obtain ⟨vA9, vn9, vc9, rfl⟩ := hS7.vsl; have q7 := hS7.cells; clear hS6))
  | (go_at_call 147; (refine (H9.out _ _ _ _ _ _ _ hS7).mono ?_; rintro e wz ⟨rfl, hSz⟩; have qz := hSz.cells; clear hS7; obtain ⟨gv, cv, g1, n1, c1, ev, eh, qa, l2⟩ := H11.out _ _ _ _ _ _ _ hSz)))
 have hSd := hSz.drew
 refine qb (n := 8) (S := fun w' => w'.cell? ⟨gv, 0, none⟩ = some (.slice (some ⟨g1, 0, none⟩) n1 c1)) (ds := [7]) #[false, false, false, false, false, false, false, false] (by kernel_rfl) rfl rfl qa (fun hHeld => ?_); refine jd ba.Av ba.sO (fun HT_ HW_ => ?_)
 generalize wz.drew = wd at hSd hHeld ⊢
 refine dT (i := 0) (N := some 56) (v := ?_) (a' := ?_) #[true, false, false, false, false, false, false, false] rfl rfl (dc HT_.out (by kernel_rfl)) (fun _ _ _ h => h) (Or.inl ⟨by rfl, ?_⟩) ?_ ?_
 rotate_left
 ·intro w'
  go_simp
  with_reducible rfl
 rotate_left
 ·simp only [Act.put, List.setIfInBounds_toArray, List.set_cons_zero, List.set_cons_succ]
  rfl
 refine dT (i := 1) (N := some 57) (v := ?_) (a' := ?_) #[true, true, false, false, false, false, false, false] rfl rfl (dc HT_.out (by kernel_rfl)) (fun _ _ _ h => h) (Or.inl ⟨by rfl, ?_⟩) ?_ ?_
 rotate_left
 ·intro w'
  go_simp
  with_reducible rfl
 rotate_left
 ·simp only [Act.put, List.setIfInBounds_toArray, List.set_cons_zero, List.set_cons_succ]
  rfl
 refine dT (i := 3) (N := some 59) (v := ?_) (a' := ?_) #[true, true, false, true, false, false, false, false] rfl rfl (dc HT_.out (by kernel_rfl)) (fun _ _ _ h => h) (Or.inl ⟨by rfl, ?_⟩) ?_ ?_
 rotate_left
 ·intro w'
  go_simp
  with_reducible rfl
 rotate_left
 ·simp only [Act.put, List.setIfInBounds_toArray, List.set_cons_zero, List.set_cons_succ]
  rfl
 refine uw (i := 2) (N := some 58) (v := ?_) (a' := ?_) #[true, true, true, true, false, false, false, false] rfl rfl (jE HT_.out HW_.out (by kernel_rfl)) (fun _ _ _ h => h) (Or.inl ⟨by rfl, ?_⟩) hHeld ?_ ?_
 rotate_left
 ·intro w' s0
  go_simp
  with_reducible rfl
 rotate_left
 ·simp only [Act.put, List.setIfInBounds_toArray, List.set_cons_zero, List.set_cons_succ]
  rfl
 refine tI (i := 4) (N := some 60) #[true, true, true, true, true, false, false, false] rfl rfl (eX HT_.out (by kernel_rfl)) (by decide) (fun K hK => ?_)
 refine Kd.jh (Kd.int .i64) wd.heap.size 2 ?hg (N := 60) ?hd (xs := ([8, (-2), 0] : List Int)) (inner := [.int .i64 8, .int .i64 (-2), .int .i64 0]) (ok := fun _ => True) (okp := fun _ => True) ?hr ?hp (fun _ hk => hk) trivial (Below.refl _ _) (Nat.le_refl _) (by simp) ?_; (case hd => rfl); (case hg => rfl); (case hr => first | (go_simp; done) | (go_simp; rfl)); (case hp => exact (dC.one (show Kd.M (Kd.int .i64) _ _ _ 8 [.int .i64 8] from rfl) (dC.one (show Kd.M (Kd.int .i64) _ _ _ (-2) [.int .i64 (-2)] from rfl) (dC.one (show Kd.M (Kd.int .i64) _ _ _ 0 [.int .i64 0] from rfl) (dC.none _ _)))))
 intro v625 w73 ho74 hb hg_ hnew_
 have HS0_ := (hb.cell (World.block_lt_of_cell? _ _ (hHeld))).trans (hHeld)
 have hSe := hSd.jP hb
 have hu74 := zR ho74
 obtain ⟨pA, pn, pc, rfl⟩ := bRL.sl (hu74.rl (N := fun _ => False) fun _ _ => id)
 clear hg_ hnew_ ho74
 refine hK.out _ _ (HS0_) (fun hHeld => ?_)
 clear hK K
 refine kY (a' := ?_) ?_ ?_
 rotate_left
 ·show Act.put _ (some 60) _ = _
  simp only [Act.put, List.setIfInBounds_toArray, List.set_cons_zero, List.set_cons_succ]
  rfl
 refine tI (i := 5) (N := some 61) #[true, true, true, true, true, true, false, false] rfl rfl (eX HT_.out (by kernel_rfl)) (by decide) (fun K hK => ?_)
 refine zB Try.func136 (by kernel_rfl) rfl #[.pointer (some ⟨g, 0, none⟩), .slice pA pn pc] (by rfl) rfl rfl (by (try simp only [List.map_toArray, List.map_cons, List.map_nil]); first | done | rfl) ?_
 refine (H12.out _ _ _ _ _ _ _ _ _ hSe hSd hu74).mono ?_
 rintro e w76 ⟨rfl, hSp⟩
 obtain ⟨HS1_, ⟨x68, hx68⟩, hf68⟩ := H13.out _ _ _ _ _ _ _ _ _ _ _ _ hSp rfl eh
 refine ⟨_, rfl, ?_⟩
 refine hK.out _ _ (HS1_) (fun hHeld => ?_)
 clear hK K
 refine kY (a' := ?_) ?_ ?_
 rotate_left
 ·show Act.put _ (some 61) _ = _
  simp only [Act.put, List.setIfInBounds_toArray, List.set_cons_zero, List.set_cons_succ]
  rfl
 refine dT (i := 6) (N := some 62) (v := ?_) (a' := ?_) #[true, true, true, true, true, true, true, false] rfl rfl (dc HT_.out (by kernel_rfl)) (fun _ _ _ h => h) (Or.inl ⟨by rfl, ?_⟩) ?_ ?_
 rotate_left
 ·intro w'
  go_simp
  with_reducible rfl
 rotate_left
 ·simp only [Act.put, List.setIfInBounds_toArray, List.set_cons_zero, List.set_cons_succ]
  rfl
 refine tp (i := 7) (N := none) #[true, true, true, true, true, true, true, true] rfl rfl (eX HT_.out (by kernel_rfl)) (by decide) (fun K hK => ?_)
 refine wB (w1 := ?_) (by rfl) rfl ?_ ?_
 rotate_left
 ·go_simp
  rfl
 refine hK.out _ _ ?_
 clear hK K
 refine vE (mL HT_.out (by kernel_rfl)) ?_
 have hSf := H14.out _ _ _ _ _ _ _ _ _ _ hSp eh
 have qy := hSf.cells
 generalize (w76.setCell ⟨g1, 0, none⟩ (.int .i64 z2)) = w79 at hSf qy ⊢
 go_wp2_with (first
  | (go_at_call 190; (refine (H10.out _ _ _ _ _ _ _ _ hSf).mono ?_; rintro e wb ⟨u, rfl, hu, hSb⟩; obtain ⟨uA, un, uc, rfl⟩ := hu.sl; obtain ⟨r6, r7⟩ := hSb.two; have hD := hSb.done hu; have r8 := hSb.res (.slice uA un uc); clear hSb hu)))
 refine bodyPost_ret (Go.Proofs.YtcbhhbkghbnljaaW.PrintWords.cW rfl _ _ w.heap.size 35 #[.slice uA un uc] (0, 0) _ rfl r8 Try.underlying35 rfl (by kernel_rfl)) rfl ?_
 exact ⟨_, _, _, rfl, hD⟩
set_option maxHeartbeats 4000000 in
theorem Kx (P : WP k k4 w X vc code lt ls s0 s1 a c p q) (hc : c = 0) (e6 : ak.f (s1.1, p, q) 2 = some (y, s2)) (hy : y = 0) (e7 : aq.f k lt 2 = some (y1, y2, c2)) (hc2 : c2 = 0) (hn : y2.length ≤ 120) (e8 : K.aa.f k8 a 2 y2 = some (lsp, c3)) (e9 : ak.f s2 24 = some (z, s3)) (hz0 : z ≠ 0) (hz1 : z ≠ 1) (e10 : aY.f k s3 lt = some (lt', s4)) : WE w X vc lt' lsp := by
 unfold WE
 subst hc2
 subst hy
 subst hc
 have H1 := wq0 P
 have H2 := wq1 P
 have H3 := wq2 P
 have H4 := wq3 P
 have H5 := wq4 P
 have H6 := rh w X lt ls e6
 have H7 := yO w X ls e7
 have hn1 : decide ((y2.length : Int) ≤ 120) = true := decide_eq_true (by omega)
 have H8 := ND w X lt ls hn e8
 have H9 := NF w X lt lsp e9
 have hz2 : (z == 0) = false := beq_eq_false_iff_ne.2 hz0
 have hz3 : (z == 1) = false := beq_eq_false_iff_ne.2 hz1
 have H10 := wq8 w X ls e10
 clear P e6 e7 hn e8 e9 hz0 hz1 e10
 go_enter Try.func195, Try.ntmps195
 go_wp2_with (first
  | (go_at_call 135; (refine H1.out.mono ?_; rintro e w1 ⟨g, rfl, hA⟩))
  | (go_at_call 213; (refine (H2.out _ _ hA).mono ?_; rintro e w2 ⟨vt, rfl, hS0⟩; obtain ⟨tA, tn, tc, rfl⟩ := hS0.tsl; have q0 := hS0.cells))
  | (go_at_call 142; (refine (H3.out _ _ _ _ _ _ _ _ _ hS0).mono ?_; rintro e w3 ⟨rfl, hS1, -⟩; have q1 := hS1.cells))
  | (go_at_call 223; (refine (H4.out _ _ _ _ _ _ _ _ hS1).mono ?_; rintro e w4 ⟨v, hs, rfl, hS2⟩; obtain ⟨vA, vn, vc, rfl⟩ := hS2.vsl; have q2 := hS2.cells; clear hS0 hS1))
  | (go_at_call 146; (refine (H5.out _ _ _ _ _ _ _ _ _ hS2).mono ?_; rintro e w5 ⟨rfl, hS3, -⟩; have q3 := hS3.cells; clear hS2))
  | (go_at_call 147; (refine (H6.out _ _ _ _ _ _ _ _ hS3).mono ?_; rintro e w6 ⟨rfl, hS4⟩; have q4 := hS4.cells; clear hS3))
  | (go_at_call 22; (refine (H7.out _ _ _ _ _ _ _ _ _ hS4).mono ?_; rintro e w7 ⟨u1, u2, rfl, hS5, hu2⟩; obtain ⟨uA2, uc2, rfl⟩ := bRL.sl2 hu2; have q5 := hS5.cells; clear hS4))
  | (go_at_call 142; (refine (H3.out _ _ _ _ _ _ _ _ _ hS5).mono ?_; rintro e w8 ⟨rfl, hS6, hb6⟩; have hu3 := bRL.jP hu2 hb6; have q6 := hS6.cells; clear hS5 hu2))
  | (go_at_call 224; (refine (H8.out _ _ _ _ _ _ _ _ _ _ hS6 hu3).mono ?_; rintro e w9 ⟨v9, hs9, rfl, hS7⟩; obtain ⟨vA9, vn9, vc9, rfl⟩ := hS7.vsl; have q7 := hS7.cells; clear hS6))
  | (go_at_call 147; (refine (H9.out _ _ _ _ _ _ _ hS7).mono ?_; rintro e wz ⟨rfl, hSz⟩; have qz := hSz.cells; clear hS7))
  | (go_at_call 190; (refine (H10.out _ _ _ _ _ _ _ _ hSz).mono ?_; rintro e wb ⟨u, rfl, hu, hSb⟩; obtain ⟨uA, un, uc, rfl⟩ := hu.sl; obtain ⟨r6, r7⟩ := hSb.two; have hD := hSb.done hu; have r8 := hSb.res (.slice uA un uc); clear hSb hu)))
 refine bodyPost_ret (Go.Proofs.YtcbhhbkghbnljaaW.PrintWords.cW rfl _ _ w.heap.size 35 #[.slice uA un uc] (0, 0) _ rfl r8 Try.underlying35 rfl (by kernel_rfl)) rfl ?_
 exact ⟨_, _, _, rfl, hD⟩
end Go.Proofs.Ytcbhhbkghbnljaa.Vf
end
section
set_option linter.unusedVariables false
set_option maxRecDepth 100000
namespace Go.Proofs.Ytcbhhbkghbnljaa.Vf
open Go Go.V Go.RowKit Go.Proofs
theorem C0 (k : Nat) {w : World} {X : Nat → Prop} {vc : Value} {code lt' : List Int} {ls' : List (List Int)} (hX : ∀ q, X q → q < w.heap.size) (h : Rc w X (.list (.int .u8)) code [vc]) (hy : ba.f k code = some (lt', ls')) :
  Calls Try.prog 195 #[vc] w fun e w' => ∃ u v hs, e = .returned (.tuple #[.agg #[u], v]) ∧ bRL w' X u lt' ∧ lY w' v hs ls' ∧ (∀ q, nBl v hs q → w.heap.size ≤ q) ∧ Below w.heap.size w w' := by
 unfold ba.f at hy
 obtain ⟨s0, e1, hy⟩ := Option.bind_eq_some_iff.1 hy
 obtain ⟨⟨lt, s1⟩, e2, hy⟩ := Option.bind_eq_some_iff.1 hy
 obtain ⟨a, e3, hy⟩ := Option.bind_eq_some_iff.1 hy
 split at hy
 case isFalse => cases hy
 rename_i hl
 obtain ⟨⟨ls, p, q⟩, e4, hy⟩ := Option.bind_eq_some_iff.1 hy
 obtain ⟨k4, e4⟩ := DD e4
 obtain ⟨c, e5, hy⟩ := Option.bind_eq_some_iff.1 hy
 obtain ⟨⟨lm, sm⟩, em, hy⟩ := Option.bind_eq_some_iff.1 hy
 obtain ⟨⟨z, s3⟩, e9, hy⟩ := Option.bind_eq_some_iff.1 hy
 obtain ⟨⟨lf, sf⟩, ef, hy⟩ := Option.bind_eq_some_iff.1 hy
 obtain ⟨⟨lb, s4⟩, e10, hy⟩ := Option.bind_eq_some_iff.1 hy
 obtain ⟨rfl, rfl⟩ := Prod.mk.inj (Option.some.inj hy)
 clear hy
 unfold ba.mid at em
 unfold ba.fin at ef
 have e9 : ak.f sm 24 = some (z, s3) := e9
 have ef : (if z = 0 then (if lm.length + 1 ≤ 1099511627776 then some (lm ++ [[0]], s3) else none) else if z = 1 then (if 0 < lm.length then (if 0 < (lm.getD 0 []).length then (bT.f s3 [8, -2, 0]).bind fun y => some (lm.set 0 ((lm.getD 0 []).set 0 y.1), y.2) else none) else none) else some (lm, s3)) = some (lf, sf) := ef
 have hfin : ∀ {P : Prop}, (z = 0 → lm.length + 1 ≤ 1099511627776 → lf = lm ++ [[0]] → sf = s3 → P) → (z = 1 → 0 < lm.length → 0 < (lm.getD 0 []).length → (∀ z2 s5, bT.f s3 [8, -2, 0] = some (z2, s5) → lf = lm.set 0 ((lm.getD 0 []).set 0 z2) → sf = s5 → P)) → (z ≠ 0 → z ≠ 1 → lf = lm → sf = s3 → P) → P := by
  intro P f0 f1 f2
  split at ef
  ·rename_i hz
   split at ef
   ·rename_i hn
    obtain ⟨rfl, rfl⟩ := Prod.mk.inj (Option.some.inj ef)
    exact f0 hz hn rfl rfl
   ·cases ef
  ·rename_i hz
   split at ef
   ·rename_i hz1
    split at ef
    ·rename_i hn
     split at ef
     ·rename_i hn2
      obtain ⟨⟨z2, s5⟩, e11, ef⟩ := Option.bind_eq_some_iff.1 ef
      obtain ⟨rfl, rfl⟩ := Prod.mk.inj (Option.some.inj ef)
      exact f1 hz1 hn hn2 _ _ e11 rfl rfl
     ·cases ef
    ·cases ef
   ·rename_i hz1
    obtain ⟨rfl, rfl⟩ := Prod.mk.inj (Option.some.inj ef)
    exact f2 hz hz1 rfl rfl
 clear ef
 have P : WP k k4 w X vc code lt ls s0 s1 a c p q := ⟨hX, h, e1, e2, e3, hl, e4, e5⟩
 by_cases hc : c = 0
 ·have em : ((ak.f (s1.1, p, q) 2).bind fun y => if y.1 = 0 then (aq.f k lt 2).bind fun p =>
   if p.2.2 = 0 then (if p.2.1.length ≤ 120 then (di.f lt).bind fun a => (evN fun k => K.aa.f k a 2 p.2.1).bind fun o => some (o.1, y.2) else some (ls, y.2)) else some (ls, y.2)
   else some (ls, y.2)) = some (lm, sm) := (if_pos hc).symm.trans em
  obtain ⟨⟨y, s2⟩, e6, em⟩ := Option.bind_eq_some_iff.1 em
  by_cases hy0 : y = 0
  ·have em : ((aq.f k lt 2).bind fun p => if p.2.2 = 0 then (if p.2.1.length ≤ 120 then (di.f lt).bind fun a => (evN fun k => K.aa.f k a 2 p.2.1).bind fun o => some (o.1, s2) else some (ls, s2)) else some (ls, s2)) = some (lm, sm) := (if_pos hy0).symm.trans em
   obtain ⟨⟨y1, y2, c2⟩, e7, em⟩ := Option.bind_eq_some_iff.1 em
   by_cases hc2 : c2 = 0
   ·have em : (if y2.length ≤ 120 then (di.f lt).bind fun a => (evN fun k => K.aa.f k a 2 y2).bind fun o => some (o.1, s2) else some (ls, s2)) = some (lm, sm) := (if_pos hc2).symm.trans em
    by_cases hn : y2.length ≤ 120
    ·rw [if_pos hn] at em
     obtain ⟨a', e3', em⟩ := Option.bind_eq_some_iff.1 em
     rw [e3] at e3'
     obtain rfl := Option.some.inj e3'
     obtain ⟨⟨lsp, c3⟩, e8, em⟩ := Option.bind_eq_some_iff.1 em
     obtain ⟨k8, e8⟩ := DD e8
     obtain ⟨rfl, rfl⟩ := Prod.mk.inj (Option.some.inj em)
     exact hfin (fun hz hn9 e e' => by subst e e'; exact Kv P hc e6 hy0 e7 hc2 hn e8 e9 hz hn9 e10) (fun hz hn9 hn8 z2 s5 e11 e e' => by subst e e'; exact Kw P hc e6 hy0 e7 hc2 hn e8 e9 hz hn9 hn8 e11 e10) (fun hz0 hz1 e e' => by subst e e'; exact Kx P hc e6 hy0 e7 hc2 hn e8 e9 hz0 hz1 e10)
    ·rw [if_neg hn] at em
     obtain ⟨rfl, rfl⟩ := Prod.mk.inj (Option.some.inj em)
     exact hfin (fun hz hn9 e e' => by subst e e'; exact Ks P hc e6 hy0 e7 hc2 hn e9 hz hn9 e10) (fun hz hn9 hn8 z2 s5 e11 e e' => by subst e e'; exact Kt P hc e6 hy0 e7 hc2 hn e9 hz hn9 hn8 e11 e10) (fun hz0 hz1 e e' => by subst e e'; exact Ku P hc e6 hy0 e7 hc2 hn e9 hz0 hz1 e10)
   ·have em : some (ls, s2) = some (lm, sm) := (if_neg hc2).symm.trans em
    obtain ⟨rfl, rfl⟩ := Prod.mk.inj (Option.some.inj em)
    exact hfin (fun hz hn9 e e' => by subst e e'; exact Kp P hc e6 hy0 e7 hc2 e9 hz hn9 e10) (fun hz hn9 hn8 z2 s5 e11 e e' => by subst e e'; exact Kq P hc e6 hy0 e7 hc2 e9 hz hn9 hn8 e11 e10) (fun hz0 hz1 e e' => by subst e e'; exact Kr P hc e6 hy0 e7 hc2 e9 hz0 hz1 e10)
  ·have em : some (ls, s2) = some (lm, sm) := (if_neg hy0).symm.trans em
   obtain ⟨rfl, rfl⟩ := Prod.mk.inj (Option.some.inj em)
   exact hfin (fun hz hn9 e e' => by subst e e'; exact Km P hc e6 hy0 e9 hz hn9 e10) (fun hz hn9 hn8 z2 s5 e11 e e' => by subst e e'; exact Kn P hc e6 hy0 e9 hz hn9 hn8 e11 e10) (fun hz0 hz1 e e' => by subst e e'; exact Ko P hc e6 hy0 e9 hz0 hz1 e10)
 ·have em : some (ls, (s1.1, p, q)) = some (lm, sm) := (if_neg hc).symm.trans em
  obtain ⟨rfl, rfl⟩ := Prod.mk.inj (Option.some.inj em)
  exact hfin (fun hz hn9 e e' => by subst e e'; exact Kj P hc e9 hz hn9 e10) (fun hz hn9 hn8 z2 s5 e11 e e' => by subst e e'; exact Kk P hc e9 hz hn9 hn8 e11 e10) (fun hz0 hz1 e e' => by subst e e'; exact Kl P hc e9 hz0 hz1 e10)
theorem Ea {w : World} {N : Nat → Prop} : ∀ {ls : List (List Int)} {hs : List Value}, hs.length = ls.length → (∀ i : Nat, i < ls.length → bRL w N (hs.getD i undef) (ls.getD i [])) → cw w N (.list (.int .i64)) ls hs
 | [], [], _, _ => rfl
 | l :: ls, v :: hs, hl, h => ⟨[v], hs, rfl, h 0 (by simp), Ea (by simpa using hl) fun i hi => by
   have := h (i + 1) (by simpa using hi)
   simpa using this⟩
 | [], _ :: _, hl, _ => by simp at hl
 | _ :: _, [], hl, _ => by simp at hl
theorem lY.rc {w : World} {N : Nat → Prop} {v : Value} {hs : List Value} {ls : List (List Int)} (h : lY w v hs ls) (hN : ∀ q, nBl v hs q → ¬ N q) : Rc w N (.list (.list (.int .i64))) ls [v] := by
 have hlen := h.len
 refine ue (t := .list (.int .i64)) (N := N) (show w.ownsRow 0 29 1 v (List.length ls) hs from h.hd) (Ea hlen fun i hi => ?_) (fun _ h => h) (fun r hr => hN r (Or.inl hr))
 refine ue (t := .int .i64) (N := N) (show w.ownsRow 0 2 1 _ (List.length (ls.getD i [])) _ from h.el i hi) (kE.2 rfl) (fun _ h => h) (fun r hr => hN r (Or.inr ⟨hs.getD i undef, ?_, hr⟩))
 rw [List.getD_eq_getElem?_getD, List.getElem?_eq_getElem (by omega), Option.getD_some]
 exact List.getElem_mem _
noncomputable def Lf (k : Nat) : bD := ⟨[(false, [.dat (.list (.int .u8))])], [(true, [.dat (.list (.int .i64))]), (false, [.dat (.list (.list (.int .i64)))])], fun x => ba.f k x⟩
theorem Oj (k : Nat) : bf Try.prog 195 (Lf k) := by
 refine ⟨fun args w => by
  have hf := Try.func195
  have h1 : (Try.f195.name == "runtime.NumGoroutine") = false := by kernel_rfl
  have h1 : Try.f195.name ≠ "runtime.NumGoroutine" := by simpa using h1
  obtain ⟨c, hc⟩ := Option.isSome_iff_exists.1 (show Try.f195.body.isSome = true by kernel_rfl)
  simp [callFunc, hf, h1, hc, mark], ?_⟩
 intro w X args cells x y hc hX hp hn hy
 obtain ⟨v1, vs1, cs1, -, rfl, -, rfl, rfl, rfl⟩ := hc
 obtain ⟨u1, e1, h1⟩ := hp
 obtain ⟨rfl, -⟩ := List.cons.inj e1
 obtain ⟨yt, yl⟩ := y
 have hr : Rc w X (.list (.int .u8)) x [v1] := Rc.weaken (fun _ h => Or.inl h) h1
 refine (C0 k (fun q hq => (hX q hq).1) hr hy).mono ?_
 rintro e w' ⟨u, v, hs, rfl, ht, hrow, hnew, hB⟩
 have hvo : v.oneCell' = true := by
  rcases hrow.hd.2 with ⟨rfl, _⟩ | ⟨g, cap, cur, rfl, _⟩ <;> rfl
 refine ⟨_, [.agg #[u], v], [u, v], rfl, rfl, ⟨[u], _, _, rfl, rfl, rfl, _, _, _, rfl, rfl, hvo, rfl, rfl, rfl⟩, ⟨hB.os, hB.tape, hB.output, hB.size, fun r hr _ => hB.block r hr⟩, ?_, List.nodup_nil, fun r hr => by cases hr⟩
 refine ⟨_, _, rfl, Rc.weaken (fun q hq => ?_) ht, _, rfl, hrow.rc fun q hq hx => ?_⟩
 ·rcases hq with hq | hq | hq
  ·exact hq
  ·cases hq
  ·cases hq
 ·rcases hx with hx | hx | hx
  ·have := hnew q hq; have := (hX q hx).1; omega
  ·cases hx
  ·cases hx
end Go.Proofs.Ytcbhhbkghbnljaa.Vf
end
