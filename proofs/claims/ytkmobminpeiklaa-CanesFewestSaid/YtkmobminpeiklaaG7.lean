import Derived.Test.YtkmobminpeiklaaG6
import Derived.Test.YtkmobminpeiklaaG3
import Derived.Test.YtkmobminpeiklaaChecked
set_option linter.all false
open List renaming getD_eq_getElem?_getD → Qa, length_cons → Qc, map_cons → Qd, map_nil → Qe, length_nil → Qf, take_succ_cons → Qg, drop_succ_cons → Qh, getElem?_cons_zero → Qi, append_nil → Qj, length_map → Ql, headD_cons → Qm, getElem?_cons_succ → Qo, replicate_zero → Qp, drop_zero → Qq, nil_append → Qt, getElem?_nil → Qu, getElem?_eq_getElem → Qv, cons_append → Qw, all_nil → Qx, all_cons → Qy, take_nil → Qz, set_cons_zero → Q0, getElem?_map → Q1, replicate_succ → Q6, take_zero → Q8, contains_nil → Q9, set_cons_succ → Zc, isEmpty_nil → Zd, length_replicate → Zh, contains_cons → Zj, drop_nil → Zl, isEmpty_cons → Zo, getD_cons_zero → Zq, getD_cons_succ → Zr, any_nil → Zu, foldl_cons → Zy, any_cons → Z1, foldl_nil → Z3, headD_nil → Z4, any_eq_true → Z9, set_nil → Xc, mem_of_getElem? → Xf, pairwise_iff_getElem → Xh, getElem?_eq_some_iff → Xj, length_pos_iff → Xk, range → Xl, all_eq_true → Xm, eq_nil_of_length_eq_zero → Xn, mem_filter → Xp, find?_eq_none → Xq, length_append → Xr, flatten_nil → Xs, getElem?_eq_none → Xt, mem_iff_getElem → Xv, getElem?_of_mem → Xx, getElem?_range → Xy, ne_nil_of_mem → X0, flatten_cons → X2, any_eq_false → X3, mem_range'_1 → X4, getElem_mem → X5
open Nat renaming zero_add → Qk, add_zero → Z5, le_refl → Xo, le_of_not_lt → X6, mul_one → X7
open Bool renaming false_eq_true → Qb, or_false → Qn, and_self → Qr, and_true → Q3, not_eq_true' → Q5, decide_eq_true → Zb, false_and → Ze, true_eq_false → Zf, decide_eq_false → Zg, not_eq_false' → Zi, not_true → Zk, not_eq_false → Zm, not_false → Zn, not_eq_true → Zp, and_false → Zt, false_or → Zv, true_and → Zx, xor_self → Z2, true_or → Z6, or_true → Xb, not_not → Xd, and_eq_true → Xi, and_eq_false_iff → Xu, or_eq_false_iff → Xw, eq_iff_iff → X8
open Option renaming getD_some → Qs, map_some → Q7, getD_none → Za, map_none → Zz, some → Xe
open Int renaming toNat_natCast → Q2, natCast_nonneg → Q4, add_sub_cancel → Zs, toNat_zero → Zw, lt_irrefl → Z0, natCast_add → Z7, natCast_one → Z8, natCast_zero → Xa, le_refl → Xg, add_assoc → Xz, add_zero → X1
set_option linter.unusedSimpArgs false
set_option linter.unusedVariables false
namespace Go.C06
open Go.Fam Go.Proofs
theorem Qml (a b : Int) : (ints a b).Pairwise (· < ·) := by
 rw [Xh]
 intro i j hi hj hij
 rw [Qgf] at hi hj
 have h1 := Qhc (lo := a) (hi := b) (k := i) hi
 have h2 := Qhc (lo := a) (hi := b) (k := j) hj
 rw [Xj] at h1 h2
 obtain ⟨_, h1⟩ := h1
 obtain ⟨_, h2⟩ := h2
 rw [h1, h2]; omega
theorem Qeq (c : Cane) : (Qa7 c).Pairwise (· < ·) := (Qml _ _).sublist List.filter_sublist
theorem Qjl {l : List Int} (h : l.Pairwise (· < ·)) {k : Int} (hk : k ∈ l) : l.getD 0 0 ≤ k ∧ k ≤ l.getD (l.length - 1) 0 := by
 obtain ⟨i, hi, rfl⟩ := Xv.1 hk
 rw [Xh] at h
 simp only [Qa]
 rw [Qv (show 0 < l.length by omega), Qv (show l.length - 1 < l.length by omega)]
 simp only [Qs]
 constructor
 ·by_cases e : i = 0
  ·subst e; exact Xg _
  ·have := h 0 i (by omega) hi (by omega); omega
 ·by_cases e : i = l.length - 1
  ·subst e; exact Xg _
  ·have := h i (l.length - 1) hi (by omega) (by omega); omega
theorem Qoj {c : Cane} {k : Int} (hk : k ∈ Qa7 c) : trF c ≤ k ∧ k ≤ trL c := Qjl (Qeq c) hk
theorem Qgb {k k' : Int} (hk : 0 ≤ k) (h : k ≤ k') : ∀ {l : List Int}, (∀ n ∈ l, 1 ≤ n ∧ n ≤ 90) → Qbi l k' ≤ Qbi l k := by
 intro l
 induction l with
 | nil => intro _; exact Xg _
 | cons n l ih =>
  intro hl
  have h1 := Qfw (b := n) (by have := hl n (by simp); omega) hk h
  have h3 := ih fun m hm => hl m (by simp [hm])
  unfold Qbi at h3 ⊢
  simp only [Qd, List.sum_cons]
  omega
theorem Qtr {c : Cane} (ht : Qa7 c ≠ []) : trF c ∈ Qa7 c := by
 unfold trF
 have := Xk.2 ht
 rw [Qa, Qv this]
 exact X5 _
theorem Qts {c : Cane} (ht : Qa7 c ≠ []) : trL c ∈ Qa7 c := by
 unfold trL
 have := Xk.2 ht
 rw [Qa, Qv (show (Qa7 c).length - 1 < (Qa7 c).length by omega)]
 exact X5 _
theorem Qra {c : Cane} (hc : OkC c) (ht : Qa7 c ≠ []) {l : List Int} (hl : ∀ n ∈ l, 1 ≤ n ∧ n ≤ 90) (w : Span) :
  Qe3 l w (Qa7 c) = (Qa7 c).length ↔ w.low ≤ Qbi l (trL c) ∧ Qbi l (trF c) ≤ w.high := by
 unfold Qe3
 rw [List.countP_eq_length]
 simp only [Qar, Xi, decide_eq_true_eq]
 constructor
 ·intro h
  exact ⟨(h _ (Qts ht)).1, (h _ (Qtr ht)).2⟩
 ·intro h k hk
  have h1 := Qoj hk
  have h2 := Qe8 hc hk
  have h3 := Qqt hc ht
  have h4 := Qgb (k := k) (k' := trL c) h2.1 h1.2 hl
  have h5 := Qgb (k := trF c) (k' := k) h3.1 h1.1 hl
  omega
def Qdi (c : Cane) (ks : List Int) (w : Span) : Nat → List Int → Bool
 | 0, f => decide (Qe3 f w ks = ks.length)
 | n + 1, f => (ints 1 (Qdk c f.length)).any fun b => Qdi c ks w n (f ++ [b])
theorem Qo1 {c : Cane} (hc : OkC c) (ht : Qa7 c ≠ []) (w : Span) : ∀ (n : Nat) (f : List Int), Poss c f → (Qdi c (Qa7 c) w n f = true ↔ ∃ m, m.length = n ∧ Sure c w (f ++ m)) := by
 intro n
 induction n with
 | zero =>
  intro f hf
  rw [Qdi, decide_eq_true_eq, Qra hc ht hf.in_]
  constructor
  ·intro h; exact ⟨[], rfl, by rw [Qj]; exact ⟨hf, h⟩⟩
  ·rintro ⟨m, hm, hs⟩
   rw [Xn hm, Qj] at hs
   exact hs.2
 | succ n ih =>
  intro f hf
  rw [Qdi, Z9]
  constructor
  ·rintro ⟨b, hb, h⟩
   rw [Qe5] at hb
   obtain ⟨m, hm, hs⟩ := (ih (f ++ [b]) (Qhh.2 ⟨hf, hb⟩)).1 h
   exact ⟨b :: m, by simp [hm], by simpa using hs⟩
  ·rintro ⟨m, hm, hs⟩
   cases m with
   | nil => simp at hm
   | cons b m =>
    have hp : Poss c (f ++ [b]) := by
     intro i hi
     have := hs.1 i (by simp at hi ⊢; omega)
     rw [show f ++ b :: m = (f ++ [b]) ++ m by simp, Qgw hi] at this
     exact this
    refine ⟨b, Qe5.2 (Qhh.1 hp).2, (ih _ hp).2 ⟨m, by simpa using hm, by simpa using hs⟩⟩
theorem Qrn (c : Cane) : Poss c [] := fun i hi => absurd hi (Nat.not_lt_zero _)
theorem Qn6 {c : Cane} (hc : OkC c) (ht : Qa7 c ≠ []) (w : Span) : fewN c w = (Xl 7).find? fun n => Qdi c (Qa7 c) w n [] := by
 have key : ∀ n, Qdi c (Qa7 c) w n [] = true ↔ ∃ m, m.length = n ∧ Sure c w m := fun n => by simpa using Qo1 hc ht w n [] (Qrn c)
 cases hf : (Xl 7).find? fun n => Qdi c (Qa7 c) w n [] with
 | none =>
  rw [Qlk]
  intro l hl
  refine Nat.lt_of_not_le fun h6 => ?_
  rw [Xq] at hf
  exact hf l.length (by simp; omega) ((key _).2 ⟨l, rfl, hl⟩)
 | some n =>
  rw [List.find?_eq_some_iff_getElem] at hf
  obtain ⟨h1, i, hi, he, hlt⟩ := hf
  simp only [List.length_range] at hi
  simp only [List.getElem_range] at he hlt
  subst he
  obtain ⟨m, hm, hs⟩ := (key _).1 h1
  refine Qll.2 ⟨by omega, ⟨m, hs, hm⟩, fun l hl => X6 fun h6 => ?_⟩
  have := hlt l.length h6
  rw [(key _).2 ⟨l, rfl, hl⟩] at this
  cases this
def exC : Cane := ⟨⟨180, 220⟩, [⟨50, ⟨10, 10⟩⟩], 0, 40, 10⟩
def exS : Box := ⟨2, [⟨10, 5⟩, ⟨20, 3⟩, ⟨5, 4⟩]⟩
theorem Qv9 : OkC exC := (Qq4 _).1 (by decide +kernel)
theorem Qo2 : Qa7 exC = (Xl 20).map fun (n : Nat) => (200 + n : Int) := by decide +kernel
theorem Qsw : fewR exC ⟨31, 31⟩ = (2, 0) := by
 unfold fewR
 rw [if_pos (by decide +kernel), Qn6 Qv9 (by rw [Qo2]; decide)]
 have e : ((Xl 7).find? fun n => Qdi exC (Qa7 exC) ⟨31, 31⟩ n []) = some 2 := by decide +kernel
 rw [e]; rfl
theorem Qn4 : (Qdx exC ⟨31, 31⟩).1 = 2 ∧ (Qdx exC ⟨31, 31⟩).2.2 = 0 := by decide +kernel
theorem Qsa : stL exC ⟨0, 0⟩ [] = (Xl 20).map (fun (n : Nat) => (200 + n : Int)) ∧ stE exC ⟨0, 0⟩ [] = 0 := by decide +kernel
theorem Qp7 : Qeg exC [39] = (⟨31, 32⟩, 0) := by decide +kernel
theorem Qp8 : Qfs exS = (27, 0) := by decide +kernel
end Go.C06
set_option linter.unusedSimpArgs false
set_option linter.unusedVariables false
namespace Go.C06
open Go.Fam Go.Proofs
variable {Γ : Gam}
theorem W57 : Qak Try.prog 57 [] (.ag (Qa8 exC)) := by
 refine Qah Qoe hmix Try.func57 cb57 cc57 cs57 cn57 ?_
 simp only [rc57, rs57, Qaa, Qab, Qaf, Qa6, Qbs, putB, Qai, Qa5, Qa1, Fam.step, Qaj, Qbm, Qav, putB, nv, sv, evO, opv, qv, ldV, Qae, putAt, Qat, Qas, V.cells, Qax, Qaw, Qa9, Qa4, Qa2, Qap, Qa0, Qa3, ↓reduceIte, Nat.reduceEqDiff, Nat.reduceAdd, Nat.reduceMul, Nat.reduceLeDiff, Qd, Qe, Qy, Qx, Qc, Qf, Qh, Qq, Zl, Qg, Q8, Qz, Qw, Qt, Qj, Qi, Q0, Qp, Q6, endQ, rvs, rv1, resV, vw_i, Qb6, Qb5, zipA, Qk, Qr, Qn, true_and, and_self, reduceCtorEq, not_false_eq_true, ne_eq, Qa8]
 rfl
theorem W58 : Qak Try.prog 58 [] (.ag (eBox exS)) := by
 refine Qah Qoe hmix Try.func58 cb58 cc58 cs58 cn58 ?_
 simp only [rc58, rs58, Qaa, Qab, Qaf, Qa6, putB, Qai, Qa5, Qa1, Fam.step, Qaj, Qbm, Qav, putB, nv, sv, evO, opv, qv, ldV, Qae, putAt, Qat, Qas, V.cells, Qax, Qaw, Qa9, Qa4, Qa2, Qap, Qa0, Qa3, ↓reduceIte, Nat.reduceEqDiff, Nat.reduceAdd, Nat.reduceMul, Nat.reduceLeDiff, Qd, Qe, Qy, Qx, Qc, Qf, Qh, Qq, Zl, Qg, Q8, Qz, Qw, Qt, Qj, Qi, Q0, Qp, Q6, endQ, rvs, rv1, resV, vw_i, Qb6, Qb5, zipA, Qk, Qr, Qn, true_and, and_self, reduceCtorEq, not_false_eq_true, ne_eq, eBox]
 rfl
def cst (v : V) : List V → Prop × V | [] => (True, v) | _ => (False, .u)
theorem Qoy {f : Nat} {v : V} (h : Qak Try.prog f [] v) (vs : List V) (h2 : (cst v vs).1) : Qak Try.prog f vs (cst v vs).2 := by
 unfold cst at h2 ⊢
 split at h2
 ·exact h
 ·exact h2.elim
noncomputable def H30 : Gam := ((((H29.ext 57 (cst (.ag (Qa8 exC)))).ext 58 (cst (.ag (eBox exS)))).ext 34 (fnG eCI dCI (fun a => OkC a.1) (fun a => isTB a.1 a.2) .b)).ext 21 (fnG eLI dLI (fun a => Qel a.1 ∧ tame 1000 a.2) (fun a => Qbi a.1 a.2) .i)).ext 17 (fnG eCL dCL (fun a => OkC a.1) (fun a => areB a.1 a.2) .b)
theorem Qta : GOk Try.prog H30 := by
 have k1 := Qoe.ext (f := 57) (r := cst (.ag (Qa8 exC))) (fun a w => Try.call57 a w) (Qoy W57)
 have k2 := k1.ext (f := 58) (r := cst (.ag (eBox exS))) (fun a w => Try.call58 a w) (Qoy W58)
 have k3 := k2.ext (f := 34) (fun a w => Try.call34 a w) (Qbf (e := eCI) (d := dCI) (ok := fun a => OkC a.1) (g := fun a => isTB a.1 a.2) (eb := .b) fun a h => W34 a.1 a.2 h)
 have k4 := k3.ext (f := 21) (fun a w => Try.call21 a w) (Qbf (e := eLI) (d := dLI) (ok := fun a => Qel a.1 ∧ tame 1000 a.2) (g := fun a => Qbi a.1 a.2) (eb := .i) fun a h => W21 a.1 a.2 h)
 exact k4.ext (f := 17) (fun a w => Try.call17 a w) (Qbf (e := eCL) (d := dCL) (ok := fun a => OkC a.1) (g := fun a => areB a.1 a.2) (eb := .b) fun a h => W17 a.1 a.2 h)
theorem h57 : H30 57 [] = (True, .ag (Qa8 exC)) := rfl
theorem h58 : H30 58 [] = (True, .ag (eBox exS)) := rfl
theorem h34 (c : Cane) (k : Int) : H30 34 [.ag (Qa8 c), .i k] = (OkC c, .b (isTB c k)) :=
 (show H30 34 _ = fnG eCI dCI (fun a => OkC a.1) (fun a => isTB a.1 a.2) .b (eCI (c, k)) from rfl).trans (Qbv _ (Qsr _))
theorem h21 (l : List Int) (k : Int) : H30 21 [.sl 1 (l.map eI), .i k] = (Qel l ∧ tame 1000 k, .i (Qbi l k)) :=
 (show H30 21 _ = fnG eLI dLI (fun a => Qel a.1 ∧ tame 1000 a.2) (fun a => Qbi a.1 a.2) .i (eLI (l, k)) from rfl).trans (Qbv _ (Qv4 _))
theorem Que (c : Cane)  : H30 19 [.ag (Qa8 c)] = (True, .tp [.sl 1 ((stL c ⟨0, 0⟩ []).map eI), .i (stE c ⟨0, 0⟩ [])]) := h19 c
theorem Quf (c : Cane) (l : List Int)  : H30 20 [.ag (Qa8 c), .sl 1 (l.map eI)] = (True, .tp [.ag (Qan (Qeg c l).1), .i (Qeg c l).2]) := h20 c l
theorem Qug (c : Cane) (w : Span)  : H30 25 [.ag (Qa8 c), .ag (Qan w)] = (True, .tp [.i (fewR c w).1, .i (fewR c w).2]) := h25 c w
theorem Quh (c : Cane) (w : Span)  : H30 26 [.ag (Qa8 c), .ag (Qan w)] = (True, .tp [.i (Qdx c w).1, .i (Qdx c w).2.2]) := h26 c w
theorem Qui (s : Box)  : H30 51 [.ag (eBox s)] = (True, .tp [.i (Qfs s).1, .i (Qfs s).2]) := h51 s
theorem eq23 : Qb7 Try.prog 23 2 := Qb7.of (fs := _) (show Try.prog.underlying 23 = some (.struct (Try.prog.fieldsOf 23)) by kernel_rfl) (by kernel_rfl) (by kernel_rfl)
set_option maxRecDepth 100000 in
set_option maxHeartbeats 4000000 in
theorem W18 : Qak Try.prog 18 [] (.b true) := by
 refine Qah Qta hmix Try.func18 cb18 cc18 cs18 cn18 ?_
 obtain ⟨c, hc⟩ : ∃ c, c = exC := ⟨_, rfl⟩
 obtain ⟨s, hs⟩ : ∃ s, s = exS := ⟨_, rfl⟩
 obtain ⟨L, hL⟩ : ∃ L : List Int, L = (Xl 20).map fun (n : Nat) => (200 + n : Int) := ⟨_, rfl⟩
 have g1 := Que c
 have g2 := Quf c [39]
 have g3 := Qug c ⟨31, 31⟩
 have g4 := Quh c ⟨31, 31⟩
 have g5 := Qui s
 have g6 := h57
 have g7 := h58
 rw [hc, Qsa.1, Qsa.2, ← hL, ← hc] at g1
 rw [hc, Qp7, ← hc] at g2
 rw [hc, Qsw, ← hc] at g3
 rw [hc, Qn4.1, Qn4.2, ← hc] at g4
 rw [hs, Qp8, ← hs] at g5
 rw [← hc] at g6
 rw [← hs] at g7
 have l1 : (L.length : Int) = 20 := by rw [hL]; rfl
 have l2 : L[0]? = some 200 := by rw [hL]; rfl
 clear hL hc hs
 unfold Qa8 at g1 g2 g3 g4 g6
 unfold eBox at g5 g7
 simp only [Qd, Qe, Qan, eI] at g1 g2 g3 g4 g5 g6 g7
 simp only [rc18, rs18, g1, g2, g3, g4, g5, g6, g7, l1, l2, Qaa, Qab, Qaf, Qa6, Qbs, putB, Qai, Qa5, Qa1, Fam.step, Qaj, Qbm, Qbl, Qav, Qb9, ug, putB, nv, sv, evO, opv, qv, Qam, binV, ldV, iadV, lenV, Qb1, Qae, putAt, Qat, Qas, V.cells, Qax, Qaw, Qb8, Qa9, Qa4, flat, Qcc, Qa2, Qap, Qa0, Qa3, ↓reduceIte, Nat.reduceEqDiff, Nat.reduceAdd, Nat.reduceMul, Nat.reduceLT, Nat.reduceLeDiff, Zw, Int.reduceLT, Int.reduceLE, Qd, Qe, Qy, Qx, Qc, Qf, Qh, Qq, Zl, Qg, Q8, Qz, Qm, Qw, Qt, Qj, Qi, Qo, Qs, Q0, Zc, Qp, Q6, endQ, rvs, rv1, resV, vw_i, vw_b, Qb6, Qb5, zipA, beq_self_eq_true, Qk, V.b.injEq, Qr, Q3, Zt, Qn, Qb, Zf, decide_true, true_and, and_true, and_self, forall_const, implies_true, reduceCtorEq, not_false_eq_true, ne_eq, Q7, beq_true, Qcm, Zb, imp_self, Ql, Qa, Q1, eI]
 exact ⟨eq23, rfl⟩
theorem W71 (c : Cane) (h : OkC c) : Qak Try.prog 71 [.ag (Qa8 c)] (.sl 1 ((Qa7 c).map eI)) := by
 refine Qah Qta hmix Try.func71 cb71 cc71 cs71 cn71 ?_
 have k1 := h.low
 have k2 := h.le
 have k3 := h.high
 have k4 := h.spread
 simp only [rc71, rs71, Qaa, Qab, Qac, Qa6, Qc1, Qai, Qa5, Qa1, Fam.step, Qaj, evO, opv, qv, ldV, V.cells, Qax, Qa9, Qa4, Qa2, Qa0, Qa3, ↓reduceIte, Nat.reduceEqDiff, Nat.reduceAdd, Nat.reduceLeDiff, Qd, Qe, Qc, Qf, Qq, Qm, Qt, vw_i, Qb6, Qb5, zipA, Qk, Qn, Qb, true_and, and_self, Qa8]
 obtain ⟨T, hT⟩ : ∃ T : Nat → List Int, T = fun i => ((ints c.spring.low c.spring.high).take i).filter (Qfd c) := ⟨_, rfl⟩
 have hlen : ∀ i, (T i).length ≤ 41 := fun i => by
  rw [hT]
  refine Nat.le_trans (List.length_filter_le _ _) ?_
  rw [List.length_take, Qgf]; omega
 refine Qdq (c.spring.high + 1 - c.spring.low).toNat (fun i => ⟨lkp [(1, .pa (Qa8 c)), (3, .rf 0 (T i).length 0 (T i).length 1), (4, .i (c.spring.low + i))], [.cells (T i).length ((T i).map V.i)]⟩) ?_ ?_ ?_
 ·have h0 : T 0 = [] := by rw [hT]; rfl
  simp only [Xa, X1, h0, kp, Qa0, Qa3, ↓reduceIte, Nat.reduceEqDiff, Qd, Qe, Qf, Qa8]
 ·intro i hi
  have hx := Qhc hi
  have hlt : c.spring.low + (i : Int) ≤ c.spring.high := by omega
  have h3 : inI (c.spring.low + (i : Int) + 1) := by unfold inI; omega
  have g1 := h34 c (c.spring.low + i)
  unfold Qa8 at g1
  have hw : isTB c (c.spring.low + i) = Qfd c (c.spring.low + i) := by
   have : Qar (c.spring.low + i) c.spring.low c.spring.high = true := by simp only [Qar, Xi, decide_eq_true_eq]; omega
   simp [isTB, this]
  have hs : T (i + 1) = if Qfd c (c.spring.low + i) = true then T i ++ [c.spring.low + i] else T i := by
   rw [hT]
   simp only [Qcs hx, List.filter_append, List.filter_cons, List.filter_nil]
   split <;> simp
  have hl1 := hlen i
  have hl2 : ((T i).map V.i).length = (T i).length := by simp
  have hfl : Qcy ((T i).length + 1) := by unfold Qcy; omega
  have happ : (T i).map V.i ++ [V.i (c.spring.low + i)] = (T i ++ [c.spring.low + (i : Int)]).map V.i := by simp
  simp only [hlt, g1, h, hw, Qag, Qaa, Qab, Qal, Qbq, Qac, Qa6, Qbs, putB, Qai, Qao, Qa5, Qa1, Fam.step, Qaj, Qbm, Qav, putB, nv, sv, Qc9, evO, opv, qv, binV, ldV, Qb1, Qae, putAt, Qat, Qas, V.cells, Qax, Qaw, Qa9, Qa4, flat, kp, Qa2, Qa0, Qa3, ↓reduceIte, Nat.reduceEqDiff, Nat.reduceAdd, Nat.reduceMul, Nat.reduceLT, Nat.reduceLeDiff, Qd, Qe, Qy, Qx, Qc, Qf, Qh, Qq, Qg, Q8, Qz, Qm, Qw, Qt, Qj, Qi, Q0, Qp, Q6, vw_i, Qb6, Qb5, Qk, Qr, Qn, Qb, decide_true, true_and, and_self, implies_true, reduceCtorEq, not_false_eq_true, ne_eq, Ql, Zp, Qa8]
  refine ⟨fun e => ?_, fun e => ?_⟩
  ·rw [if_pos e] at hs
   simp only [hs, hfl, happ, h3, X7, Z7, Z8, X2, Xs, Xr, Qc, Qf, Qk, Qc, Qf, Qj, Qk, true_and, and_self]
   rw [Xz]
  ·rw [if_neg (by simp [e])] at hs
   simp only [hs, h3, Z7, Z8, true_and]
   rw [Xz]
 ·have hgt : ¬ (c.spring.low + ((c.spring.high + 1 - c.spring.low).toNat : Int) ≤ c.spring.high) := by omega
  have hE : T (c.spring.high + 1 - c.spring.low).toNat = Qa7 c := by
   rw [hT]
   simp only
   rw [List.take_of_length_le (by rw [Qgf]; omega)]; rfl
  simp only [hgt, hE, X7, Xo, Qn2, vw_I, Qaa, Qab, Qal, Qaq, Qaf, Qa6, Qai, Qao, Qa5, Qa1, Fam.step, Qaj, evO, opv, qv, binV, ldV, Qa2, Qa0, Qa3, ↓reduceIte, Nat.reduceEqDiff, Nat.reduceAdd, Nat.reduceLeDiff, Qd, Qe, Qc, Qf, Qh, Qq, Qm, Qi, endQ, rvs, rv1, resV, Qcx, Qk, Qb, decide_false, and_self, Ql, Qa8]
noncomputable def H31 : Gam := (H30.ext 18 (cst (.b true))).ext 71 (fnG eC1 dC1 OkC Qa7 fun l => .sl 1 (l.map eI))
theorem Qtb : GOk Try.prog H31 := (Qta.ext (f := 18) (r := cst (.b true)) (fun a w => Try.call18 a w) (Qoy W18)).ext (f := 71) (fun a w => Try.call71 a w) (Qbf (e := eC1) (d := dC1) (ok := OkC) (g := Qa7) (eb := fun l => .sl 1 (l.map eI)) fun c h => W71 c h)
theorem h18 : H31 18 [] = (True, .b true) := rfl
theorem h71 (c : Cane) : H31 71 [.ag (Qa8 c)] = (OkC c, .sl 1 ((Qa7 c).map eI)) := (show H31 71 _ = fnG eC1 dC1 OkC Qa7 (fun l => .sl 1 (l.map eI)) (eC1 c) from rfl).trans (Qbv _ (Qkb _))
theorem Qul (n lo hi : Int)  : H31 56 [.i n, .i lo, .i hi] = (True, .b (Qar n lo hi)) := h56 n lo hi
theorem Quk (c : Cane) (b i : Int)  : H31 37 [.ag (Qa8 c), .i b, .i i] = (Qek c i, .b (Qfm c b i)) := h37 c b i
theorem Quj (c : Cane)  : H31 16 [.ag (Qa8 c)] = (True, .i (Qdr c)) := h16 c
theorem Qum (w : Span)  : H31 89 [.ag (Qan w)] = (True, .b (Qch w 540)) := h89 w
theorem W42 (c : Cane) (h : OkC c) : Qak Try.prog 42 [.ag (Qa8 c)] (.sl 1 ((Qa7 c).map eI)) := by
 refine Qah Qtb hmix Try.func42 cb42 cc42 cs42 cn42 ?_
 have g1 := h71 c
 unfold Qa8 at g1
 simp only [rc42, rs42, g1, h, Qaa, Qab, Qaf, Qa6, Qai, Qa5, Qa1, Fam.step, Qaj, evO, opv, qv, ldV, Qb1, V.cells, Qax, Qa9, Qa4, flat, Qa2, Qa0, Qa3, ↓reduceIte, Nat.reduceEqDiff, Nat.reduceAdd, Nat.reduceLT, Nat.reduceLeDiff, Qd, Qe, Qc, Qf, Qg, Qz, Qj, endQ, rvs, rv1, resV, vw_i, Qb6, Qb5, zipA, Qk, Qn, Qb, and_self, imp_self, Qa8]
theorem Qg4 {c : Cane} (h : OkC c) (b : Int) (i : Nat) : Qfm c b i = true ↔ 1 ≤ b ∧ b ≤ Qdk c i := by
 have h1 := h.limit
 have h2 := h.tire
 have h3 : 0 ≤ c.tire * (i : Int) := Int.mul_nonneg h2.1 (by omega)
 simp only [Qfm, Qdk, Xi, decide_eq_true_eq]
 omega
theorem W62 (c : Cane) (l : List Int) (w : Span) : Qak Try.prog 62 [.ag (Qa8 c), .sl 1 (l.map eI), .ag (Qan w)] (.tp [.sl 1 ((stL c w l).map eI), .i (stE c w l)]) := by
 refine Qah Qtb hmix Try.func62 cb62 cc62 cs62 cn62 ?_
 have g1 := Quj c
 have g2 := Qum w
 have g4 := h71 c
 unfold Qa8 at g1 g4
 unfold Qan at g2
 simp only [rc62, rs62, g1, Qag, Qaa, Qab, Qal, Qbq, Qac, Qaf, Qa6, Qai, Qa5, Qa1, Fam.step, Qaj, Qbl, Qb9, ug, evO, opv, qv, binV, ldV, lenV, Qb1, V.cells, Qax, Qa9, Qa4, flat, Qa2, Qa0, Qa3, ↓reduceIte, Nat.reduceEqDiff, Nat.reduceAdd, Nat.reduceLT, Nat.reduceLeDiff, Qd, Qe, Qy, Qx, Qc, Qf, Qg, Qz, Qj, Qu, endQ, rvs, rv1, resV, vw_i, vw_z, Qb6, Qb5, Qbz, zipA, Qk, Qr, Q3, Qn, Qb, decide_eq_true_eq, decide_eq_false_iff_not, true_and, and_true, and_self, false_implies, implies_true, reduceCtorEq, beq_false, Q5, imp_self, Ql, Zp, Classical.not_not, Qan, Qa8]
 refine ⟨fun h => ?_, fun h => ?_⟩
 ·have e : stE c w l = Qdr c := by unfold stE; rw [if_pos h]
  have e2 : stL c w l = [] := by unfold stL; rw [e, if_neg h]
  simp only [e, e2, Qe]
 ·have hC := Qim.1 h
  simp only [g2, Qam, decide_eq_true_eq, true_and, and_true, Qcp, imp_self]
  refine ⟨fun hb => ?_, fun hb => ?_⟩
  ·have e : stE c w l = 1 := by
    unfold stE
    rw [if_neg (by simp [h]), if_pos]
    by_cases h1 : Qch w 540 = true
    ·left
     simp [h1] at hb
     omega
    ·right; left; simpa using h1
   have e2 : stL c w l = [] := by unfold stL; rw [e]; rfl
   simp only [e, e2, Qe]
  ·have hl6 : l.length ≤ 6 ∧ Qch w 540 = true := by
    simp only [Xw, decide_eq_false_iff_not, Zi] at hb
    exact ⟨by omega, hb.2⟩
   refine Qd9 l.length (fun i => ⟨lkp [(1, .sl 1 (l.map eI)), (3, .pa (Qa8 c)), (9, .i i)], []⟩) (fun i => ∀ (j : Nat) n, j < i → l[j]? = some n → Qar n 1 90 = true) ?_ ?_ ?_ ?_
   ·simp only [Xa, kp, Qa0, Qa3, ↓reduceIte, Nat.reduceEqDiff, Qd, Qe, Qa8]
   ·intro j n hj; omega
   ·intro i hi hcr
    obtain ⟨n, hn⟩ : ∃ n, l[i]? = some n := ⟨_, Qv hi⟩
    have hlt : (i : Int) < l.length := by omega
    have h4 : inI ((i : Int) + 1) := by unfold inI; omega
    simp only [hn, hlt, Qul, h4, Z7, Z8, Qag, Qaa, Qab, Qal, Qbq, Qac, Qaf, Qa6, Qai, Qao, Qa5, Qa1, Fam.step, Qaj, evO, opv, qv, binV, ldV, iadV, lenV, Qb1, Qa9, Qa4, flat, kp, Qa2, Qa0, Qa3, ↓reduceIte, Nat.reduceEqDiff, Nat.reduceLT, Nat.reduceLeDiff, Qd, Qe, Qc, Qf, Qm, Qj, Qu, Qs, endQ, rvs, rv1, resV, vw_i, vw_z, Qbz, Q4, Qk, Qn, Qb, decide_true, true_and, and_true, and_self, implies_true, Q7, Q5, Ql, Q2, Qa, Q1, Zm, Qa8, eI]
    refine ⟨fun hw => ?_, fun hw => ?_⟩
    ·have e : stE c w l = 1 := by
      unfold stE
      rw [if_neg (by simp [h]), if_pos]
      right; right
      rw [Z9]
      exact ⟨n, Xf hn, by simpa using hw⟩
     have e2 : stL c w l = [] := by unfold stL; rw [e]; rfl
     simp only [e, e2, Qe]
    ·intro j m hj hm
     by_cases hji : j < i
     ·exact hcr j m hji hm
     ·have : j = i := by omega
      subst this
      rw [hn] at hm; cases hm
      simpa using hw
   ·intro hcr
    have h77 : ¬ ((l.length : Int) < l.length) := by omega
    have hns : ¬ (6 < l.length ∨ Qch w 540 = false ∨ (l.any fun n => !Qar n 1 90) = true) := by
     rintro (h1 | h1 | h1)
     ·omega
     ·rw [hl6.2] at h1; cases h1
     ·rw [Z9] at h1
      obtain ⟨n, hn, hn2⟩ := h1
      obtain ⟨j, hj⟩ := Xx hn
      rw [hcr j n (Qau hj) hj] at hn2
      cases hn2
    simp only [h77, Qaa, Qab, Qal, Qac, Qaq, Qa6, Qai, Qao, Qa5, Qa1, Fam.step, Qaj, evO, opv, qv, binV, lenV, Qa2, Qa0, Qa3, ↓reduceIte, Nat.reduceEqDiff, Qd, Qe, Qb, decide_false, true_and, Ql, Qa8]
    refine Qd9 l.length (fun i => ⟨lkp [(1, .sl 1 (l.map eI)), (3, .pa (Qa8 c)), (10, .i i)], []⟩) (fun i => ∀ j : Nat, j < i → ¬ Qdk c j < l.getD j 0) ?_ ?_ ?_ ?_
    ·simp only [Xa, kp, Qa0, Qa3, ↓reduceIte, Nat.reduceEqDiff, Qd, Qe, Qa8]
    ·intro j hj; omega
    ·intro i hi hc2
     obtain ⟨n, hn⟩ : ∃ n, l[i]? = some n := ⟨_, Qv hi⟩
     have hd : l.getD i 0 = n := by rw [Qa, hn]; rfl
     have hlt : (i : Int) < l.length := by omega
     have h4 : inI ((i : Int) + 1) := by unfold inI; omega
     have g5 := Quk c n i
     unfold Qa8 at g5
     have hm := hC.most (i := i) (by unfold tame; omega)
     have hw := hcr i n hi hn
     have hp := Qg4 hC n i
     simp only [Qar, Xi, decide_eq_true_eq] at hw
     simp only [hn, hlt, g5, hm, h4, Z7, Z8, Qag, Qaa, Qb4, Qab, Qal, Qbq, Qac, Qaf, Qa6, Qb3, Qai, Qao, Qa5, Qa1, Fam.step, Qaj, runX, eff, Qb2, fpR, fpQ, fpV, Qbp, hits, evO, opv, qv, binV, ldV, iadV, lenV, Qb1, Qa9, Qa4, flat, kp, Qa2, Qa0, Qa3, ↓reduceIte, Nat.reduceEqDiff, Nat.reduceAdd, Nat.reduceLT, Nat.reduceLeDiff, Qd, Qe, Qx, Qc, Qf, Qg, Qz, Qm, Qw, Qt, Qj, Qu, Qs, Za, Qp, Zd, endQ, rvs, rv1, resV, vw_i, vw_z, Qb6, Qb5, Qbz, Q4, Qk, Qr, Q3, Ze, Qn, Zk, Zn, Qb, decide_true, true_and, and_true, and_self, implies_true, Q7, Zu, Q9, Q5, Ql, Q2, Qa, Q1, Zm, Qa8, eI]
     refine ⟨fun hq => ?_, fun hq => ?_⟩
     ·have e0 : Qgn c l = true := by
       unfold Qgn
       rw [Z9]
       refine ⟨i, by simpa using hi, ?_⟩
       rw [hd, decide_eq_true_eq]
       have : ¬ Qfm c n i = true := by simpa using hq
       rw [hp] at this
       omega
      have e : stE c w l = 61 := by unfold stE; rw [if_neg (by simp [h]), if_neg hns, if_pos e0]
      have e2 : stL c w l = [] := by unfold stL; rw [e]; rfl
      simp only [e, e2, Qe]
     ·intro j hj
      by_cases hji : j < i
      ·rw [← Qa]; exact hc2 j hji
      ·have : j = i := by omega
       subst this
       rw [← Qa, hd]
       have := hp.1 (by simpa using hq)
       omega
    ·intro hc2
     have e0 : ¬ Qgn c l = true := by
      unfold Qgn
      rw [Z9]
      rintro ⟨i, hi, hi2⟩
      exact hc2 i (by simpa using hi) (by simpa using hi2)
     simp only [h77, g4, hC, Qag, Qaa, Qab, Qal, Qbq, Qaq, Qaf, Qa6, Qai, Qao, Qa5, Qa1, Fam.step, Qaj, evO, opv, qv, binV, ldV, lenV, Qb1, Qa9, Qa4, flat, Qa2, Qa0, Qa3, ↓reduceIte, Nat.reduceEqDiff, Nat.reduceAdd, Nat.reduceLT, Nat.reduceLeDiff, Qd, Qe, Qc, Qf, Qg, Qz, Qj, Qu, endQ, rvs, rv1, resV, vw_i, vw_z, Qb6, Qb5, Qbz, Qk, Qn, Qb, decide_false, decide_eq_true_eq, true_and, and_self, imp_self, Ql, Qa8]
     refine ⟨fun ht => ?_, fun ht => ?_⟩
     ·have ht : Qa7 c = [] := Xn (by omega)
      have e : stE c w l = 3 := by unfold stE; rw [if_neg (by simp [h]), if_neg hns, if_neg e0, if_pos ht]
      have e2 : stL c w l = [] := by unfold stL; rw [e]; rfl
      simp only [e, e2, Qe]
     ·have ht : ¬ Qa7 c = [] := fun e => by rw [e] at ht; simp at ht
      have e : stE c w l = 0 := by unfold stE; rw [if_neg (by simp [h]), if_neg hns, if_neg e0, if_neg ht]
      have e2 : stL c w l = Qa7 c := by unfold stL; rw [if_pos e]
      simp only [e, e2]
end Go.C06
set_option linter.unusedSimpArgs false
set_option linter.unusedVariables false
namespace Go.C06
open Go.Fam Go.Proofs
variable {Γ : Gam}
noncomputable def H32 : Gam := (H31.ext 42 (fnG eC1 dC1 OkC Qa7 fun l => .sl 1 (l.map eI))).ext 62 (fnG eCLS dCLS (fun _ => True) (fun a => (stL a.1 a.2.2 a.2.1, stE a.1 a.2.2 a.2.1)) fun r => .tp [.sl 1 (r.1.map eI), .i r.2])
theorem Qtc : GOk Try.prog H32 := (Qtb.ext (f := 42) (fun a w => Try.call42 a w) (Qbf (e := eC1) (d := dC1) (ok := OkC) (g := Qa7) (eb := fun l => .sl 1 (l.map eI)) fun c h => W42 c h)).ext (f := 62) (fun a w => Try.call62 a w)
 (Qbf (e := eCLS) (d := dCLS) (ok := fun _ => True) (g := fun a => (stL a.1 a.2.2 a.2.1, stE a.1 a.2.2 a.2.1)) (eb := fun r => .tp [.sl 1 (r.1.map eI), .i r.2]) fun a _ => W62 a.1 a.2.1 a.2.2)
theorem h62 (c : Cane) (l : List Int) (w : Span) : H32 62 [.ag (Qa8 c), .sl 1 (l.map eI), .ag (Qan w)] = (True, .tp [.sl 1 ((stL c w l).map eI), .i (stE c w l)]) :=
 (show H32 62 _ = fnG eCLS dCLS (fun _ => True) (fun a => (stL a.1 a.2.2 a.2.1, stE a.1 a.2.2 a.2.1)) (fun r => .tp [.sl 1 (r.1.map eI), .i r.2]) (eCLS (c, l, w)) from rfl).trans (Qbv _ (Qv1 _))
theorem Quo (n lo hi : Int)  : H32 56 [.i n, .i lo, .i hi] = (True, .b (Qar n lo hi)) := h56 n lo hi
theorem Qun (l : List Int) (k : Int)  : H32 21 [.sl 1 (l.map eI), .i k] = (Qel l ∧ tame 1000 k, .i (Qbi l k)) := h21 l k
theorem W27 (c : Cane) : Qak Try.prog 27 [.ag (Qa8 c)] (.tp [.sl 1 ((stL c ⟨0, 0⟩ []).map eI), .i (stE c ⟨0, 0⟩ [])]) := by
 refine Qah Qtc hmix Try.func27 cb27 cc27 cs27 cn27 ?_
 have g1 := h62 c [] ⟨0, 0⟩
 unfold Qa8 Qan at g1
 simp only [Qe] at g1
 simp only [rc27, rs27, g1, Qaa, Qab, Qaf, Qa6, Qai, Qa5, Qa1, Fam.step, Qaj, evO, opv, qv, ldV, Qb1, Qae, Qat, V.cells, Qax, Qa9, Qa4, flat, Qcc, Qa2, Qa0, Qa3, ↓reduceIte, Nat.reduceEqDiff, Nat.reduceAdd, Nat.reduceLT, Nat.reduceLeDiff, Qd, Qe, Qc, Qf, Qg, Qz, Qj, Qi, Qo, Qu, Qs, endQ, rvs, rv1, resV, vw_i, vw_z, Qb6, Qb5, Qbz, zipA, Qk, Qr, Q3, Qn, Qb, and_self, imp_self, Qa8]
theorem W70 (ks l : List Int) (w : Span) (h : Qel l ∧ ks.length ≤ 1000 ∧ ∀ k ∈ ks, tame 1000 k) : Qak Try.prog 70 [.sl 1 (ks.map eI), .sl 1 (l.map eI), .ag (Qan w)] (.i (Qe3 l w ks)) := by
 refine Qah Qtc hmix Try.func70 cb70 cc70 cs70 cn70 ?_
 simp only [rc70, rs70, Qaa, Qab, Qac, Qa6, Qai, Qa5, Qa1, Fam.step, Qaj, evO, opv, qv, V.cells, Qax, Qa9, Qa4, Qa2, Qa0, Qa3, ↓reduceIte, Nat.reduceEqDiff, Nat.reduceAdd, Qd, Qe, vw_i, Qb5, zipA, Qk, Qn, true_and, and_self, reduceCtorEq, Qan]
 refine Qdq ks.length (fun i => ⟨lkp [(0, .sl 1 (ks.map eI)), (1, .sl 1 (l.map eI)), (5, .pa (Qan w)), (7, .i (Qe3 l w (ks.take i))), (8, .i i)], []⟩) ?_ ?_ ?_
 ·simp only [Xa, Qe3, List.countP_nil, kp, Qa0, Qa3, ↓reduceIte, Nat.reduceEqDiff, Qd, Qe, Q8, reduceCtorEq, Qan]
 ·intro i hi
  obtain ⟨k, hk⟩ : ∃ k, ks[i]? = some k := ⟨_, Qv hi⟩
  have hlt : (i : Int) < ks.length := by omega
  have t1 := h.2.2 k (Xf hk)
  have hks := h.2.1
  have hg : Qe3 l w (ks.take i) ≤ i := Nat.le_trans List.countP_le_length (by simp; omega)
  have h4 : inI ((i : Int) + 1) ∧ inI ((Qe3 l w (ks.take i) : Int) + 1) := by unfold inI; omega
  have hct : ∀ q : Bool, Qar (Qbi l k) w.low w.high = q → (Qe3 l w (ks.take (i + 1)) : Int) = Qe3 l w (ks.take i) + (if q = true then 1 else 0) := by
   rintro q rfl
   unfold Qe3
   rw [Qcs hk, List.countP_append, List.countP_singleton]
   split <;> simp
  simp only [hk, hlt, Qun, h.1, t1, Quo, Z7, Z8, Qag, Qaa, Qb4, Qab, Qal, Qbq, Qac, Qa6, Qb3, Qai, Qao, Qa5, Qa1, Fam.step, Qaj, runX, eff, Qb2, fpR, fpQ, fpV, Qbp, hits, evO, opv, qv, binV, ldV, iadV, lenV, Qb1, Qa9, Qa4, flat, kp, Qa2, Qa0, Qa3, ↓reduceIte, Nat.reduceEqDiff, Nat.reduceAdd, Nat.reduceLT, Nat.reduceLeDiff, Qd, Qe, Qx, Qc, Qf, Qh, Qq, Qm, Qw, Qt, Qj, Qu, Qs, Za, Qp, Zd, vw_i, Qb6, Q4, Qk, Qr, Q3, Ze, Qn, Zk, Zn, Qb, decide_true, true_and, and_self, implies_true, reduceCtorEq, Q7, Zu, Q9, Ql, Q2, Qa, Q1, Zp, Qan, eI]
  refine ⟨fun e => ?_, fun e => ?_⟩
  ·simp only [h4, hct true e, ↓reduceIte, and_self]
  ·simp only [h4, hct false e, X1, ↓reduceIte, Qb, and_self]
 ·simp only [List.take_length, Qaa, Qab, Qal, Qaq, Qaf, Qa6, Qai, Qao, Qa5, Qa1, Fam.step, Qaj, evO, opv, qv, binV, lenV, Qa2, Qa0, Qa3, ↓reduceIte, Nat.reduceEqDiff, Qd, Qe, endQ, rvs, rv1, resV, vw_i, Z0, Qb, decide_false, and_self, reduceCtorEq, Ql, Qan]
def Qje (a : List Int × List Int × Span) : Prop := Qel a.2.1 ∧ a.1.length ≤ 1000 ∧ ∀ k ∈ a.1, tame 1000 k
def eLLS (a : List Int × List Int × Span) : List V := [.sl 1 (a.1.map eI), .sl 1 (a.2.1.map eI), .ag (Qan a.2.2)]
def dLLS : List V → List Int × List Int × Span | [.sl _ k, .sl _ l, .ag w] => (k.map dI, l.map dI, Qey w) | _ => ([], [], Qey [])
theorem Qv5 (a : List Int × List Int × Span) : dLLS (eLLS a) = a := by obtain ⟨k, l, w⟩ := a; simp [dLLS, eLLS, Function.comp_def, Qig, Qfg]
noncomputable def H33 : Gam := H32.ext 70 (fnG eLLS dLLS Qje (fun a => (Qe3 a.2.1 a.2.2 a.1 : Int)) .i)
theorem Qjd : GOk Try.prog H33 := Qtc.ext (f := 70) (fun a w => Try.call70 a w) (Qbf (e := eLLS) (d := dLLS) (ok := Qje) (g := fun a => (Qe3 a.2.1 a.2.2 a.1 : Int)) (eb := .i) fun a h => W70 a.1 a.2.1 a.2.2 h)
theorem h70 (ks l : List Int) (w : Span) : H33 70 [.sl 1 (ks.map eI), .sl 1 (l.map eI), .ag (Qan w)] = (Qje (ks, l, w), .i (Qe3 l w ks)) :=
 (show H33 70 _ = fnG eLLS dLLS Qje (fun a => (Qe3 a.2.1 a.2.2 a.1 : Int)) .i (eLLS (ks, l, w)) from rfl).trans (Qbv _ (Qv5 _))
theorem Qs6 (c : Cane) (l : List Int) (w : Span)  : H33 62 [.ag (Qa8 c), .sl 1 (l.map eI), .ag (Qan w)] = (True, .tp [.sl 1 ((stL c w l).map eI), .i (stE c w l)]) := h62 c l w
theorem Qs5 (l : List Int) (k : Int)  : H33 21 [.sl 1 (l.map eI), .i k] = (Qel l ∧ tame 1000 k, .i (Qbi l k)) := h21 l k
theorem Quq (c : Cane)  : H33 16 [.ag (Qa8 c)] = (True, .i (Qdr c)) := h16 c
theorem Qup (c : Cane)  : H33 15 [.ag (Qa8 c)] = (True, .b (farB c)) := h15 c
theorem W40 (c : Cane) (l : List Int) (w : Span) : Qak Try.prog 40 [.ag (Qa8 c), .sl 1 (l.map eI), .ag (Qan w)] (.tp [.i (Qh7 c l w).1, .i (Qh7 c l w).2]) := by
 refine Qah Qjd hmix Try.func40 cb40 cc40 cs40 cn40 ?_
 have g1 := Qs6 c l w
 have g2 := h70 (stL c w l) l w
 unfold Qa8 Qan at g1
 unfold Qan at g2
 simp only [rc40, rs40, g1, g2, Qag, Qaa, Qab, Qal, Qbq, Qac, Qaf, Qa6, Qai, Qao, Qa5, Qa1, Fam.step, Qaj, evO, opv, qv, binV, ldV, lenV, Qb1, V.cells, Qax, Qa9, Qa4, flat, Qcc, Qa2, Qa0, Qa3, ↓reduceIte, Nat.reduceEqDiff, Nat.reduceAdd, Nat.reduceLT, Nat.reduceLeDiff, Qd, Qe, Qc, Qf, Qg, Qz, Qj, Qi, Qo, Qu, Qs, endQ, rvs, rv1, resV, vw_i, Qb6, Qb5, Qbz, zipA, Qk, Qr, Q3, Qn, Qb, decide_eq_true_eq, decide_eq_false_iff_not, true_and, and_true, and_self, implies_true, reduceCtorEq, Q5, imp_self, Ql, Classical.not_not, Qan, Qa8]
 refine ⟨fun h => ?_, fun h => ?_⟩
 ·simp only [Qh7, if_neg h]
 ·obtain ⟨h1, h2, h3, h4, h5, h6, h7⟩ := Qma h
  have hlen := Qe1 c h1
  have hs : Qel l := ⟨by omega, fun n hn => by have := h4 n hn; unfold tame; omega⟩
  have hm : Qje (stL c w l, l, w) := ⟨hs, by rw [h7]; show (Qa7 c).length ≤ 1000; omega, fun k hk => by rw [h7] at hk; have := Qe8 h1 hk; unfold tame; omega⟩
  rw [h7] at hm
  simp only [hm, h7, Qh7, h, fitK, ↓reduceIte, true_and]
  refine ⟨fun e => ?_, fun e => ?_⟩
  ·have e : Qe3 l w (Qa7 c) = (Qa7 c).length := by omega
   simp only [e, ↓reduceIte]
  ·have e : ¬ Qe3 l w (Qa7 c) = (Qa7 c).length := by omega
   simp only [e, ↓reduceIte]
   refine ⟨fun e2 => ?_, fun e2 => ?_⟩
   ·have e2 : Qe3 l w (Qa7 c) = 0 := by omega
    simp only [e2, ↓reduceIte]
   ·have e2 : ¬ Qe3 l w (Qa7 c) = 0 := by omega
    simp only [e2, ↓reduceIte]
theorem W46 (c : Cane) (l : List Int) : Qak Try.prog 46 [.ag (Qa8 c), .sl 1 (l.map eI)] (.tp [.ag (Qan (Qeg c l).1), .i (Qeg c l).2]) := by
 refine Qah Qjd hmix Try.func46 cb46 cc46 cs46 cn46 ?_
 have g1 := Qs6 c l ⟨0, 0⟩
 unfold Qa8 Qan at g1
 simp only [rc46, rs46, g1, Qag, Qaa, Qb4, Qab, Qal, Qbq, Qac, Qaf, Qa6, Qb3, optL, putB, Qai, Qa5, Qa1, Fam.step, Qaj, Qbm, Qav, runX, eff, Qb2, fpR, fpQ, fpV, Qbp, hits, putB, nv, sv, evO, opv, qv, binV, ldV, iadV, Qb1, Qae, putAt, Qat, V.cells, Qax, Qaw, Qa9, Qa4, flat, Qcc, Qa2, Qap, Qa0, Qa3, ↓reduceIte, Nat.reduceEqDiff, Nat.reduceAdd, Nat.reduceLT, Nat.reduceLeDiff, Zw, Int.reduceLE, Qd, Qe, Qy, Qx, Qc, Qf, Qh, Qq, Zl, Qg, Q8, Qz, Qw, Qt, Qj, Qi, Qo, Qu, Qs, Za, Q0, Zc, Qp, Q6, Zd, Zo, endQ, rvs, rv1, resV, vw_i, Qb6, Qb5, Qbz, zipA, Qk, Z5, Qr, Q3, Zx, Ze, Qn, Zv, Zk, Zn, Qb, decide_eq_false_iff_not, true_and, and_true, and_self, reduceCtorEq, Z1, Zu, Zj, Q9, Q5, imp_self, Ql, Qa, Q1, Classical.not_not, Qan, Qa8]
 refine ⟨fun h => ?_, fun h => ?_⟩
 ·simp only [Qeg, if_neg h]
 ·obtain ⟨h1, h2, h3, h4, h5, h6, h7⟩ := Qma h
  have hlen := Qe1 c h1
  have hpos : 0 < (Qa7 c).length := Xk.2 h6
  obtain ⟨b, hb⟩ : ∃ b, (Qa7 c)[0]? = some b := ⟨_, Qv hpos⟩
  have hb2 := Qe8 h1 (Xf hb)
  have hs : Qel l := ⟨by omega, fun n hn => by have := h4 n hn; unfold tame; omega⟩
  have i3 : (0 : Int) < (Qa7 c).length := by omega
  have t2 : tame 1000 b := by unfold tame; omega
  have hlow : ∀ i : Nat, i < (Qa7 c).length → ∃ k, (Qa7 c)[i]? = some k ∧ (Qa7 c).getD i 0 = k ∧ tame 1000 k ∧ Qbi l k ≤ Qbi l b ∧ Qbi l k ≤ Qbi l ((Qa7 c).getD (i - 1) 0) := by
   intro i hi
   obtain ⟨k, hk⟩ : ∃ k, (Qa7 c)[i]? = some k := ⟨_, Qv hi⟩
   have hk2 := Qe8 h1 (Xf hk)
   have hd : (Qa7 c).getD i 0 = k := by rw [Qa, hk]; rfl
   have e0 : (Qa7 c).getD 0 0 = b := by rw [Qa, hb]; rfl
   have hends := Qjl (Qeq c) (Xf hk)
   rw [e0] at hends
   refine ⟨k, hk, hd, by unfold tame; omega, Qgb hb2.1 hends.1 h4, ?_⟩
   by_cases hi0 : i = 0
   ·subst hi0
    rw [Nat.zero_sub, hd]; exact Xg _
   ·have hp := Xh.1 (Qeq c) (i - 1) i (by omega) hi (by omega)
    obtain ⟨k', hk'⟩ : ∃ k, (Qa7 c)[i - 1]? = some k := ⟨_, Qv (by omega)⟩
    have hd' : (Qa7 c).getD (i - 1) 0 = k' := by rw [Qa, hk']; rfl
    have hk2' := Qe8 h1 (Xf hk')
    rw [(Xj.1 hk).2, (Xj.1 hk').2] at hp
    rw [hd']
    exact Qgb hk2'.1 (by omega) h4
  simp only [h7, i3, hb, Qs5, hs, t2, Qaw, Qa9, flat, Nat.reduceAdd, Nat.reduceLeDiff, Qy, Qx, Qc, Qf, Qh, Qq, Zl, Qg, Q8, Qm, Qw, Qt, Qj, Qs, vw_i, Qk, Qr, Qb, true_and, and_self, implies_true, Q7, eI]
  refine ⟨?_, ?_⟩
  ·simp [Qvu, Qog]
  refine Qdq (Qa7 c).length (fun i => ⟨lkp [(1, .sl 1 (l.map eI)), (4, .ad 0 0 0), (6, .sl 1 ((Qa7 c).map eI)), (8, .ad 1 0 0), (9, .i i)], [.cells 0 [.i 0, .i 0], .cells 0 [.i (Qbi l ((Qa7 c).getD (i - 1) 0)), .i (Qbi l b)]]⟩) ?_ ?_ ?_
  ·have e0 : (Qa7 c).getD 0 0 = b := by rw [Qa, hb]; rfl
   simp only [Xa, Nat.zero_sub, e0, kp, Qa0, Qa3, ↓reduceIte, Nat.reduceEqDiff, Qd, Qe]
  ·intro i hi
   obtain ⟨k, hk, hd, tk, a1, a2⟩ := hlow i hi
   have hlt : (i : Int) < (Qa7 c).length := by omega
   have h5 : inI ((i : Int) + 1) := by unfold inI; omega
   have m1 : min (Qbi l ((Qa7 c).getD (i - 1) 0)) (Qbi l k) = Qbi l k := by omega
   have m2 : max (Qbi l b) (Qbi l k) = Qbi l b := by omega
   have hk2 : (Qa7 c)[i + 1 - 1]?.getD 0 = k := by rw [Nat.add_sub_cancel, hk]; rfl
   rw [Qa] at m1
   simp only [hk, hlt, Qs5, hs, tk, h5, Z7, Z8, m1, m2, hk2, Qag, Qaa, Qb4, Qab, Qal, Qac, Qa6, Qb3, optL, Qai, Qao, Qa5, Qa1, Fam.step, Qaj, Qav, runX, eff, Qb2, fpR, fpQ, fpV, Qbp, hits, nv, sv, evO, opv, qv, binV, ldV, iadV, lenV, curG, Qb1, Qae, putAt, Qat, V.cells, Qax, Qaw, Qa9, Qa4, flat, kp, Qa2, Qap, Qa0, Qa3, ↓reduceIte, Nat.reduceEqDiff, Nat.reduceAdd, Nat.reduceLT, Nat.reduceLeDiff, Qd, Qe, Qy, Qx, Qc, Qf, Qh, Qq, Zl, Qg, Q8, Qm, Qw, Qt, Qj, Qi, Qo, Qu, Qs, Za, Q0, Zc, Qp, Zd, Zo, vw_i, Qb6, Q4, beq_self_eq_true, Qk, Z5, Qr, Q3, Zx, Ze, Qn, Zv, Zk, Zn, Qb, decide_true, and_self, implies_true, Q7, Z1, Zu, Zj, Q9, Ql, Q2, Qa, Q1, eI]
  ·have h77 : ¬ (((Qa7 c).length : Int) < (Qa7 c).length) := by omega
   have hb0 : (Qa7 c)[0]?.getD 0 = b := by rw [hb]; rfl
   simp only [h77, Qeg, h, Qoq, hb0, Qaa, Qab, Qal, Qaq, Qaf, Qa6, putB, Qai, Qao, Qa5, Qa1, Fam.step, Qaj, Qbm, Qav, putB, nv, sv, evO, opv, qv, binV, ldV, lenV, putAt, V.cells, Qax, Qaw, Qa2, Qap, Qa0, Qa3, ↓reduceIte, Nat.reduceEqDiff, Nat.reduceAdd, Nat.reduceLeDiff, Qd, Qe, Qy, Qx, Qc, Qf, Qh, Qq, Zl, Qg, Q8, Qz, Qt, Qj, Qi, Qo, Q0, endQ, rvs, rv1, resV, vw_i, Qb5, Qbz, Qk, Qr, Qb, decide_false, and_self, Ql, Qa]
theorem eq61 : Qb7 Try.prog 61 3 := Qb7.of (fs := _) (show Try.prog.underlying 61 = some (.struct (Try.prog.fieldsOf 61)) by kernel_rfl) (by kernel_rfl) (by kernel_rfl)
theorem W24 (c : Cane) (h : c.bents.length ≤ 1000000) : Qak Try.prog 24 [.ag (Qa8 c)] (.ag (Qa8 c)) := by
 refine Qah Qjd hmix Try.func24 cb24 cc24 cs24 cn24 ?_
 have hfl : Qcy c.bents.length := by unfold Qcy; omega
 have k1 : Qe9 3 ((c.bents.map eBent).flatten) 0 c.bents.length = c.bents.map eBent := Qhv (e := eBent) (k := 3) (fun _ => rfl) c.bents
 have k2 : ((c.bents.map eBent).flatten).length = c.bents.length * 3 := Qkf (e := eBent) (k := 3) (fun _ => rfl) c.bents
 have k3 : ∀ (hp : List Blk), (c.bents.map eBent).map (fun r => r.map (vw hp 6)) = c.bents.map eBent := fun hp => Qj7 (e := eBent) hp 6 (fun _ => rfl) c.bents
 simp only [rc24, rs24, Xs, Qt, hfl, k1, k2, k3, Xo, Qaa, Qab, Qaf, Qa6, putB, Qai, Qa5, Qa1, Fam.step, Qaj, Qbm, Qav, putB, nv, sv, Qc9, evO, opv, qv, ldV, curG, Qae, putAt, Qat, Qas, V.cells, Qax, Qaw, Qa9, Qa4, Qa2, Qap, Qa0, Qa3, ↓reduceIte, Nat.reduceEqDiff, Nat.reduceAdd, Nat.reduceMul, Nat.reduceLeDiff, Qd, Qe, Qy, Qx, Qc, Qf, Qh, Qq, Zl, Qg, Q8, Qz, Qm, Qw, Qt, Qj, Qi, Qo, Q0, Zc, Qp, endQ, rvs, rv1, resV, vw_i, Qb6, Qb5, Qcx, zipA, beq_self_eq_true, Qk, Qr, Qn, Qb, and_self, Ql, Qa8]
theorem W29 (l m : List Int) (h : l.length ≤ 1000000) : Qak Try.prog 29 [.sl 1 (l.map eI), .sl 1 (m.map eI)] (.b (decide (l = m))) := by
 refine Qah Qjd hmix Try.func29 cb29 cc29 cs29 cn29 ?_
 simp only [rc29, rs29, Qag, Qaa, Qab, Qal, Qbq, Qac, Qaf, Qa6, Qai, Qa5, Qa1, Fam.step, Qaj, evO, opv, qv, binV, lenV, Qa2, Qa0, Qa3, ↓reduceIte, Nat.reduceEqDiff, Qd, Qe, endQ, rvs, rv1, resV, vw_b, zipA, Qk, V.b.injEq, decide_eq_false_iff_not, true_and, and_self, reduceCtorEq, Q5, Ql, Classical.not_not]
 refine ⟨fun h1 => ?_, fun h1 => ?_⟩
 ·have : ¬ l = m := fun e => by rw [e] at h1; omega
  simp only [this, decide_false]
 ·have hlm : l.length = m.length := by omega
  refine Qd9 l.length (fun i => ⟨lkp [(0, .sl 1 (l.map eI)), (1, .sl 1 (m.map eI)), (5, .i i)], []⟩) (fun i => ∀ j : Nat, j < i → l[j]? = m[j]?) ?_ ?_ ?_ ?_
  ·simp only [Xa, kp, Qa0, Qa3, ↓reduceIte, Nat.reduceEqDiff, Qd, Qe, reduceCtorEq]
  ·intro j hj; omega
  ·intro i hi hc
   obtain ⟨n, hn⟩ : ∃ n, l[i]? = some n := ⟨_, Qv hi⟩
   obtain ⟨n', hn'⟩ : ∃ n, m[i]? = some n := ⟨_, Qv (by omega)⟩
   have hlt : (i : Int) < l.length := by omega
   have hlt' : (i : Int) < m.length := by omega
   have h4 : inI ((i : Int) + 1) := by unfold inI; omega
   simp only [hn, hn', hlt, hlt', h4, Z7, Z8, Qag, Qaa, Qb4, Qab, Qal, Qbq, Qac, Qaf, Qa6, Qb3, Qai, Qao, Qa5, Qa1, Fam.step, Qaj, runX, eff, Qb2, fpR, fpQ, fpV, Qbp, hits, evO, opv, qv, binV, ldV, iadV, lenV, kp, Qa2, Qa0, Qa3, ↓reduceIte, Nat.reduceEqDiff, Nat.reduceLeDiff, Qd, Qe, Qx, Qc, Qf, Qm, Qw, Qt, Qj, Qu, Qs, Za, Qp, Zd, endQ, rvs, rv1, resV, vw_b, Q4, Qk, V.b.injEq, Qr, Q3, Ze, Qn, Zk, Zn, Qb, decide_true, decide_eq_false_iff_not, true_and, and_true, and_self, reduceCtorEq, Q7, Zu, Q9, Q5, Ql, Q2, Qa, Q1, Classical.not_not, eI]
   refine ⟨fun hne => ?_, fun he => ?_⟩
   ·have : ¬ l = m := fun e => by rw [e, hn'] at hn; cases hn; exact hne rfl
    simp only [this, decide_false]
   ·intro j hj
    by_cases hji : j < i
    ·exact hc j hji
    ·have : j = i := by omega
     subst this
     rw [hn, hn', he]
  ·intro hc
   have h77 : ¬ ((l.length : Int) < l.length) := by omega
   have : l = m := List.ext_getElem? fun j => by
    by_cases hj : j < l.length
    ·exact hc j hj
    ·rw [Xt (by omega), Xt (by omega)]
   simp only [this, Qaa, Qab, Qal, Qaq, Qaf, Qa6, Qai, Qao, Qa5, Qa1, Fam.step, Qaj, evO, opv, qv, binV, lenV, Qa2, Qa0, Qa3, ↓reduceIte, Nat.reduceEqDiff, Qd, Qe, endQ, rvs, rv1, resV, vw_b, Z0, Qb, decide_true, decide_false, and_self, reduceCtorEq, Ql]
theorem W30 (c : Cane) (h : c.bents.length ≤ 1000000) : Qak Try.prog 30 [.ag (Qa8 c), .ag (Qa8 c)] (.b true) := by
 refine Qah Qjd hmix Try.func30 cb30 cc30 cs30 cn30 ?_
 simp only [rc30, rs30, eq23, Qag, Qaa, Qab, Qal, Qac, Qa6, Qai, Qa5, Qa1, Fam.step, Qaj, Qbl, Qb9, ug, evO, opv, qv, Qam, binV, ldV, lenV, V.cells, Qax, Qb8, Qa9, Qa4, Qa2, Qa0, Qa3, ↓reduceIte, Nat.reduceEqDiff, Nat.reduceAdd, Nat.reduceLeDiff, Qd, Qe, Qy, Qx, Qc, Qf, Qh, Qq, Qg, Q8, Qm, vw_i, Qb6, Qb5, zipA, beq_self_eq_true, Qk, Qr, Qn, Zk, Qb, decide_true, true_and, and_self, forall_const, implies_true, reduceCtorEq, Q7, Z2, Ql, Qa8]
 refine Qdq c.bents.length (fun i => ⟨lkp [(2, .pa (Qa8 c)), (3, .pa (Qa8 c)), (5, .i i)], []⟩) ?_ ?_ ?_
 ·simp only [Xa, kp, Qa0, Qa3, ↓reduceIte, Nat.reduceEqDiff, Qd, Qe, Qa8]
 ·intro i hi
  obtain ⟨b, hb⟩ : ∃ b, c.bents[i]? = some b := ⟨_, Qv hi⟩
  have hlt : (i : Int) < c.bents.length := by omega
  have h4 : inI ((i : Int) + 1) := by unfold inI; omega
  simp only [hb, hlt, h4, eq61, Z7, Z8, Qag, Qaa, Qb4, Qab, Qal, Qac, Qa6, Qb3, Qai, Qao, Qa5, Qa1, Fam.step, Qaj, runX, eff, Qb2, fpR, fpQ, fpV, Qbp, hits, evO, opv, qv, binV, ldV, iadV, lenV, Qb8, kp, Qa2, Qa0, Qa3, ↓reduceIte, Nat.reduceEqDiff, Nat.reduceAdd, Nat.reduceLeDiff, Qd, Qe, Qx, Qc, Qf, Qh, Qq, Qg, Qz, Qm, Qw, Qt, Qj, Qu, Qs, Za, Qp, Zd, Q4, Qk, Qr, Q3, Ze, Qn, Zk, Zn, Qb, decide_true, and_self, Q7, Zu, Q9, Z2, Ql, Q2, Qa, Q1, eBent, Qa8]
 ·have h77 : ¬ ((c.bents.length : Int) < c.bents.length) := by omega
  simp only [h77, Qaa, Qab, Qal, Qaq, Qaf, Qa6, Qai, Qao, Qa5, Qa1, Fam.step, Qaj, evO, opv, qv, binV, ldV, lenV, Qa2, Qa0, Qa3, ↓reduceIte, Nat.reduceEqDiff, Nat.reduceAdd, Nat.reduceLeDiff, Qd, Qe, Qc, Qf, Qh, Qq, Qm, endQ, rvs, rv1, resV, vw_b, Qk, Qb, decide_false, and_self, Ql, Qa8]
def farP (c : Cane) : Bool := farB c || (decide (Qdr c = 0) && (decide ((3 : Int) < c.limit) && (decide ((14 : Int) < c.limit) || decide (4 * c.tire < c.limit))))
theorem W31 (c : Cane) : Qak Try.prog 31 [.ag (Qa8 c)] (.b (farP c)) := by
 refine Qah Qjd hmix Try.func31 cb31 cc31 cs31 cn31 ?_
 have g1 := Qup c
 have g2 := Quq c
 unfold Qa8 at g1 g2
 by_cases hf : farB c = true
 ·simp only [rc31, rs31, g1, g2, hf, farP, Qaa, Qab, Qaf, Qa6, Qai, Qa5, Qa1, Fam.step, Qaj, Qbl, Qb9, ug, evO, opv, qv, Qam, binV, ldV, Qb1, V.cells, Qax, Qa9, Qa4, flat, Qa2, Qa0, Qa3, ↓reduceIte, Nat.reduceEqDiff, Nat.reduceAdd, Nat.reduceLT, Nat.reduceLeDiff, Qd, Qe, Qy, Qx, Qc, Qf, Qh, Qq, Qg, Qz, Qm, Qj, endQ, rvs, rv1, resV, vw_i, vw_b, Qb6, Qb5, zipA, Qk, Qr, Q3, Ze, Qn, Z6, Zk, Qb, Zf, decide_eq_true_eq, decide_eq_false_iff_not, true_and, and_true, and_self, false_and, forall_const, implies_true, beq_true, beq_false, Qcm, Qcp, Zb, imp_self, Qa8]
 ·by_cases he : Qdr c = 0
  ·have hC := Qim.1 he
   have ht := hC.tire
   have hi : inI (4 * c.tire) := by unfold inI; omega
   by_cases h3 : (3 : Int) < c.limit <;> by_cases h14 : (14 : Int) < c.limit <;> simp only [rc31, rs31, g1, g2, hf, he, hi, farP, h3, h14, Qaa, Qab, Qaf, Qa6, Qai, Qa5, Qa1, Fam.step, Qaj, Qbl, Qb9, ug, evO, opv, qv, Qam, binV, ldV, Qb1, V.cells, Qax, Qa9, Qa4, flat, Qa2, Qa0, Qa3, ↓reduceIte, Nat.reduceEqDiff, Nat.reduceAdd, Nat.reduceLT, Nat.reduceLeDiff, Qd, Qe, Qy, Qx, Qc, Qf, Qh, Qq, Qg, Qz, Qm, Qj, endQ, rvs, rv1, resV, vw_i, vw_b, Qb6, Qb5, zipA, beq_self_eq_true, Qk, Qr, Q3, Zx, Ze, Zt, Qn, Zv, Xb, Z6, Zk, Qb, Zf, decide_true, decide_false, and_true, and_self, and_false, forall_const, implies_true, beq_true, beq_false, imp_self, Qa8]
  ·simp only [rc31, rs31, g1, g2, hf, he, farP, Qaa, Qab, Qaf, Qa6, Qai, Qa5, Qa1, Fam.step, Qaj, Qbl, Qb9, ug, evO, opv, qv, Qam, binV, ldV, Qb1, V.cells, Qax, Qa9, Qa4, flat, Qa2, Qa0, Qa3, ↓reduceIte, Nat.reduceEqDiff, Nat.reduceAdd, Nat.reduceLT, Nat.reduceLeDiff, Qd, Qe, Qy, Qx, Qc, Qf, Qh, Qq, Qg, Qz, Qm, Qj, endQ, rvs, rv1, resV, vw_i, vw_b, Qb6, Qb5, zipA, beq_self_eq_true, Qk, Qr, Q3, Ze, Zt, Qn, Qb, decide_false, decide_eq_true_eq, decide_eq_false_iff_not, true_and, and_true, and_self, false_and, forall_const, implies_true, beq_true, beq_false, Qcp, imp_self, Qa8]
def Qnn (c : Cane) : Bool := !farP c && decide (Qdr c = 0)
noncomputable def H34 : Gam := H33.ext 31 (fnG eC1 dC1 (fun _ => True) farP .b)
theorem Qvr : GOk Try.prog H34 := Qjd.ext (f := 31) (fun a w => Try.call31 a w) (Qbf fun c _ => W31 c)
theorem h31 (c : Cane) : H34 31 [.ag (Qa8 c)] = (True, .b (farP c)) := (show H34 31 _ = fnG eC1 dC1 (fun _ => True) farP .b (eC1 c) from rfl).trans (Qbv _ (Qkb _))
theorem Qur (c : Cane)  : H34 16 [.ag (Qa8 c)] = (True, .i (Qdr c)) := h16 c
theorem W22 (c : Cane) : Qak Try.prog 22 [.ag (Qa8 c)] (.b (Qnn c)) := by
 refine Qah Qvr hmix Try.func22 cb22 cc22 cs22 cn22 ?_
 have g1 := Qur c
 have g2 := h31 c
 unfold Qa8 at g1 g2
 simp only [rc22, rs22, g1, g2, Qaa, Qab, Qaf, Qa6, Qai, Qa5, Qa1, Fam.step, Qaj, Qbl, Qb9, ug, evO, opv, qv, Qam, binV, ldV, Qb1, V.cells, Qax, Qa9, Qa4, flat, Qa2, Qa0, Qa3, ↓reduceIte, Nat.reduceEqDiff, Nat.reduceAdd, Nat.reduceLT, Nat.reduceLeDiff, Qd, Qe, Qy, Qx, Qc, Qf, Qg, Qz, Qj, endQ, rvs, rv1, resV, vw_i, vw_b, Qb6, Qb5, zipA, Qk, V.b.injEq, Qr, Q3, Qn, Qb, true_and, and_true, and_self, implies_true, beq_true, Zi, Q5, Qcm, Zg, imp_self, Qa8]
 by_cases hf : farP c = true <;> simp [hf, Qnn]
theorem W23 (w : Span) : Qak Try.prog 23 [.ag (Qan w)] (.b (Qch w 540)) := by
 refine Qah Qjd hmix Try.func23 cb23 cc23 cs23 cn23 ?_
 simp only [rc23, rs23, Qaa, Qab, Qaf, Qa6, Qai, Qa5, Qa1, Fam.step, Qaj, Qbl, Qb9, ug, evO, opv, qv, Qam, binV, ldV, V.cells, Qax, Qa9, Qa4, Qa2, Qa0, Qa3, ↓reduceIte, Nat.reduceEqDiff, Nat.reduceAdd, Nat.reduceLeDiff, Qd, Qe, Qy, Qx, Qc, Qf, Qh, Qq, Qm, endQ, rvs, rv1, resV, vw_i, vw_b, Qb5, zipA, Qk, V.b.injEq, Qr, Q3, Qn, Qb, decide_eq_true_eq, decide_eq_false_iff_not, true_and, and_true, and_self, implies_true, beq_true, Qcm, Zb, imp_self, Qan]
 by_cases h : 0 ≤ w.low <;> by_cases h2 : w.low ≤ w.high <;> simp [h, h2, Qch, Qar]
theorem W36 (w : Span) (n : Int) : Qak Try.prog 36 [.ag (Qan w), .i n] (.b (Qar n w.low w.high)) := by
 refine Qah Qjd hmix Try.func36 cb36 cc36 cs36 cn36 ?_
 simp only [rc36, rs36, Qaa, Qab, Qaf, Qa6, Qai, Qa5, Qa1, Fam.step, Qaj, Qbl, Qb9, ug, evO, opv, qv, Qam, binV, ldV, V.cells, Qax, Qa9, Qa4, Qa2, Qa0, Qa3, ↓reduceIte, Nat.reduceEqDiff, Nat.reduceAdd, Nat.reduceLeDiff, Qd, Qe, Qy, Qx, Qc, Qf, Qh, Qq, Qm, endQ, rvs, rv1, resV, vw_i, vw_b, Qb5, zipA, Qk, V.b.injEq, Qr, Q3, Qn, Qb, decide_eq_true_eq, decide_eq_false_iff_not, true_and, and_true, and_self, implies_true, reduceCtorEq, beq_true, Qcm, imp_self, Qan]
 by_cases h : w.low ≤ n <;> simp [h, Qar]
def Qnu (a b : Span) : Bool := decide (a.low ≤ b.low) && decide (b.high ≤ a.high)
theorem W45 (a b : Span) : Qak Try.prog 45 [.ag (Qan a), .ag (Qan b)] (.b (Qnu a b)) := by
 refine Qah Qjd hmix Try.func45 cb45 cc45 cs45 cn45 ?_
 simp only [rc45, rs45, Qaa, Qab, Qaf, Qa6, Qai, Qa5, Qa1, Fam.step, Qaj, Qbl, Qb9, ug, evO, opv, qv, Qam, binV, ldV, V.cells, Qax, Qa9, Qa4, Qa2, Qa0, Qa3, ↓reduceIte, Nat.reduceEqDiff, Nat.reduceAdd, Nat.reduceLeDiff, Qd, Qe, Qy, Qx, Qc, Qf, Qh, Qq, Qm, endQ, rvs, rv1, resV, vw_i, vw_b, Qb5, zipA, Qk, V.b.injEq, Qr, Q3, Qn, Qb, decide_eq_true_eq, decide_eq_false_iff_not, true_and, and_true, and_self, implies_true, reduceCtorEq, beq_true, Qcm, imp_self, Qan]
 by_cases h : a.low ≤ b.low <;> simp [h, Qnu]
theorem W44 (l : List Int) (n : Int) (h : l.length ≤ 1000000) : Qak Try.prog 44 [.sl 1 (l.map eI), .i n] (.b (decide (n ∈ l))) := by
 refine Qah Qjd hmix Try.func44 cb44 cc44 cs44 cn44 ?_
 simp only [rc44, rs44, Qaa, Qab, Qac, Qa6, Qai, Qa5, Qa1, Fam.step, Qaj, evO, opv, qv, Qa2, Qa0, Qa3, ↓reduceIte, Nat.reduceEqDiff, Qd, Qe, zipA, Qk, true_and, reduceCtorEq]
 refine Qd9 l.length (fun i => ⟨lkp [(0, .sl 1 (l.map eI)), (1, .i n), (5, .i i)], []⟩) (fun i => ∀ j : Nat, j < i → ¬ l[j]? = some n) ?_ ?_ ?_ ?_
 ·simp only [Xa, kp, Qa0, Qa3, ↓reduceIte, Nat.reduceEqDiff, Qd, Qe, reduceCtorEq]
 ·intro j hj; omega
 ·intro i hi hc
  obtain ⟨x, hx⟩ : ∃ n, l[i]? = some n := ⟨_, Qv hi⟩
  have hlt : (i : Int) < l.length := by omega
  have h4 : inI ((i : Int) + 1) := by unfold inI; omega
  simp only [hx, hlt, h4, Z7, Z8, Qag, Qaa, Qab, Qal, Qbq, Qac, Qaf, Qa6, Qai, Qao, Qa5, Qa1, Fam.step, Qaj, evO, opv, qv, binV, ldV, iadV, lenV, kp, Qa2, Qa0, Qa3, ↓reduceIte, Nat.reduceEqDiff, Nat.reduceLeDiff, Qd, Qe, Qc, Qf, Qm, Qs, endQ, rvs, rv1, resV, vw_b, Q4, Qk, V.b.injEq, Qb, decide_true, decide_eq_true_eq, true_and, and_true, and_self, reduceCtorEq, Q7, Ql, Q2, Qa, Q1, eI]
  refine ⟨fun he => ?_, fun he => ?_⟩
  ·have : n ∈ l := by rw [← he]; exact Xf hx
   simp only [this, decide_true]
  ·intro j hj
   by_cases hji : j < i
   ·exact hc j hji
   ·have : j = i := by omega
    subst this
    rw [hx]
    simpa using he
 ·intro hc
  have h77 : ¬ ((l.length : Int) < l.length) := by omega
  have : ¬ n ∈ l := fun hn => by
   obtain ⟨j, hj⟩ := Xx hn
   exact hc j (Qau hj) hj
  simp only [h77, this, Qaa, Qab, Qal, Qaq, Qaf, Qa6, Qai, Qao, Qa5, Qa1, Fam.step, Qaj, evO, opv, qv, binV, lenV, Qa2, Qa0, Qa3, ↓reduceIte, Nat.reduceEqDiff, Qd, Qe, endQ, rvs, rv1, resV, vw_b, Qb, decide_false, and_self, reduceCtorEq, Ql]
end Go.C06
set_option maxRecDepth 8000
namespace Go.C06
open Go.Fam Go.Proofs
end Go.C06
set_option linter.unusedSimpArgs false
set_option linter.unusedVariables false
namespace Go.C06
open Go.Fam Go.Proofs
def fewB (c : Cane) : Prop := c.bents.length ≤ 1000000
def eCC (a : Cane × Cane) : List V := [.ag (Qa8 a.1), .ag (Qa8 a.2)]
def dCC : List V → Cane × Cane | [.ag s, .ag n] => (Qdt s, Qdt n) | _ => (Qdt [], Qdt [])
theorem Qwq (a : Cane × Cane) : dCC (eCC a) = a := by obtain ⟨s, n⟩ := a; simp [dCC, eCC, Qeb]
def eLL (a : List Int × List Int) : List V := [.sl 1 (a.1.map eI), .sl 1 (a.2.map eI)]
def dLL : List V → List Int × List Int | [.sl _ l, .sl _ m] => (l.map dI, m.map dI) | _ => ([], [])
def eWW (a : Span × Span) : List V := [.ag (Qan a.1), .ag (Qan a.2)]
def dWW : List V → Span × Span | [.ag s, .ag n] => (Qey s, Qey n) | _ => (Qey [], Qey [])
noncomputable def K1 : Gam := (((H34.ext 24 (fnG eC1 dC1 fewB (fun c => c) fun c => .ag (Qa8 c))).ext 29 (fnG eLL dLL (fun a => a.1.length ≤ 1000000) (fun a => decide (a.1 = a.2)) .b)).ext 30 (fnG eCC dCC (fun a => a.1 = a.2 ∧ fewB a.1) (fun _ => true) .b)).ext 27 (fnG eC1 dC1 (fun _ => True) (fun c => (stL c ⟨0, 0⟩ [], stE c ⟨0, 0⟩ [])) fun r => .tp [.sl 1 (r.1.map eI), .i r.2])
theorem okK1 : GOk Try.prog K1 := by
 have k1 := Qvr.ext (f := 24) (fun a w => Try.call24 a w) (Qbf (e := eC1) (d := dC1) (ok := fewB) (g := fun c => c) (eb := fun c => .ag (Qa8 c)) fun c h => W24 c h)
 have k2 := k1.ext (f := 29) (fun a w => Try.call29 a w) (Qbf (e := eLL) (d := dLL) (ok := fun a => a.1.length ≤ 1000000) (g := fun a => decide (a.1 = a.2)) (eb := .b) fun a h => W29 a.1 a.2 h)
 have k3 := k2.ext (f := 30) (fun a w => Try.call30 a w) (Qbf (e := eCC) (d := dCC) (ok := fun a => a.1 = a.2 ∧ fewB a.1) (g := fun _ => true) (eb := .b) fun a h => by
  obtain ⟨c, d⟩ := a
  obtain ⟨h1, h2⟩ := h
  simp only at h1 h2
  subst h1
  exact W30 c h2)
 exact k3.ext (f := 27) (fun a w => Try.call27 a w) (Qbf (e := eC1) (d := dC1) (ok := fun _ => True) (g := fun c => (stL c ⟨0, 0⟩ [], stE c ⟨0, 0⟩ [])) (eb := fun r => .tp [.sl 1 (r.1.map eI), .i r.2]) fun a _ => W27 a)
theorem k24 (c : Cane) : K1 24 [.ag (Qa8 c)] = (fewB c, .ag (Qa8 c)) := (show K1 24 _ = fnG eC1 dC1 fewB (fun c => c) (fun c => .ag (Qa8 c)) (eC1 c) from rfl).trans (Qbv _ (Qkb _))
theorem k30 (c : Cane) : K1 30 [.ag (Qa8 c), .ag (Qa8 c)] = (c = c ∧ fewB c, .b true) :=
 (show K1 30 _ = fnG eCC dCC (fun a => a.1 = a.2 ∧ fewB a.1) (fun _ => true) .b (eCC (c, c)) from rfl).trans (Qbv _ (Qwq _))
noncomputable def K2 : Gam := ((((((K1.ext 40 (fnG eCLS dCLS (fun _ => True) (fun a => Qh7 a.1 a.2.1 a.2.2) fun r => .tp [.i r.1, .i r.2])).ext 46 (fnG eCL dCL (fun _ => True) (fun a => Qeg a.1 a.2) fun r => .tp [.ag (Qan r.1), .i r.2])).ext 22 (fnG eC1 dC1 (fun _ => True) Qnn .b)).ext 23 (fnG eW1 dW1 (fun _ => True) (fun w => Qch w 540) .b)).ext 36 (fnG eSI dSI (fun _ => True) (fun a => Qar a.2 a.1.low a.1.high) .b)).ext 45 (fnG eWW dWW (fun _ => True) (fun a => Qnu a.1 a.2) .b)).ext 44 (fnG eLI dLI (fun a => a.1.length ≤ 1000000) (fun a => decide (a.2 ∈ a.1)) .b)
theorem okK2 : GOk Try.prog K2 := by
 have k1 := okK1.ext (f := 40) (fun a w => Try.call40 a w) (Qbf (e := eCLS) (d := dCLS) (ok := fun _ => True) (g := fun a => Qh7 a.1 a.2.1 a.2.2) (eb := fun r => .tp [.i r.1, .i r.2]) fun a _ => W40 a.1 a.2.1 a.2.2)
 have k2 := k1.ext (f := 46) (fun a w => Try.call46 a w) (Qbf (e := eCL) (d := dCL) (ok := fun _ => True) (g := fun a => Qeg a.1 a.2) (eb := fun r => .tp [.ag (Qan r.1), .i r.2]) fun a _ => W46 a.1 a.2)
 have k3 := k2.ext (f := 22) (fun a w => Try.call22 a w) (Qbf (e := eC1) (d := dC1) (ok := fun _ => True) (g := Qnn) (eb := .b) fun a _ => W22 a)
 have k4 := k3.ext (f := 23) (fun a w => Try.call23 a w) (Qbf (e := eW1) (d := dW1) (ok := fun _ => True) (g := fun w => Qch w 540) (eb := .b) fun a _ => W23 a)
 have k5 := k4.ext (f := 36) (fun a w => Try.call36 a w) (Qbf (e := eSI) (d := dSI) (ok := fun _ => True) (g := fun a => Qar a.2 a.1.low a.1.high) (eb := .b) fun a _ => W36 a.1 a.2)
 have k6 := k5.ext (f := 45) (fun a w => Try.call45 a w) (Qbf (e := eWW) (d := dWW) (ok := fun _ => True) (g := fun a => Qnu a.1 a.2) (eb := .b) fun a _ => W45 a.1 a.2)
 exact k6.ext (f := 44) (fun a w => Try.call44 a w) (Qbf (e := eLI) (d := dLI) (ok := fun a => a.1.length ≤ 1000000) (g := fun a => decide (a.2 ∈ a.1)) (eb := .b) fun a h => W44 a.1 a.2 h)
end Go.C06
set_option linter.unusedSimpArgs false
set_option linter.unusedVariables false
namespace Go.C06
open Go.Fam Go.Proofs
end Go.C06
set_option maxRecDepth 8000
namespace Go.C06
open Go.Fam Go.Proofs
end Go.C06
set_option linter.unusedSimpArgs false
set_option linter.unusedVariables false
namespace Go.C06
open Go.Fam Go.Proofs
end Go.C06
set_option linter.unusedSimpArgs false
set_option linter.unusedVariables false
namespace Go.C06
open Go.Fam Go.Proofs
def Qe0 (c : Cane) (w : Span) : Nat → Int → Int → List Int → Bool
 | 0, a, _, _ => Qar a w.low w.high
 | n + 1, a, i, T => Qar a w.low w.high || (ints 1 (Qdk c i)).any fun b => T.all fun k => Qe0 c w n (a + b - Qay b k) (i + 1) (T.filter fun k' => decide (Qay b k' = Qay b k))
theorem Qk2 {c c' : Cane} {w w' : Span} (hc : ∀ i : Int, 0 ≤ i → Qdk c i ≤ Qdk c' i) (hw : w'.low ≤ w.low ∧ w.high ≤ w'.high) :
  ∀ (n : Nat) (a i : Int) (T T' : List Int), 0 ≤ i → (∀ k ∈ T', k ∈ T) → Qe0 c w n a i T = true → Qe0 c' w' n a i T' = true := by
 have hin : ∀ a, Qar a w.low w.high = true → Qar a w'.low w'.high = true := fun a h => by
  simp only [Qar, Xi, decide_eq_true_eq] at h ⊢; omega
 intro n
 induction n with
 | zero => intro a i T T' _ _ h; exact hin a h
 | succ n ih =>
  intro a i T T' hi hT h
  rw [Qe0, Bool.or_eq_true] at h ⊢
  rcases h with h | h
  ·exact .inl (hin a h)
  ·right
   rw [Z9] at h ⊢
   obtain ⟨b, hb, h⟩ := h
   rw [Qe5] at hb
   have hm := hc i hi
   refine ⟨b, Qe5.2 (by omega), ?_⟩
   rw [Xm] at h ⊢
   intro k hk
   refine ih _ _ _ _ (by omega) (fun k' hk' => ?_) (h k (hT k hk))
   rw [Xp] at hk' ⊢
   exact ⟨hT k' hk'.1, hk'.2⟩
theorem Qlz {c : Cane} {w : Span} {n : Nat} {a i : Int} {T T' : List Int} (hi : 0 ≤ i) (h : ∀ k, k ∈ T ↔ k ∈ T') : Qe0 c w n a i T = Qe0 c w n a i T' := by
 rw [X8]
 exact ⟨Qk2 (fun _ _ => Xg _) ⟨Xg _, Xg _⟩ n a i T T' hi fun k hk => (h k).2 hk, Qk2 (fun _ _ => Xg _) ⟨Xg _, Xg _⟩ n a i T' T hi fun k hk => (h k).1 hk⟩
theorem Qob {c : Cane} {w : Span} : ∀ (n : Nat) (a i : Int) (T : List Int), w.high < a → T ≠ [] → (∀ k ∈ T, 0 ≤ k ∧ k ≤ 500) → Qe0 c w n a i T = false := by
 intro n
 induction n with
 | zero => intro a i T h _ _; simp only [Qe0, Qar, Xu, decide_eq_false_iff_not]; omega
 | succ n ih =>
  intro a i T h hT hk
  rw [Qe0, Xw]
  refine ⟨by simp only [Qar, Xu, decide_eq_false_iff_not]; omega, ?_⟩
  rw [X3]
  intro b hb
  rw [Qe5] at hb
  obtain ⟨k, hkT⟩ := List.exists_mem_of_ne_nil T hT
  have h1 := Qhs (b := b) (k := k) (by omega) (hk k hkT)
  rw [Xm]
  intro h2
  have := h2 k hkT
  rw [ih (a + b - Qay b k) (i + 1) _ (by omega) (X0 (Xp.2 ⟨hkT, by simp⟩)) (fun k' hk' => hk k' (Xp.1 hk').1)] at this
  cases this
theorem Qrc {b : Int} {ts : List Int} {l : Nat} (hm : ∀ i j : Nat, i ≤ j → j ≤ l → Qay b (ts.getD i 0) ≤ Qay b (ts.getD j 0)) :
  ∀ (n f : Nat), l + 1 ≤ f + n → (∀ p ∈ grpF b ts l f, f ≤ p.1 ∧ p.1 ≤ p.2 ∧ p.2 ≤ l ∧ ∀ j, f ≤ j → j ≤ l → (Qay b (ts.getD j 0) = Qay b (ts.getD p.1 0) ↔ p.1 ≤ j ∧ j ≤ p.2)) ∧
   ∀ j, f ≤ j → j ≤ l → ∃ p ∈ grpF b ts l f, p.1 ≤ j ∧ j ≤ p.2 := by
 intro n
 induction n with
 | zero =>
  intro f hf
  have e : grpF b ts l f = [] := by
   unfold grpF grpP
   rw [if_neg (by omega)]
  rw [e]
  exact ⟨fun p hp => (by cases hp), fun j h1 h2 => (by omega)⟩
 | succ n ih =>
  intro f hf
  by_cases hfl : f ≤ l
  ·rw [Qj2 hfl]
   obtain ⟨t1, t2, t3⟩ := Qqr (bend := b) (v := Qay b (ts.getD f 0)) (ts := ts) hfl
   have t4 := Qtq (bend := b) (v := Qay b (ts.getD f 0)) (ts := ts) hfl
   obtain ⟨e, he⟩ : ∃ e, e = endP b ts l f := ⟨_, rfl⟩
   have he2 : toF b (Qay b (ts.getD f 0)) ts l f = e := he.symm
   rw [he2] at t1 t2 t3 t4
   rw [← he]
   obtain ⟨i1, i2⟩ := ih (e + 1) (by omega)
   have hin : ∀ j, f ≤ j → j ≤ e → Qay b (ts.getD j 0) = Qay b (ts.getD f 0) := fun j h1 h2 => by
    by_cases hj : j = f
    ·rw [hj]
    ·exact t3 j (by omega) h2
   have hout : ∀ j, e < j → j ≤ l → Qay b (ts.getD f 0) < Qay b (ts.getD j 0) := fun j h1 h2 => by
    have k1 := t4 (by omega)
    have k2 := hm f (e + 1) (by omega) (by omega)
    have k3 := hm (e + 1) j (by omega) h2
    omega
   refine ⟨fun p hp => ?_, fun j h1 h2 => ?_⟩
   ·rcases List.mem_cons.1 hp with rfl | hp
    ·refine ⟨Xo _, t1, t2, fun j h1 h2 => ⟨fun h => ⟨h1, ?_⟩, fun h => hin j h1 h.2⟩⟩
     refine X6 fun h3 => ?_
     have := hout j h3 h2
     have h' : Qay b (ts.getD j 0) = Qay b (ts.getD f 0) := h
     omega
    ·obtain ⟨a1, a2, a3, a4⟩ := i1 p hp
     refine ⟨by omega, a2, a3, fun j h1 h2 => ?_⟩
     by_cases hj : e < j
     ·exact a4 j hj h2
     ·have k1 := hin j h1 (by omega)
      have k2 := hout p.1 (by omega) (by omega)
      constructor
      ·intro h; omega
      ·intro h; omega
   ·by_cases hj : e < j
    ·obtain ⟨p, hp, hpj⟩ := i2 j hj h2
     exact ⟨p, List.mem_cons_of_mem _ hp, hpj⟩
    ·exact ⟨(f, e), List.mem_cons_self, h1, by show j ≤ e; omega⟩
  ·have e : grpF b ts l f = [] := by
    unfold grpF grpP
    rw [if_neg hfl]
   rw [e]
   exact ⟨fun p hp => (by cases hp), fun j h1 h2 => (by omega)⟩
def seg (ts : List Int) (f l : Nat) : List Int := (List.range' f (l + 1 - f)).map fun j => ts.getD j 0
theorem Qgy {ts : List Int} {f l : Nat} {k : Int} : k ∈ seg ts f l ↔ ∃ j, f ≤ j ∧ j ≤ l ∧ ts.getD j 0 = k := by
 unfold seg
 rw [List.mem_map]
 constructor
 ·rintro ⟨j, hj, rfl⟩
  rw [X4] at hj
  exact ⟨j, hj.1, by omega, rfl⟩
 ·rintro ⟨j, h1, h2, rfl⟩
  exact ⟨j, X4.2 (by omega), rfl⟩
theorem Qsx {p : Int → Bool} {L : List Int} (h : ∀ x ∈ L, 0 ≤ x) : 0 ≤ (L.find? p).getD (-1) ↔ L.any p = true := by
 cases hf : L.find? p with
 | none =>
  rw [Xq] at hf
  simp only [Za, Z9]
  constructor
  ·intro h; omega
  ·rintro ⟨x, hx, hp⟩; exact absurd hp (hf x hx)
 | some x =>
  have h1 := List.find?_some hf
  have h2 := List.mem_of_find?_eq_some hf
  simp only [Qs, Z9]
  exact ⟨fun _ => ⟨x, h2, h1⟩, fun _ => h x h2⟩
theorem Qq8 {c : Cane} {w : Span} {ts : List Int} (hs : ts.Pairwise (· < ·)) (hk : ∀ k ∈ ts, 0 ≤ k ∧ k ≤ 500) :
  ∀ (n : Nat) (a num : Int) (f l : Nat), 0 ≤ num → f ≤ l → l < ts.length → (0 ≤ Qi1 c w ts n a num f l ↔ Qe0 c w n a num (seg ts f l) = true) := by
 have hkd : ∀ j, j < ts.length → 0 ≤ ts.getD j 0 ∧ ts.getD j 0 ≤ 500 := fun j hj => hk _ (Qeu hj)
 have hmn : ∀ b, 0 ≤ b → ∀ i j : Nat, i ≤ j → j < ts.length → Qay b (ts.getD i 0) ≤ Qay b (ts.getD j 0) := by
  intro b hb i j hij hj
  refine Qfw hb (hkd i (by omega)).1 ?_
  by_cases e : i = j
  ·rw [e]; exact Xg _
  ·have := Xh.1 hs i j (by omega) hj (by omega)
   simp only [Qa]
   rw [Qv (show i < ts.length by omega), Qv hj]
   simp only [Qs]; omega
 intro n
 induction n with
 | zero =>
  intro a num f l _ _ _
  rw [Qi1, Qe0]
  split
  ·rename_i h; simp [h]
  ·rename_i h; simp [h]
 | succ n ih =>
  intro a num f l hnum hfl hl
  have hne : seg ts f l ≠ [] := X0 (Qgy.2 ⟨f, Xo _, hfl, rfl⟩)
  have hin : ∀ k ∈ seg ts f l, 0 ≤ k ∧ k ≤ 500 := fun k hk' => by
   obtain ⟨j, j1, j2, rfl⟩ := Qgy.1 hk'
   exact hkd j (by omega)
  by_cases hw : Qar a w.low w.high = true
  ·rw [Qi1, if_pos hw, Qe0, hw]; simp
  ·by_cases hh : w.high < a
   ·rw [Qi1, if_neg hw, if_pos hh, Qob _ _ _ _ hh hne hin]; simp
   ·rw [Qi1, if_neg hw, if_neg hh, Qe0, Qsx (fun x hx => by rw [Qe5] at hx; omega)]
    simp only [hw, Zv]
    rw [Z9, Z9]
    have key : ∀ b ∈ ints 1 (Qdk c num), ((grpF b ts l f).all fun p => decide (0 ≤ Qi1 c w ts n (a + b - Qay b (ts.getD p.1 0)) (num + 1) p.1 p.2)) = true ↔
      ((seg ts f l).all fun k => Qe0 c w n (a + b - Qay b k) (num + 1) ((seg ts f l).filter fun k' => decide (Qay b k' = Qay b k))) = true := by
     intro b hb
     rw [Qe5] at hb
     obtain ⟨s1, s2⟩ := Qrc (b := b) (ts := ts) (l := l) (fun i j h1 h2 => hmn b (by omega) i j h1 (by omega)) (l + 1) f (by omega)
     have hset : ∀ p ∈ grpF b ts l f, ∀ j, p.1 ≤ j → j ≤ p.2 → (Qe0 c w n (a + b - Qay b (ts.getD p.1 0)) (num + 1) (seg ts p.1 p.2) = Qe0 c w n (a + b - Qay b (ts.getD j 0)) (num + 1) ((seg ts f l).filter fun k' => decide (Qay b k' = Qay b (ts.getD j 0)))) := by
      intro p hp j j1 j2
      obtain ⟨a1, a2, a3, a4⟩ := s1 p hp
      have ej : Qay b (ts.getD j 0) = Qay b (ts.getD p.1 0) := (a4 j (by omega) (by omega)).2 ⟨j1, j2⟩
      rw [ej]
      refine Qlz (by omega) fun k => ?_
      rw [Xp, Qgy, Qgy, decide_eq_true_eq]
      constructor
      ·rintro ⟨i, i1, i2, rfl⟩
       exact ⟨⟨i, by omega, by omega, rfl⟩, (a4 i (by omega) (by omega)).2 ⟨i1, i2⟩⟩
      ·rintro ⟨⟨i, i1, i2, rfl⟩, h⟩
       have := (a4 i i1 i2).1 h
       exact ⟨i, this.1, this.2, rfl⟩
     rw [Xm, Xm]
     constructor
     ·intro h k hk'
      obtain ⟨j, j1, j2, rfl⟩ := Qgy.1 hk'
      obtain ⟨p, hp, p1, p2⟩ := s2 j j1 j2
      obtain ⟨a1, a2, a3, a4⟩ := s1 p hp
      have := h p hp
      rw [decide_eq_true_eq, ih _ _ _ _ (by omega) a2 (by omega), hset p hp j p1 p2] at this
      exact this
     ·intro h p hp
      obtain ⟨a1, a2, a3, a4⟩ := s1 p hp
      rw [decide_eq_true_eq, ih _ _ _ _ (by omega) a2 (by omega), hset p hp p.1 (Xo _) a2]
      exact h _ (Qgy.2 ⟨p.1, a1, by omega, rfl⟩)
    constructor
    ·rintro ⟨b, hb, h⟩; exact ⟨b, hb, (key b hb).1 h⟩
    ·rintro ⟨b, hb, h⟩; exact ⟨b, hb, (key b hb).2 h⟩
def Qre (c : Cane) (w : Span) (n : Nat) : Bool := Qe0 c w n 0 0 (Qa7 c)
theorem Qq7 {c : Cane} (hC : OkC c) (ht : Qa7 c ≠ []) (w : Span) (n : Nat) : 0 ≤ Qmp c w n ↔ Qre c w n = true := by
 have hpos := Xk.2 ht
 have e : Qmp c w n = Qi1 c w (Qa7 c) n 0 0 0 ((Qa7 c).length - 1) := by
  unfold Qmp Qg3 Qry
  simp only [Q2]
  rw [show ((((Qa7 c).length : Int) - 1).toNat) = (Qa7 c).length - 1 by omega]; rfl
 rw [e, Qq8 (Qeq c) (fun k hk => Qe8 hC hk) n 0 0 0 _ (Xg _) (Nat.zero_le _) (by omega)]
 unfold Qre
 rw [Qlz (Xg _) fun k => ?_]
 rw [Qgy]
 constructor
 ·rintro ⟨j, _, j2, rfl⟩
  exact Qeu (by omega)
 ·intro hk
  obtain ⟨j, hj, rfl⟩ := Xv.1 hk
  exact ⟨j, Nat.zero_le _, by omega, by rw [Qa, Qv hj]; rfl⟩
theorem Qpw {c : Cane} (hC : OkC c) (ht : Qa7 c ≠ []) (w : Span) : Qkt c w = (Xl 7).find? fun n => Qre c w n := by
 unfold Qkt
 congr 1
 funext n
 rw [X8, decide_eq_true_eq]
 exact Qq7 hC ht w n
end Go.C06
set_option linter.unusedSimpArgs false
set_option linter.unusedVariables false
namespace Go.C06
open Go.Fam Go.Proofs
end Go.C06
set_option linter.unusedSimpArgs false
set_option linter.unusedVariables false
namespace Go.C06
open Go.Fam Go.Proofs
end Go.C06
set_option linter.unusedSimpArgs false
set_option linter.unusedVariables false
namespace Go.C06
open Go.Fam Go.Proofs
end Go.C06
set_option maxRecDepth 8000
namespace Go.C06
open Go.Fam Go.Proofs
end Go.C06
set_option linter.unusedSimpArgs false
set_option linter.unusedVariables false
namespace Go.C06
open Go.Fam Go.Proofs
noncomputable def K3 : Gam := K2.ext 35 (fnG eCS dCS (fun _ => True) (fun a => Qdx a.1 a.2) fun r => .tp [.i r.2.1, .i r.2.2])
theorem okK3 : GOk Try.prog K3 := okK2.ext (f := 35) (fun a w => Try.call35 a w) (Qbf (e := eCS) (d := dCS) (ok := fun _ => True) (g := fun a => Qdx a.1 a.2) (eb := fun r => .tp [.i r.2.1, .i r.2.2]) fun a _ => W35 a.1 a.2)
theorem Qwd (ks l : List Int) (w : Span)  : K3 70 [.sl 1 (ks.map eI), .sl 1 (l.map eI), .ag (Qan w)] = (Qje (ks, l, w), .i (Qe3 l w ks)) := h70 ks l w
end Go.C06
set_option maxRecDepth 8000
namespace Go.C06
open Go.Fam Go.Proofs
def rc64 : RC := (.seq (.reg false [(cX 5 0), (cX 9 4), (cQ 10 [] (.mv (kB false)))]) (.keep [1,2,3,5,9] (.seq (.seq (.reg false [(cMv 12 3), (cC 13 .eql 12 0)]) (.keep [1,2,3,5,9,13] (.cond (.t 13) (.seq (.reg false [(cMv 14 1), (cMv 15 2), (cLd 16 9 true 2), (cQ 17 [14,15,16] (.call (kF 70) [(.t 14), (.t 15), (.t 16)])), (cMv 18 1), (cLn 19 18), (cB 20 .eql 17 19), (cMv 10 20)]) .ret) .skip))) (.keep [1,2,3,5,9] (.seq (.seq (.reg false [(cI 11 1)]) (.keep [1,2,3,5,9,11] (.block 0 (.loop [1,2,3,5,9,11] (some 0) (.seq (.seq (.reg false [(cLd 21 5 true 6), (cMv 22 11), (cMv 23 2), (cLn 24 23), (cQ 25 [21,22,24] (.call (kF 37) [(.t 21), (.t 22), (.t 24)]))]) (.keep [1,2,3,5,9,11,25] (.cond (.t 25) .skip (.exit 0)))) (.keep [1,2,3,5,9,11] (.seq (.block 1 (.seq (.any false 3 [⟨(cLd 28 5 true 6), [], []⟩, ⟨(cMv 29 1), [], []⟩, ⟨⟨(some 30), none, [], (some 0), .w (.bso 1 0 [(.i 0)] [])⟩, [0,1], []⟩, ⟨(cMv 31 2), [2], []⟩, ⟨⟨(some 32), none, [30,31], (some 1), .w (.app 1 (.t 30) (.t 31))⟩, [0,1], [2,3]⟩, ⟨(cMv 33 11), [2,4], []⟩, ⟨(cQ 34 [33] (.bsl 1 1 [(.i 0)] [(0,1, (.t 33))])), [2,4], [5]⟩, ⟨⟨(some 35), none, [32,34], (some 2), .w (.app 1 (.t 32) (.t 34))⟩, [0,1], [4,2,3,6,5]⟩, ⟨(cMv 36 3), [2,4,7], []⟩, ⟨(cC 37 .sub 36 1), [2,4,7], [8]⟩, ⟨(cLd 38 9 true 2), [2,4,7], []⟩, ⟨(cQ 39 [28,29,35,37,38] (.call (kF 64) [(.t 28), (.t 29), (.t 35), (.t 37), (.t 38)])), [], [0,1,7,4,2,3,6,5,9,8,10]⟩]) (.keep [1,2,3,5,9,11,39] (.cond (.t 39) (.seq (.reg false [(cQ 10 [] (.mv (kB true)))]) .ret) .skip)))) (.drp 0 (.keep [1,2,3,5,9,11] (.reg false [(cMv 26 11), (cC 27 .add 26 1), (cMv 11 27)])))))))))) (.keep [] (.seq (.reg false [(cQ 10 [] (.mv (kB false)))]) .ret)))))))
def pu64 : List Nat := [5,9,34]
def rs64 : List RV := [.t 10]
theorem cc64 : CCx Try.prog Try.f64 pu64 rc64 := by unfold CCx; kernel_rfl
theorem cb64 : CBx Try.f64 := by unfold CBx; kernel_rfl
theorem cs64 : CSx Try.prog Try.f64 rs64 := by unfold CSx; kernel_rfl
theorem cn64 : 5 ≤ Try.f64.ntmps := by decide
def rc65 : RC := (.seq (.reg false [(cX 6 0), (cX 11 5), (cQ 12 [] (.mv (kB false)))]) (.keep [1,2,3,4,6,11] (.seq (.seq (.reg false [(cMv 14 1), (cFa 15 11 0), (cLd 16 15 false 1), (cFa 17 11 1), (cLd 18 17 false 1), (cQ 19 [14,16,18] (.call (kF 56) [(.t 14), (.t 16), (.t 18)]))]) (.keep [1,2,3,4,6,11,19] (.cond (.t 19) (.seq (.reg false [(cQ 12 [] (.mv (kB true)))]) .ret) .skip))) (.keep [1,2,3,4,6,11] (.seq (.seq (.reg false [(cI 13 1)]) (.keep [1,2,3,4,6,11,13] (.block 0 (.loop [1,2,3,4,6,11,13] none (.seq (.seq (.reg true [(cMv 20 2), (cC 21 .gtr 20 0), (cMv 22 21), (gQ 23 22 true [6] (.ld true 6 (.t 6))), (gMv 24 22 true 13), (gMv 25 22 true 3), (gQ 26 22 true [23,24,25] (.call (kF 37) [(.t 23), (.t 24), (.t 25)])), (cQ 27 [22,26] (.pick (.t 22) (.t 26) (kB false)))]) (.keep [1,2,3,4,6,11,13,27] (.cond (.t 27) .skip (.exit 0)))) (.keep [1,2,3,4,6,11,13] (.seq (.block 1 (.seq (.reg false [(cLd 30 6 true 6), (cMv 31 1), (cMv 32 2), (cMv 33 3), (cMv 34 4), (cLd 35 11 true 2), (cMv 36 13), (cQ 37 [30,31,32,33,34,35,36] (.call (kF 41) [(.t 30), (.t 31), (.t 32), (.t 33), (.t 34), (.t 35), (.t 36)]))]) (.keep [1,2,3,4,6,11,13,37] (.cond (.t 37) (.seq (.reg false [(cQ 12 [] (.mv (kB true)))]) .ret) .skip)))) (.keep [1,2,3,4,6,11,13] (.reg false [(cMv 28 13), (cC 29 .add 28 1), (cMv 13 29)]))))))))) (.keep [] (.seq (.reg false [(cQ 12 [] (.mv (kB false)))]) .ret)))))))
def pu65 : List Nat := [6,11]
def rs65 : List RV := [.t 12]
theorem cc65 : CCx Try.prog Try.f65 pu65 rc65 := by unfold CCx; kernel_rfl
theorem cb65 : CBx Try.f65 := by unfold CBx; kernel_rfl
theorem cs65 : CSx Try.prog Try.f65 rs65 := by unfold CSx; kernel_rfl
theorem cn65 : 6 ≤ Try.f65.ntmps := by decide
def rc41 : RC := (.seq (.reg false [(cX 7 0), (cX 12 5), (cQ 14 [] (.mv (kB false)))]) (.keep [1,2,3,4,6,7,12] (.seq (.seq (.reg false [(cMv 18 6), (cFa 19 7 0), (cFa 20 19 0), (cLd 21 20 false 1), (cQ 22 [18,21] (.call (kF 38) [(.t 18), (.t 21)])), (cMv 15 22)]) (.keep [1,2,3,4,6,7,12,15] (.block 0 (.loop [1,2,3,4,6,7,12,15] none (.seq (.seq (.reg false [(cMv 23 15), (cMv 24 6), (cFa 25 7 0), (cFa 26 25 1), (cLd 27 26 false 1), (cQ 28 [24,27] (.call (kF 38) [(.t 24), (.t 27)])), (cB 29 .leq 23 28)]) (.keep [1,2,3,4,6,7,12,15,29] (.cond (.t 29) .skip (.exit 0)))) (.keep [1,2,3,4,6,7,12,15] (.seq (.block 1 (.seq (.reg false [(cQ 16 [] (.mv (.k (.z 1))))]) (.keep [1,2,3,4,6,7,12,15,16] (.seq (.seq (.reg false [(cI 17 0)]) (.keep [1,2,3,4,6,7,12,15,16,17] (.block 2 (.own 16 1 (.loop [1,2,3,4,6,7,12,15,16,17] none (.seq (.seq (.reg false [(cMv 32 17), (cMv 33 4), (cLn 34 33), (cB 35 .lss 32 34)]) (.keep [1,2,3,4,6,7,12,15,16,17,35] (.cond (.t 35) .skip (.exit 2)))) (.keep [1,2,3,4,6,7,12,15,16,17] (.seq (.block 3 (.seq (.reg false [(cMv 38 6), (cMv 39 4), (cMv 40 17), (cA 41 1 39 40), (cLd 42 41 false 1), (cQ 43 [38,42] (.call (kF 38) [(.t 38), (.t 42)])), (cMv 44 15), (cB 45 .eql 43 44)]) (.keep [1,2,3,4,6,7,12,15,16,17,45] (.cond (.t 45) (.reg false [(cMv 46 16), (cMv 47 4), (cMv 48 17), (cA 49 1 47 48), (cLd 50 49 false 1), (cQ 51 [50] (.bsl 1 1 [(.i 0)] [(0,1, (.t 50))])), ⟨(some 52), none, [46,51], none, .w (.app 1 (.t 46) (.t 51))⟩, (cMv 16 52)]) .skip)))) (.keep [1,2,3,4,6,7,12,15,16,17] (.reg false [(cMv 36 17), (cC 37 .add 36 1), (cMv 17 37)])))))))))) (.keep [1,2,3,4,6,7,12,15,16] (.seq (.reg true [(cMv 53 16), (cLn 54 53), (cC 55 .gtr 54 0), (cMv 56 55), (gQ 57 56 true [7] (.ld true 6 (.t 7))), (gMv 58 56 true 1), (gMv 59 56 true 6), (gQ 60 56 true [58,59] (.bin .add (.t 58) (.t 59))), (gMv 61 56 true 15), (gQ 62 56 true [60,61] (.bin .sub (.t 60) (.t 61))), (gMv 63 56 true 2), (gQ 64 56 true [63] (.bin .sub (.t 63) (kI 1))), (gMv 65 56 true 3), (gQ 66 56 true [65] (.bin .add (.t 65) (kI 1))), (gMv 67 56 true 16), (gQ 68 56 true [12] (.ld true 2 (.t 12))), (gQ 69 56 true [57,62,64,66,67,68] (.call (kF 65) [(.t 57), (.t 62), (.t 64), (.t 66), (.t 67), (.t 68)])), (gQ 70 56 true [69] (.not (.t 69))), (cQ 71 [56,70] (.pick (.t 56) (.t 70) (kB false)))]) (.keep [1,2,3,4,6,7,12,15,71] (.cond (.t 71) (.seq (.reg false [(cQ 14 [] (.mv (kB false)))]) .ret) .skip)))))))) (.keep [1,2,3,4,6,7,12,15] (.drp 0 (.reg false [(cMv 30 15), (cC 31 .add 30 1), (cMv 15 31)])))))))))) (.keep [] (.seq (.reg false [(cQ 14 [] (.mv (kB true)))]) .ret)))))
def pu41 : List Nat := [7,12,51]
def rs41 : List RV := [.t 14]
theorem cc41 : CCx Try.prog Try.f41 pu41 rc41 := by unfold CCx; kernel_rfl
theorem cb41 : CBx Try.f41 := by unfold CBx; kernel_rfl
theorem cs41 : CSx Try.prog Try.f41 rs41 := by unfold CSx; kernel_rfl
theorem cn41 : 7 ≤ Try.f41.ntmps := by decide
end Go.C06
set_option linter.unusedSimpArgs false
set_option linter.unusedVariables false
namespace Go.C06
open Go.Fam Go.Proofs
structure D64 where
 c : Cane
 ks : List Int
 f : List Int
 n : Nat
 w : Span
def e64 (a : D64) : List V := [.ag (Qa8 a.c), .sl 1 (a.ks.map eI), .sl 1 (a.f.map eI), .i a.n, .ag (Qan a.w)]
def d64 : List V → D64 | [.ag c, .sl _ ks, .sl _ f, .i n, .ag w] => ⟨Qdt c, ks.map dI, f.map dI, n.toNat, Qey w⟩ | _ => ⟨Qdt [], [], [], 0, Qey []⟩
theorem Qux (a : D64) : d64 (e64 a) = a := by obtain ⟨c, ks, f, n, w⟩ := a; simp [d64, e64, Qeb, Qfg, Function.comp_def, Qig]
structure Ok64 (a : D64) : Prop where
 c : OkC a.c
 ks : a.ks.length ≤ 1000 ∧ ∀ k ∈ a.ks, tame 1000 k
 f : ∀ x ∈ a.f, 1 ≤ x ∧ x ≤ 90
 n : a.f.length + a.n ≤ 50
noncomputable def G64 (k : Nat) : Gam := K3.ext 64 (fnG e64 d64 (fun a => Ok64 a ∧ a.n = k) (fun a => Qdi a.c a.ks a.w a.n a.f) .b)
theorem q64 (k : Nat) (c : Cane) (ks f : List Int) (n : Int) (w : Span) (hn : 0 ≤ n) : G64 k 64 [.ag (Qa8 c), .sl 1 (ks.map eI), .sl 1 (f.map eI), .i n, .ag (Qan w)] = (Ok64 ⟨c, ks, f, n.toNat, w⟩ ∧ n.toNat = k, .b (Qdi c ks w n.toNat f)) := by
 have := (show G64 k 64 _ = fnG e64 d64 (fun a => Ok64 a ∧ a.n = k) (fun a => Qdi a.c a.ks a.w a.n a.f) .b (e64 ⟨c, ks, f, n.toNat, w⟩) from rfl).trans (Qbv _ (Qux _))
 have e : ((n.toNat : Nat) : Int) = n := by omega
 simp only [e64, e] at this
 exact this
theorem Qmy (k : Nat) (c : Cane) (b i : Int)  : (G64 k) 37 [.ag (Qa8 c), .i b, .i i] = (Qek c i, .b (Qfm c b i)) := h37 c b i
set_option maxHeartbeats 2000000 in
theorem W64 : ∀ (n : Nat) (c : Cane) (ks f : List Int) (w : Span), Ok64 ⟨c, ks, f, n, w⟩ → Qak Try.prog 64 (e64 ⟨c, ks, f, n, w⟩) (.b (Qdi c ks w n f)) := by
 intro n
 induction n with
 | zero =>
  intro c ks f w h
  refine Qah okK3 hmix Try.func64 cb64 cc64 cs64 cn64 ?_
  have g1 := Qwd ks f w
  unfold Qan at g1
  have hm : Qje (ks, f, w) := ⟨⟨by have := h.n; simp only at this; show f.length ≤ 100; omega, fun x hx => by have := h.f x hx; unfold tame; omega⟩, h.ks⟩
  simp only [rc64, rs64, e64, Xa, g1, hm, Qdi, Qdf, Qag, Qaa, Qb4, Qab, Qal, Qbq, Qac, Qaq, Qaf, Qa6, Qbu, Qc1, Qbh, Qbg, Qc7, Qc5, Qc8, Qc4, Qbx, Qca, Qbj, Qbw, Qc0, Qby, Qc2, Qc6, noGo, Qbs, ↓Qb0, ↓Qbe, rnQ, rndQ, updL, Qd4, yres, Qd5, ghO, Qcw, ocV, effO, nidQ, plO, plQ, plB, Qd0, Qbr, Qcv, Qcu, Qb3, optL, upTo, rids, Qcd, Qco, Qcn, Qcq, Zy, Z3, Qce, Qbt, Qbn, shV, shL, shB, Qad, Qbo, swH, sw, renV, renL, renB, cutH, putB, lkpV, keyL, entV, Qd7, keyV, Qaz, endO, endK, endI, Qai, Qao, Qa5, Qa1, Qcb, Fam.step, Qaj, Qbm, Qbl, Qav, Qb9, ug, runX, Qde, eff, Qb2, fpR, fpQ, fpV, Qbp, hits, putB, nv, sv, Qc9, evO, opv, qv, Qam, Qbd, Qbc, binV, ldV, iadV, lenV, curG, slcV, slxV, Qd1, Qb1, Qae, putAt, Qat, Qas, V.cells, Qax, Qaw, Qb8, Qa9, Qa4, flat, Qcc, kp, cutV, cutL, cutB, Qa2, Qap, Qa0, Qa3, ↓reduceIte, Nat.reduceEqDiff, Nat.reduceAdd, Nat.reduceSub, Nat.reduceMul, Nat.reduceLT, Nat.reduceLeDiff, Nat.reduceBEq, Int.reduceNeg, Int.reduceToNat, Zs, Zw, Int.reduceLT, Int.reduceLE, Int.reduceAdd, Int.reduceSub, Int.reduceMul, Int.reduceEq, Qd, Qe, Qy, Qx, Qc, Qf, Qh, Qq, Zl, Qg, Q8, Qz, Qm, Z4, Qw, Qt, Qj, Qi, Qo, Qu, Qs, Za, Q0, Zc, Xc, Qp, Q6, Zq, Zr, Zd, Zo, endQ, rvs, rv1, resV, vw_i, vw_b, vw_u, Qdh, vw_z, Qb6, Qd6, Qb5, Qbz, Qct, Qda, Qcx, zipA, Z0, Q4, beq_self_eq_true, Qk, Z5, Xe.injEq, V.i.injEq, V.b.injEq, Qr, Q3, Zx, Ze, Zt, Qn, Zv, Xb, Z6, Zk, Zn, Qb, Zf, decide_true, decide_false, decide_eq_true_eq, decide_eq_false_iff_not, true_and, and_true, and_self, false_and, and_false, forall_const, false_implies, true_implies, implies_true, reduceCtorEq, ite_true, ite_false, not_true_eq_false, not_false_eq_true, ne_eq, Q7, Zz, Z1, Zu, Zj, Q9, beq_true, beq_false, Xd, Zi, Q5, Qcm, Qcp, Zb, Zg, Z2, imp_self, Ql, Q2, Qa, Q1, Zp, Zm, Classical.not_not, Zh, Qdg, Qan, eBent, Qa8, Qci, eBox, Qba, eI, eIs, Qdd, Qdc]
  rw [decide_eq_decide]
  omega
 | succ n ih =>
  intro c ks f w h
  have hok : GOk Try.prog (G64 n) := okK3.ext (f := 64) (fun a w => Try.call64 a w) (Qbf fun a h => by
   obtain ⟨c, ks, f, m, w⟩ := a
   obtain ⟨h1, h2⟩ := h
   simp only at h2
   subst h2
   exact ih c ks f w h1)
  refine Qah hok hmix Try.func64 cb64 cc64 cs64 cn64 ?_
  have hC : OkC c := h.c
  have hfx : ∀ x ∈ f, 1 ≤ x ∧ x ≤ 90 := h.f
  have hfn : f.length + (n + 1) ≤ 50 := h.n
  have hks : ks.length ≤ 1000 ∧ ∀ k ∈ ks, tame 1000 k := h.ks
  have hn0 : ¬ ((n : Int) + 1 = 0) := by omega
  have hml := Qja c f.length
  have hmo := hC.most (i := (f.length : Int)) (by unfold tame; omega)
  simp only [rc64, rs64, e64, hn0, Z7, Z8, Qdf, Qag, Qaa, Qb4, Qab, Qal, Qbq, Qac, Qaq, Qaf, Qa6, Qbu, Qc1, Qbh, Qbg, Qc7, Qc5, Qc8, Qc4, Qbx, Qca, Qbj, Qbw, Qc0, Qby, Qc2, Qc6, noGo, Qbs, ↓Qb0, ↓Qbe, rnQ, rndQ, updL, Qd4, yres, Qd5, ghO, Qcw, ocV, effO, nidQ, plO, plQ, plB, Qd0, Qbr, Qcv, Qcu, Qb3, optL, upTo, rids, Qcd, Qco, Qcn, Qcq, Zy, Z3, Qce, Qbt, Qbn, shV, shL, shB, Qad, Qbo, swH, sw, renV, renL, renB, cutH, putB, lkpV, keyL, entV, Qd7, keyV, Qaz, endO, endK, endI, Qai, Qao, Qa5, Qa1, Qcb, Fam.step, Qaj, Qbm, Qbl, Qav, Qb9, ug, runX, Qde, eff, Qb2, fpR, fpQ, fpV, Qbp, hits, putB, nv, sv, Qc9, evO, opv, qv, Qam, Qbd, Qbc, binV, ldV, iadV, lenV, curG, slcV, slxV, Qd1, Qb1, Qae, putAt, Qat, Qas, V.cells, Qax, Qaw, Qb8, Qa9, Qa4, flat, Qcc, kp, cutV, cutL, cutB, Qa2, Qap, Qa0, Qa3, ↓reduceIte, Nat.reduceEqDiff, Nat.reduceAdd, Nat.reduceSub, Nat.reduceMul, Nat.reduceLT, Nat.reduceLeDiff, Nat.reduceBEq, Int.reduceNeg, Int.reduceToNat, Zs, Zw, Int.reduceLT, Int.reduceLE, Int.reduceAdd, Int.reduceSub, Int.reduceMul, Int.reduceEq, Qd, Qe, Qy, Qx, Qc, Qf, Qh, Qq, Zl, Qg, Q8, Qz, Qm, Z4, Qw, Qt, Qj, Qi, Qo, Qu, Qs, Za, Q0, Zc, Xc, Qp, Q6, Zq, Zr, Zd, Zo, endQ, rvs, rv1, resV, vw_i, vw_b, vw_u, Qdh, vw_z, Qb6, Qd6, Qb5, Qbz, Qct, Qda, Qcx, zipA, Z0, Q4, beq_self_eq_true, Qk, Z5, Xe.injEq, V.i.injEq, V.b.injEq, Qr, Q3, Zx, Ze, Zt, Qn, Zv, Xb, Z6, Zk, Zn, Qb, Zf, decide_true, decide_false, decide_eq_true_eq, decide_eq_false_iff_not, true_and, and_true, and_self, false_and, and_false, forall_const, false_implies, true_implies, implies_true, reduceCtorEq, ite_true, ite_false, not_true_eq_false, not_false_eq_true, ne_eq, Q7, Zz, Z1, Zu, Zj, Q9, beq_true, beq_false, Xd, Zi, Q5, Qcm, Qcp, Zb, Zg, Z2, imp_self, Ql, Q2, Qa, Q1, Zp, Zm, Classical.not_not, Zh, Qdg, Qan, eBent, Qa8, Qci, eBox, Qba, eI, eIs, Qdd, Qdc]
  refine Qd9 (Qdk c f.length).toNat (fun i => ⟨lkp [(1, .sl 1 (ks.map eI)), (2, .sl 1 (f.map eI)), (3, .i ((n : Int) + 1)), (5, .pa (Qa8 c)), (9, .pa (Qan w)), (11, .i (1 + (i : Int)))], []⟩) (fun i => ∀ j : Nat, j < i → Qdi c ks w n (f ++ [1 + (j : Int)]) = false) ?_ ?_ ?_ ?_
  ·simp only [Xa, X1, Qdf, Qag, Qaa, Qb4, Qab, Qal, Qbq, Qac, Qaq, Qaf, Qa6, Qbu, Qc1, Qbh, Qbg, Qc7, Qc5, Qc8, Qc4, Qbx, Qca, Qbj, Qbw, Qc0, Qby, Qc2, Qc6, noGo, Qbs, ↓Qb0, ↓Qbe, rnQ, rndQ, updL, Qd4, yres, Qd5, ghO, Qcw, ocV, effO, nidQ, plO, plQ, plB, Qd0, Qbr, Qcv, Qcu, Qb3, optL, upTo, rids, Qcd, Qco, Qcn, Qcq, Zy, Z3, Qce, Qbt, Qbn, shV, shL, shB, Qad, Qbo, swH, sw, renV, renL, renB, cutH, putB, lkpV, keyL, entV, Qd7, keyV, Qaz, endO, endK, endI, Qai, Qao, Qa5, Qa1, Qcb, Fam.step, Qaj, Qbm, Qbl, Qav, Qb9, ug, runX, Qde, eff, Qb2, fpR, fpQ, fpV, Qbp, hits, putB, nv, sv, Qc9, evO, opv, qv, Qam, Qbd, Qbc, binV, ldV, iadV, lenV, curG, slcV, slxV, Qd1, Qb1, Qae, putAt, Qat, Qas, V.cells, Qax, Qaw, Qb8, Qa9, Qa4, flat, Qcc, kp, cutV, cutL, cutB, Qa2, Qap, Qa0, Qa3, ↓reduceIte, Nat.reduceEqDiff, Nat.reduceAdd, Nat.reduceSub, Nat.reduceMul, Nat.reduceLT, Nat.reduceLeDiff, Nat.reduceBEq, Int.reduceNeg, Int.reduceToNat, Zs, Zw, Int.reduceLT, Int.reduceLE, Int.reduceAdd, Int.reduceSub, Int.reduceMul, Int.reduceEq, Qd, Qe, Qy, Qx, Qc, Qf, Qh, Qq, Zl, Qg, Q8, Qz, Qm, Z4, Qw, Qt, Qj, Qi, Qo, Qu, Qs, Za, Q0, Zc, Xc, Qp, Q6, Zq, Zr, Zd, Zo, endQ, rvs, rv1, resV, vw_i, vw_b, vw_u, Qdh, vw_z, Qb6, Qd6, Qb5, Qbz, Qct, Qda, Qcx, zipA, Z0, Q4, beq_self_eq_true, Qk, Z5, Xe.injEq, V.i.injEq, V.b.injEq, Qr, Q3, Zx, Ze, Zt, Qn, Zv, Xb, Z6, Zk, Zn, Qb, Zf, decide_true, decide_false, decide_eq_true_eq, decide_eq_false_iff_not, true_and, and_true, and_self, false_and, and_false, forall_const, false_implies, true_implies, implies_true, reduceCtorEq, ite_true, ite_false, not_true_eq_false, not_false_eq_true, ne_eq, Q7, Zz, Z1, Zu, Zj, Q9, beq_true, beq_false, Xd, Zi, Q5, Qcm, Qcp, Zb, Zg, Z2, imp_self, Ql, Q2, Qa, Q1, Zp, Zm, Classical.not_not, Zh, Qdg, Qan, eBent, Qa8, Qci, eBox, Qba, eI, eIs, Qdd, Qdc]
  ·intro j hj; omega
  ·intro i hi hc
   have g1 := Qmy n c (1 + (i : Int)) f.length
   have g2 := q64 n c ks (f ++ [1 + (i : Int)]) n w (by omega)
   unfold Qa8 at g1 g2
   unfold Qan at g2
   have hp : Qfm c (1 + (i : Int)) f.length = true := (Qg4 hC _ _).2 (by omega)
   have h1 : inI (1 + (i : Int) + 1) ∧ inI ((n : Int) + 1 - 1) := by unfold inI; omega
   have h2 : (n : Int) + 1 - 1 = n := by omega
   have h64 : Ok64 ⟨c, ks, f ++ [1 + (i : Int)], n, w⟩ := ⟨hC, hks, fun x hx => by
    rcases List.mem_append.1 hx with hx | hx
    ·exact hfx x hx
    ·rw [List.mem_singleton] at hx; omega, by simp only [Xr, Qc, Qf]; omega⟩
   rw [Q2] at g2
   have f1 : Qcy (0 + f.length) := by unfold Qcy; omega
   have f2 : Qcy (f.length + 1) := by unfold Qcy; omega
   have f3 : Qcy f.length := by unfold Qcy; omega
   have f4 : inI (n : Int) := by unfold inI; omega
   have hck : Qe9 1 ((f.map eI).flatten ++ [V.i (1 + (i : Int))]) 0 (f.length + 1) = (f ++ [1 + (i : Int)]).map eI := by
    have := Qka (f ++ [1 + (i : Int)])
    simpa [eI] using this
   simp only [g1, hmo, hp, h1, h2, g2, h64, f1, f2, f3, f4, Qpt, hck, Xs, X2, Xo, vw_I, X7, Xr, Qjb, Qf3, Z7, Z8, Qdf, Qag, Qaa, Qb4, Qab, Qal, Qbq, Qac, Qaq, Qaf, Qa6, Qbu, Qc1, Qbh, Qbg, Qc7, Qc5, Qc8, Qc4, Qbx, Qca, Qbj, Qbw, Qc0, Qby, Qc2, Qc6, noGo, Qbs, ↓Qb0, ↓Qbe, rnQ, rndQ, updL, Qd4, yres, Qd5, ghO, Qcw, ocV, effO, nidQ, plO, plQ, plB, Qd0, Qbr, Qcv, Qcu, Qb3, optL, upTo, rids, Qcd, Qco, Qcn, Qcq, Zy, Z3, Qce, Qbt, Qbn, shV, shL, shB, Qad, Qbo, swH, sw, renV, renL, renB, cutH, putB, lkpV, keyL, entV, Qd7, keyV, Qaz, endO, endK, endI, Qai, Qao, Qa5, Qa1, Qcb, Fam.step, Qaj, Qbm, Qbl, Qav, Qb9, ug, runX, Qde, eff, Qb2, fpR, fpQ, fpV, Qbp, hits, putB, nv, sv, Qc9, evO, opv, qv, Qam, Qbd, Qbc, binV, ldV, iadV, lenV, curG, slcV, slxV, Qd1, Qb1, Qae, putAt, Qat, Qas, V.cells, Qax, Qaw, Qb8, Qa9, Qa4, flat, Qcc, kp, cutV, cutL, cutB, Qa2, Qap, Qa0, Qa3, ↓reduceIte, Nat.reduceEqDiff, Nat.reduceAdd, Nat.reduceSub, Nat.reduceMul, Nat.reduceLT, Nat.reduceLeDiff, Nat.reduceBEq, Int.reduceNeg, Int.reduceToNat, Zs, Zw, Int.reduceLT, Int.reduceLE, Int.reduceAdd, Int.reduceSub, Int.reduceMul, Int.reduceEq, Qd, Qe, Qy, Qx, Qc, Qf, Qh, Qq, Zl, Qg, Q8, Qz, Qm, Z4, Qw, Qt, Qj, Qi, Qo, Qu, Qs, Za, Q0, Zc, Xc, Qp, Q6, Zq, Zr, Zd, Zo, endQ, rvs, rv1, resV, vw_i, vw_b, vw_u, Qdh, vw_z, Qb6, Qd6, Qb5, Qbz, Qct, Qda, Qcx, zipA, Z0, Q4, beq_self_eq_true, Qk, Z5, Xe.injEq, V.i.injEq, V.b.injEq, Qr, Q3, Zx, Ze, Zt, Qn, Zv, Xb, Z6, Zk, Zn, Qb, Zf, decide_true, decide_false, decide_eq_true_eq, decide_eq_false_iff_not, true_and, and_true, and_self, false_and, and_false, forall_const, false_implies, true_implies, implies_true, reduceCtorEq, ite_true, ite_false, not_true_eq_false, not_false_eq_true, ne_eq, Q7, Zz, Z1, Zu, Zj, Q9, beq_true, beq_false, Xd, Zi, Q5, Qcm, Qcp, Zb, Zg, Z2, imp_self, Ql, Q2, Qa, Q1, Zp, Zm, Classical.not_not, Zh, Qdg, Qan, eBent, Qa8, Qci, eBox, Qba, eI, eIs, Qdd, Qdc]
   refine ⟨fun he => ?_, fun he => ⟨fun j hj => ?_, ?_⟩⟩
   ·rw [Qdi]
    symm
    rw [Z9]
    exact ⟨_, Qe5.2 (by omega), he⟩
   ·by_cases hji : j < i
    ·exact hc j hji
    ·have : j = i := by omega
     subst this
     exact he
   ·rw [Xz]
  ·intro hc
   have hp : Qfm c (1 + ((Qdk c f.length).toNat : Int)) f.length = false := by
    rw [Bool.eq_false_iff]
    intro h2
    have := (Qg4 hC _ _).1 h2
    omega
   have g1 := Qmy n c (1 + ((Qdk c f.length).toNat : Int)) f.length
   unfold Qa8 at g1
   have he : Qdi c ks w (n + 1) f = false := by
    rw [Qdi, X3]
    intro b hb
    rw [Qe5] at hb
    have := hc (b - 1).toNat (by omega)
    rw [show 1 + (((b - 1).toNat : Nat) : Int) = b by omega] at this
    rw [this]; simp
   simp only [g1, hmo, hp, he, Qdf, Qag, Qaa, Qb4, Qab, Qal, Qbq, Qac, Qaq, Qaf, Qa6, Qbu, Qc1, Qbh, Qbg, Qc7, Qc5, Qc8, Qc4, Qbx, Qca, Qbj, Qbw, Qc0, Qby, Qc2, Qc6, noGo, Qbs, ↓Qb0, ↓Qbe, rnQ, rndQ, updL, Qd4, yres, Qd5, ghO, Qcw, ocV, effO, nidQ, plO, plQ, plB, Qd0, Qbr, Qcv, Qcu, Qb3, optL, upTo, rids, Qcd, Qco, Qcn, Qcq, Zy, Z3, Qce, Qbt, Qbn, shV, shL, shB, Qad, Qbo, swH, sw, renV, renL, renB, cutH, putB, lkpV, keyL, entV, Qd7, keyV, Qaz, endO, endK, endI, Qai, Qao, Qa5, Qa1, Qcb, Fam.step, Qaj, Qbm, Qbl, Qav, Qb9, ug, runX, Qde, eff, Qb2, fpR, fpQ, fpV, Qbp, hits, putB, nv, sv, Qc9, evO, opv, qv, Qam, Qbd, Qbc, binV, ldV, iadV, lenV, curG, slcV, slxV, Qd1, Qb1, Qae, putAt, Qat, Qas, V.cells, Qax, Qaw, Qb8, Qa9, Qa4, flat, Qcc, kp, cutV, cutL, cutB, Qa2, Qap, Qa0, Qa3, ↓reduceIte, Nat.reduceEqDiff, Nat.reduceAdd, Nat.reduceSub, Nat.reduceMul, Nat.reduceLT, Nat.reduceLeDiff, Nat.reduceBEq, Int.reduceNeg, Int.reduceToNat, Zs, Zw, Int.reduceLT, Int.reduceLE, Int.reduceAdd, Int.reduceSub, Int.reduceMul, Int.reduceEq, Qd, Qe, Qy, Qx, Qc, Qf, Qh, Qq, Zl, Qg, Q8, Qz, Qm, Z4, Qw, Qt, Qj, Qi, Qo, Qu, Qs, Za, Q0, Zc, Xc, Qp, Q6, Zq, Zr, Zd, Zo, endQ, rvs, rv1, resV, vw_i, vw_b, vw_u, Qdh, vw_z, Qb6, Qd6, Qb5, Qbz, Qct, Qda, Qcx, zipA, Z0, Q4, beq_self_eq_true, Qk, Z5, Xe.injEq, V.i.injEq, V.b.injEq, Qr, Q3, Zx, Ze, Zt, Qn, Zv, Xb, Z6, Zk, Zn, Qb, Zf, decide_true, decide_false, decide_eq_true_eq, decide_eq_false_iff_not, true_and, and_true, and_self, false_and, and_false, forall_const, false_implies, true_implies, implies_true, reduceCtorEq, ite_true, ite_false, not_true_eq_false, not_false_eq_true, ne_eq, Q7, Zz, Z1, Zu, Zj, Q9, beq_true, beq_false, Xd, Zi, Q5, Qcm, Qcp, Zb, Zg, Z2, imp_self, Ql, Q2, Qa, Q1, Zp, Zm, Classical.not_not, Zh, Qdg, Qan, eBent, Qa8, Qci, eBox, Qba, eI, eIs, Qdd, Qdc]
noncomputable def K4 : Gam := K3.ext 64 (fnG e64 d64 Ok64 (fun a => Qdi a.c a.ks a.w a.n a.f) .b)
theorem okK4 : GOk Try.prog K4 := okK3.ext (f := 64) (fun a w => Try.call64 a w) (Qbf fun a h => W64 a.n a.c a.ks a.f a.w h)
theorem k64 (c : Cane) (ks f : List Int) (n : Nat) (w : Span) : K4 64 [.ag (Qa8 c), .sl 1 (ks.map eI), .sl 1 (f.map eI), .i n, .ag (Qan w)] = (Ok64 ⟨c, ks, f, n, w⟩, .b (Qdi c ks w n f)) :=
 (show K4 64 _ = fnG e64 d64 Ok64 (fun a => Qdi a.c a.ks a.w a.n a.f) .b (e64 ⟨c, ks, f, n, w⟩) from rfl).trans (Qbv _ (Qux _))
theorem Qwe (c : Cane) (l : List Int) (w : Span)  : K4 62 [.ag (Qa8 c), .sl 1 (l.map eI), .ag (Qan w)] = (True, .tp [.sl 1 ((stL c w l).map eI), .i (stE c w l)]) := h62 c l w
theorem W32 (c : Cane) (w : Span) : Qak Try.prog 32 [.ag (Qa8 c), .ag (Qan w)] (.tp [.i (fewR c w).1, .i (fewR c w).2]) := by
 refine Qah okK4 hmix Try.func32 cb32 cc32 cs32 cn32 ?_
 have g1 := Qwe c [] w
 unfold Qa8 Qan at g1
 simp only [Qdf, Qag, Qaa, Qb4, Qab, Qal, Qbq, Qac, Qaq, Qaf, Qa6, Qbu, Qc1, Qbh, Qbg, Qc7, Qc5, Qc8, Qc4, Qbx, Qca, Qbj, Qbw, Qc0, Qby, Qc2, Qc6, noGo, Qbs, ↓Qb0, ↓Qbe, rnQ, rndQ, updL, Qd4, yres, Qd5, ghO, Qcw, ocV, effO, nidQ, plO, plQ, plB, Qd0, Qbr, Qcv, Qcu, Qb3, optL, upTo, rids, Qcd, Qco, Qcn, Qcq, Zy, Z3, Qce, Qbt, Qbn, shV, shL, shB, Qad, Qbo, swH, sw, renV, renL, renB, cutH, putB, lkpV, keyL, entV, Qd7, keyV, Qaz, endO, endK, endI, Qai, Qao, Qa5, Qa1, Qcb, Fam.step, Qaj, Qbm, Qbl, Qav, Qb9, ug, runX, Qde, eff, Qb2, fpR, fpQ, fpV, Qbp, hits, putB, nv, sv, Qc9, evO, opv, qv, Qam, Qbd, Qbc, binV, ldV, iadV, lenV, curG, slcV, slxV, Qd1, Qb1, Qae, putAt, Qat, Qas, V.cells, Qax, Qaw, Qb8, Qa9, Qa4, flat, Qcc, kp, cutV, cutL, cutB, Qa2, Qap, Qa0, Qa3, ↓reduceIte, Nat.reduceEqDiff, Nat.reduceAdd, Nat.reduceSub, Nat.reduceMul, Nat.reduceLT, Nat.reduceLeDiff, Nat.reduceBEq, Int.reduceNeg, Int.reduceToNat, Zs, Zw, Int.reduceLT, Int.reduceLE, Int.reduceAdd, Int.reduceSub, Int.reduceMul, Int.reduceEq, Qd, Qe, Qy, Qx, Qc, Qf, Qh, Qq, Zl, Qg, Q8, Qz, Qm, Z4, Qw, Qt, Qj, Qi, Qo, Qu, Qs, Za, Q0, Zc, Xc, Qp, Q6, Zq, Zr, Zd, Zo, endQ, rvs, rv1, resV, vw_i, vw_b, vw_u, Qdh, vw_z, Qb6, Qd6, Qb5, Qbz, Qct, Qda, Qcx, zipA, Z0, Q4, beq_self_eq_true, Qk, Z5, Xe.injEq, V.i.injEq, V.b.injEq, Qr, Q3, Zx, Ze, Zt, Qn, Zv, Xb, Z6, Zk, Zn, Qb, Zf, decide_true, decide_false, decide_eq_true_eq, decide_eq_false_iff_not, true_and, and_true, and_self, false_and, and_false, forall_const, false_implies, true_implies, implies_true, reduceCtorEq, ite_true, ite_false, not_true_eq_false, not_false_eq_true, ne_eq, Q7, Zz, Z1, Zu, Zj, Q9, beq_true, beq_false, Xd, Zi, Q5, Qcm, Qcp, Zb, Zg, Z2, imp_self, Ql, Q2, Qa, Q1, Zp, Zm, Classical.not_not, Zh, Qdg, Qan, eBent, Qa8, Qci, eBox, Qba, eI, eIs, Qdd, Qdc] at g1
 simp only [rc32, rs32, g1, Qdf, Qag, Qaa, Qb4, Qab, Qal, Qbq, Qac, Qaq, Qaf, Qa6, Qbu, Qc1, Qbh, Qbg, Qc7, Qc5, Qc8, Qc4, Qbx, Qca, Qbj, Qbw, Qc0, Qby, Qc2, Qc6, noGo, Qbs, ↓Qb0, ↓Qbe, rnQ, rndQ, updL, Qd4, yres, Qd5, ghO, Qcw, ocV, effO, nidQ, plO, plQ, plB, Qd0, Qbr, Qcv, Qcu, Qb3, optL, upTo, rids, Qcd, Qco, Qcn, Qcq, Zy, Z3, Qce, Qbt, Qbn, shV, shL, shB, Qad, Qbo, swH, sw, renV, renL, renB, cutH, putB, lkpV, keyL, entV, Qd7, keyV, Qaz, endO, endK, endI, Qai, Qao, Qa5, Qa1, Qcb, Fam.step, Qaj, Qbm, Qbl, Qav, Qb9, ug, runX, Qde, eff, Qb2, fpR, fpQ, fpV, Qbp, hits, putB, nv, sv, Qc9, evO, opv, qv, Qam, Qbd, Qbc, binV, ldV, iadV, lenV, curG, slcV, slxV, Qd1, Qb1, Qae, putAt, Qat, Qas, V.cells, Qax, Qaw, Qb8, Qa9, Qa4, flat, Qcc, kp, cutV, cutL, cutB, Qa2, Qap, Qa0, Qa3, ↓reduceIte, Nat.reduceEqDiff, Nat.reduceAdd, Nat.reduceSub, Nat.reduceMul, Nat.reduceLT, Nat.reduceLeDiff, Nat.reduceBEq, Int.reduceNeg, Int.reduceToNat, Zs, Zw, Int.reduceLT, Int.reduceLE, Int.reduceAdd, Int.reduceSub, Int.reduceMul, Int.reduceEq, Qd, Qe, Qy, Qx, Qc, Qf, Qh, Qq, Zl, Qg, Q8, Qz, Qm, Z4, Qw, Qt, Qj, Qi, Qo, Qu, Qs, Za, Q0, Zc, Xc, Qp, Q6, Zq, Zr, Zd, Zo, endQ, rvs, rv1, resV, vw_i, vw_b, vw_u, Qdh, vw_z, Qb6, Qd6, Qb5, Qbz, Qct, Qda, Qcx, zipA, Z0, Q4, beq_self_eq_true, Qk, Z5, Xe.injEq, V.i.injEq, V.b.injEq, Qr, Q3, Zx, Ze, Zt, Qn, Zv, Xb, Z6, Zk, Zn, Qb, Zf, decide_true, decide_false, decide_eq_true_eq, decide_eq_false_iff_not, true_and, and_true, and_self, false_and, and_false, forall_const, false_implies, true_implies, implies_true, reduceCtorEq, ite_true, ite_false, not_true_eq_false, not_false_eq_true, ne_eq, Q7, Zz, Z1, Zu, Zj, Q9, beq_true, beq_false, Xd, Zi, Q5, Qcm, Qcp, Zb, Zg, Z2, imp_self, Ql, Q2, Qa, Q1, Zp, Zm, Classical.not_not, Zh, Qdg, Qan, eBent, Qa8, Qci, eBox, Qba, eI, eIs, Qdd, Qdc]
 refine ⟨fun h => ?_, fun h => ?_⟩
 ·have h0 : ¬ stE c w [] = 0 := h
  simp only [fewR, h0, Qdf, Qag, Qaa, Qb4, Qab, Qal, Qbq, Qac, Qaq, Qaf, Qa6, Qbu, Qc1, Qbh, Qbg, Qc7, Qc5, Qc8, Qc4, Qbx, Qca, Qbj, Qbw, Qc0, Qby, Qc2, Qc6, noGo, Qbs, ↓Qb0, ↓Qbe, rnQ, rndQ, updL, Qd4, yres, Qd5, ghO, Qcw, ocV, effO, nidQ, plO, plQ, plB, Qd0, Qbr, Qcv, Qcu, Qb3, optL, upTo, rids, Qcd, Qco, Qcn, Qcq, Zy, Z3, Qce, Qbt, Qbn, shV, shL, shB, Qad, Qbo, swH, sw, renV, renL, renB, cutH, putB, lkpV, keyL, entV, Qd7, keyV, Qaz, endO, endK, endI, Qai, Qao, Qa5, Qa1, Qcb, Fam.step, Qaj, Qbm, Qbl, Qav, Qb9, ug, runX, Qde, eff, Qb2, fpR, fpQ, fpV, Qbp, hits, putB, nv, sv, Qc9, evO, opv, qv, Qam, Qbd, Qbc, binV, ldV, iadV, lenV, curG, slcV, slxV, Qd1, Qb1, Qae, putAt, Qat, Qas, V.cells, Qax, Qaw, Qb8, Qa9, Qa4, flat, Qcc, kp, cutV, cutL, cutB, Qa2, Qap, Qa0, Qa3, ↓reduceIte, Nat.reduceEqDiff, Nat.reduceAdd, Nat.reduceSub, Nat.reduceMul, Nat.reduceLT, Nat.reduceLeDiff, Nat.reduceBEq, Int.reduceNeg, Int.reduceToNat, Zs, Zw, Int.reduceLT, Int.reduceLE, Int.reduceAdd, Int.reduceSub, Int.reduceMul, Int.reduceEq, Qd, Qe, Qy, Qx, Qc, Qf, Qh, Qq, Zl, Qg, Q8, Qz, Qm, Z4, Qw, Qt, Qj, Qi, Qo, Qu, Qs, Za, Q0, Zc, Xc, Qp, Q6, Zq, Zr, Zd, Zo, endQ, rvs, rv1, resV, vw_i, vw_b, vw_u, Qdh, vw_z, Qb6, Qd6, Qb5, Qbz, Qct, Qda, Qcx, zipA, Z0, Q4, beq_self_eq_true, Qk, Z5, Xe.injEq, V.i.injEq, V.b.injEq, Qr, Q3, Zx, Ze, Zt, Qn, Zv, Xb, Z6, Zk, Zn, Qb, Zf, decide_true, decide_false, decide_eq_true_eq, decide_eq_false_iff_not, true_and, and_true, and_self, false_and, and_false, forall_const, false_implies, true_implies, implies_true, reduceCtorEq, ite_true, ite_false, not_true_eq_false, not_false_eq_true, ne_eq, Q7, Zz, Z1, Zu, Zj, Q9, beq_true, beq_false, Xd, Zi, Q5, Qcm, Qcp, Zb, Zg, Z2, imp_self, Ql, Q2, Qa, Q1, Zp, Zm, Classical.not_not, Zh, Qdg, Qan, eBent, Qa8, Qci, eBox, Qba, eI, eIs, Qdd, Qdc]
 ·obtain ⟨h1, h2, h3, h4, h5, h6, h7⟩ := Qma h
  have hlen := Qe1 c h1
  have hff := Qn6 h1 h6 w
  simp only [h7, Qdf, Qag, Qaa, Qb4, Qab, Qal, Qbq, Qac, Qaq, Qaf, Qa6, Qbu, Qc1, Qbh, Qbg, Qc7, Qc5, Qc8, Qc4, Qbx, Qca, Qbj, Qbw, Qc0, Qby, Qc2, Qc6, noGo, Qbs, ↓Qb0, ↓Qbe, rnQ, rndQ, updL, Qd4, yres, Qd5, ghO, Qcw, ocV, effO, nidQ, plO, plQ, plB, Qd0, Qbr, Qcv, Qcu, Qb3, optL, upTo, rids, Qcd, Qco, Qcn, Qcq, Zy, Z3, Qce, Qbt, Qbn, shV, shL, shB, Qad, Qbo, swH, sw, renV, renL, renB, cutH, putB, lkpV, keyL, entV, Qd7, keyV, Qaz, endO, endK, endI, Qai, Qao, Qa5, Qa1, Qcb, Fam.step, Qaj, Qbm, Qbl, Qav, Qb9, ug, runX, Qde, eff, Qb2, fpR, fpQ, fpV, Qbp, hits, putB, nv, sv, Qc9, evO, opv, qv, Qam, Qbd, Qbc, binV, ldV, iadV, lenV, curG, slcV, slxV, Qd1, Qb1, Qae, putAt, Qat, Qas, V.cells, Qax, Qaw, Qb8, Qa9, Qa4, flat, Qcc, kp, cutV, cutL, cutB, Qa2, Qap, Qa0, Qa3, ↓reduceIte, Nat.reduceEqDiff, Nat.reduceAdd, Nat.reduceSub, Nat.reduceMul, Nat.reduceLT, Nat.reduceLeDiff, Nat.reduceBEq, Int.reduceNeg, Int.reduceToNat, Zs, Zw, Int.reduceLT, Int.reduceLE, Int.reduceAdd, Int.reduceSub, Int.reduceMul, Int.reduceEq, Qd, Qe, Qy, Qx, Qc, Qf, Qh, Qq, Zl, Qg, Q8, Qz, Qm, Z4, Qw, Qt, Qj, Qi, Qo, Qu, Qs, Za, Q0, Zc, Xc, Qp, Q6, Zq, Zr, Zd, Zo, endQ, rvs, rv1, resV, vw_i, vw_b, vw_u, Qdh, vw_z, Qb6, Qd6, Qb5, Qbz, Qct, Qda, Qcx, zipA, Z0, Q4, beq_self_eq_true, Qk, Z5, Xe.injEq, V.i.injEq, V.b.injEq, Qr, Q3, Zx, Ze, Zt, Qn, Zv, Xb, Z6, Zk, Zn, Qb, Zf, decide_true, decide_false, decide_eq_true_eq, decide_eq_false_iff_not, true_and, and_true, and_self, false_and, and_false, forall_const, false_implies, true_implies, implies_true, reduceCtorEq, ite_true, ite_false, not_true_eq_false, not_false_eq_true, ne_eq, Q7, Zz, Z1, Zu, Zj, Q9, beq_true, beq_false, Xd, Zi, Q5, Qcm, Qcp, Zb, Zg, Z2, imp_self, Ql, Q2, Qa, Q1, Zp, Zm, Classical.not_not, Zh, Qdg, Qan, eBent, Qa8, Qci, eBox, Qba, eI, eIs, Qdd, Qdc]
  refine Qd9 7 (fun n => ⟨lkp [(2, .pa (Qa8 c)), (3, .pa (Qan w)), (6, .sl 1 ((Qa7 c).map eI)), (8, .i n)], []⟩) (fun n => ∀ k, k < n → Qdi c (Qa7 c) w k [] = false) ?_ ?_ ?_ ?_
  ·simp only [Xa, Qdf, Qag, Qaa, Qb4, Qab, Qal, Qbq, Qac, Qaq, Qaf, Qa6, Qbu, Qc1, Qbh, Qbg, Qc7, Qc5, Qc8, Qc4, Qbx, Qca, Qbj, Qbw, Qc0, Qby, Qc2, Qc6, noGo, Qbs, ↓Qb0, ↓Qbe, rnQ, rndQ, updL, Qd4, yres, Qd5, ghO, Qcw, ocV, effO, nidQ, plO, plQ, plB, Qd0, Qbr, Qcv, Qcu, Qb3, optL, upTo, rids, Qcd, Qco, Qcn, Qcq, Zy, Z3, Qce, Qbt, Qbn, shV, shL, shB, Qad, Qbo, swH, sw, renV, renL, renB, cutH, putB, lkpV, keyL, entV, Qd7, keyV, Qaz, endO, endK, endI, Qai, Qao, Qa5, Qa1, Qcb, Fam.step, Qaj, Qbm, Qbl, Qav, Qb9, ug, runX, Qde, eff, Qb2, fpR, fpQ, fpV, Qbp, hits, putB, nv, sv, Qc9, evO, opv, qv, Qam, Qbd, Qbc, binV, ldV, iadV, lenV, curG, slcV, slxV, Qd1, Qb1, Qae, putAt, Qat, Qas, V.cells, Qax, Qaw, Qb8, Qa9, Qa4, flat, Qcc, kp, cutV, cutL, cutB, Qa2, Qap, Qa0, Qa3, ↓reduceIte, Nat.reduceEqDiff, Nat.reduceAdd, Nat.reduceSub, Nat.reduceMul, Nat.reduceLT, Nat.reduceLeDiff, Nat.reduceBEq, Int.reduceNeg, Int.reduceToNat, Zs, Zw, Int.reduceLT, Int.reduceLE, Int.reduceAdd, Int.reduceSub, Int.reduceMul, Int.reduceEq, Qd, Qe, Qy, Qx, Qc, Qf, Qh, Qq, Zl, Qg, Q8, Qz, Qm, Z4, Qw, Qt, Qj, Qi, Qo, Qu, Qs, Za, Q0, Zc, Xc, Qp, Q6, Zq, Zr, Zd, Zo, endQ, rvs, rv1, resV, vw_i, vw_b, vw_u, Qdh, vw_z, Qb6, Qd6, Qb5, Qbz, Qct, Qda, Qcx, zipA, Z0, Q4, beq_self_eq_true, Qk, Z5, Xe.injEq, V.i.injEq, V.b.injEq, Qr, Q3, Zx, Ze, Zt, Qn, Zv, Xb, Z6, Zk, Zn, Qb, Zf, decide_true, decide_false, decide_eq_true_eq, decide_eq_false_iff_not, true_and, and_true, and_self, false_and, and_false, forall_const, false_implies, true_implies, implies_true, reduceCtorEq, ite_true, ite_false, not_true_eq_false, not_false_eq_true, ne_eq, Q7, Zz, Z1, Zu, Zj, Q9, beq_true, beq_false, Xd, Zi, Q5, Qcm, Qcp, Zb, Zg, Z2, imp_self, Ql, Q2, Qa, Q1, Zp, Zm, Classical.not_not, Zh, Qdg, Qan, eBent, Qa8, Qci, eBox, Qba, eI, eIs, Qdd, Qdc]
  ·intro k hk; omega
  ·intro n hn hc
   have hlt : (n : Int) ≤ 6 := by omega
   have i1 : inI ((n : Int) + 1) := by unfold inI; omega
   have g2 := k64 c (Qa7 c) [] n w
   unfold Qa8 Qan at g2
   simp only [Qdf, Qag, Qaa, Qb4, Qab, Qal, Qbq, Qac, Qaq, Qaf, Qa6, Qbu, Qc1, Qbh, Qbg, Qc7, Qc5, Qc8, Qc4, Qbx, Qca, Qbj, Qbw, Qc0, Qby, Qc2, Qc6, noGo, Qbs, ↓Qb0, ↓Qbe, rnQ, rndQ, updL, Qd4, yres, Qd5, ghO, Qcw, ocV, effO, nidQ, plO, plQ, plB, Qd0, Qbr, Qcv, Qcu, Qb3, optL, upTo, rids, Qcd, Qco, Qcn, Qcq, Zy, Z3, Qce, Qbt, Qbn, shV, shL, shB, Qad, Qbo, swH, sw, renV, renL, renB, cutH, putB, lkpV, keyL, entV, Qd7, keyV, Qaz, endO, endK, endI, Qai, Qao, Qa5, Qa1, Qcb, Fam.step, Qaj, Qbm, Qbl, Qav, Qb9, ug, runX, Qde, eff, Qb2, fpR, fpQ, fpV, Qbp, hits, putB, nv, sv, Qc9, evO, opv, qv, Qam, Qbd, Qbc, binV, ldV, iadV, lenV, curG, slcV, slxV, Qd1, Qb1, Qae, putAt, Qat, Qas, V.cells, Qax, Qaw, Qb8, Qa9, Qa4, flat, Qcc, kp, cutV, cutL, cutB, Qa2, Qap, Qa0, Qa3, ↓reduceIte, Nat.reduceEqDiff, Nat.reduceAdd, Nat.reduceSub, Nat.reduceMul, Nat.reduceLT, Nat.reduceLeDiff, Nat.reduceBEq, Int.reduceNeg, Int.reduceToNat, Zs, Zw, Int.reduceLT, Int.reduceLE, Int.reduceAdd, Int.reduceSub, Int.reduceMul, Int.reduceEq, Qd, Qe, Qy, Qx, Qc, Qf, Qh, Qq, Zl, Qg, Q8, Qz, Qm, Z4, Qw, Qt, Qj, Qi, Qo, Qu, Qs, Za, Q0, Zc, Xc, Qp, Q6, Zq, Zr, Zd, Zo, endQ, rvs, rv1, resV, vw_i, vw_b, vw_u, Qdh, vw_z, Qb6, Qd6, Qb5, Qbz, Qct, Qda, Qcx, zipA, Z0, Q4, beq_self_eq_true, Qk, Z5, Xe.injEq, V.i.injEq, V.b.injEq, Qr, Q3, Zx, Ze, Zt, Qn, Zv, Xb, Z6, Zk, Zn, Qb, Zf, decide_true, decide_false, decide_eq_true_eq, decide_eq_false_iff_not, true_and, and_true, and_self, false_and, and_false, forall_const, false_implies, true_implies, implies_true, reduceCtorEq, ite_true, ite_false, not_true_eq_false, not_false_eq_true, ne_eq, Q7, Zz, Z1, Zu, Zj, Q9, beq_true, beq_false, Xd, Zi, Q5, Qcm, Qcp, Zb, Zg, Z2, imp_self, Ql, Q2, Qa, Q1, Zp, Zm, Classical.not_not, Zh, Qdg, Qan, eBent, Qa8, Qci, eBox, Qba, eI, eIs, Qdd, Qdc] at g2
   have hok : Ok64 ⟨c, Qa7 c, [], n, w⟩ := ⟨h1, ⟨by show (Qa7 c).length ≤ 1000; omega, fun k hk => by have := Qe8 h1 hk; unfold tame; omega⟩, fun x hx => (by cases hx), by show 0 + n ≤ 50; omega⟩
   simp only [hlt, i1, g2, hok, Z7, Z8, Qdf, Qag, Qaa, Qb4, Qab, Qal, Qbq, Qac, Qaq, Qaf, Qa6, Qbu, Qc1, Qbh, Qbg, Qc7, Qc5, Qc8, Qc4, Qbx, Qca, Qbj, Qbw, Qc0, Qby, Qc2, Qc6, noGo, Qbs, ↓Qb0, ↓Qbe, rnQ, rndQ, updL, Qd4, yres, Qd5, ghO, Qcw, ocV, effO, nidQ, plO, plQ, plB, Qd0, Qbr, Qcv, Qcu, Qb3, optL, upTo, rids, Qcd, Qco, Qcn, Qcq, Zy, Z3, Qce, Qbt, Qbn, shV, shL, shB, Qad, Qbo, swH, sw, renV, renL, renB, cutH, putB, lkpV, keyL, entV, Qd7, keyV, Qaz, endO, endK, endI, Qai, Qao, Qa5, Qa1, Qcb, Fam.step, Qaj, Qbm, Qbl, Qav, Qb9, ug, runX, Qde, eff, Qb2, fpR, fpQ, fpV, Qbp, hits, putB, nv, sv, Qc9, evO, opv, qv, Qam, Qbd, Qbc, binV, ldV, iadV, lenV, curG, slcV, slxV, Qd1, Qb1, Qae, putAt, Qat, Qas, V.cells, Qax, Qaw, Qb8, Qa9, Qa4, flat, Qcc, kp, cutV, cutL, cutB, Qa2, Qap, Qa0, Qa3, ↓reduceIte, Nat.reduceEqDiff, Nat.reduceAdd, Nat.reduceSub, Nat.reduceMul, Nat.reduceLT, Nat.reduceLeDiff, Nat.reduceBEq, Int.reduceNeg, Int.reduceToNat, Zs, Zw, Int.reduceLT, Int.reduceLE, Int.reduceAdd, Int.reduceSub, Int.reduceMul, Int.reduceEq, Qd, Qe, Qy, Qx, Qc, Qf, Qh, Qq, Zl, Qg, Q8, Qz, Qm, Z4, Qw, Qt, Qj, Qi, Qo, Qu, Qs, Za, Q0, Zc, Xc, Qp, Q6, Zq, Zr, Zd, Zo, endQ, rvs, rv1, resV, vw_i, vw_b, vw_u, Qdh, vw_z, Qb6, Qd6, Qb5, Qbz, Qct, Qda, Qcx, zipA, Z0, Q4, beq_self_eq_true, Qk, Z5, Xe.injEq, V.i.injEq, V.b.injEq, Qr, Q3, Zx, Ze, Zt, Qn, Zv, Xb, Z6, Zk, Zn, Qb, Zf, decide_true, decide_false, decide_eq_true_eq, decide_eq_false_iff_not, true_and, and_true, and_self, false_and, and_false, forall_const, false_implies, true_implies, implies_true, reduceCtorEq, ite_true, ite_false, not_true_eq_false, not_false_eq_true, ne_eq, Q7, Zz, Z1, Zu, Zj, Q9, beq_true, beq_false, Xd, Zi, Q5, Qcm, Qcp, Zb, Zg, Z2, imp_self, Ql, Q2, Qa, Q1, Zp, Zm, Classical.not_not, Zh, Qdg, Qan, eBent, Qa8, Qci, eBox, Qba, eI, eIs, Qdd, Qdc]
   refine ⟨fun he => ?_, fun he => ?_⟩
   ·have e : fewN c w = some n := by
     rw [hff]
     refine Qke (i := n) (Xy hn) he fun j y hj hy => ?_
     rw [Xy (by omega)] at hy
     rw [← Xe.inj hy]
     exact hc j hj
    simp only [fewR, h, e, Qdf, Qag, Qaa, Qb4, Qab, Qal, Qbq, Qac, Qaq, Qaf, Qa6, Qbu, Qc1, Qbh, Qbg, Qc7, Qc5, Qc8, Qc4, Qbx, Qca, Qbj, Qbw, Qc0, Qby, Qc2, Qc6, noGo, Qbs, ↓Qb0, ↓Qbe, rnQ, rndQ, updL, Qd4, yres, Qd5, ghO, Qcw, ocV, effO, nidQ, plO, plQ, plB, Qd0, Qbr, Qcv, Qcu, Qb3, optL, upTo, rids, Qcd, Qco, Qcn, Qcq, Zy, Z3, Qce, Qbt, Qbn, shV, shL, shB, Qad, Qbo, swH, sw, renV, renL, renB, cutH, putB, lkpV, keyL, entV, Qd7, keyV, Qaz, endO, endK, endI, Qai, Qao, Qa5, Qa1, Qcb, Fam.step, Qaj, Qbm, Qbl, Qav, Qb9, ug, runX, Qde, eff, Qb2, fpR, fpQ, fpV, Qbp, hits, putB, nv, sv, Qc9, evO, opv, qv, Qam, Qbd, Qbc, binV, ldV, iadV, lenV, curG, slcV, slxV, Qd1, Qb1, Qae, putAt, Qat, Qas, V.cells, Qax, Qaw, Qb8, Qa9, Qa4, flat, Qcc, kp, cutV, cutL, cutB, Qa2, Qap, Qa0, Qa3, ↓reduceIte, Nat.reduceEqDiff, Nat.reduceAdd, Nat.reduceSub, Nat.reduceMul, Nat.reduceLT, Nat.reduceLeDiff, Nat.reduceBEq, Int.reduceNeg, Int.reduceToNat, Zs, Zw, Int.reduceLT, Int.reduceLE, Int.reduceAdd, Int.reduceSub, Int.reduceMul, Int.reduceEq, Qd, Qe, Qy, Qx, Qc, Qf, Qh, Qq, Zl, Qg, Q8, Qz, Qm, Z4, Qw, Qt, Qj, Qi, Qo, Qu, Qs, Za, Q0, Zc, Xc, Qp, Q6, Zq, Zr, Zd, Zo, endQ, rvs, rv1, resV, vw_i, vw_b, vw_u, Qdh, vw_z, Qb6, Qd6, Qb5, Qbz, Qct, Qda, Qcx, zipA, Z0, Q4, beq_self_eq_true, Qk, Z5, Xe.injEq, V.i.injEq, V.b.injEq, Qr, Q3, Zx, Ze, Zt, Qn, Zv, Xb, Z6, Zk, Zn, Qb, Zf, decide_true, decide_false, decide_eq_true_eq, decide_eq_false_iff_not, true_and, and_true, and_self, false_and, and_false, forall_const, false_implies, true_implies, implies_true, reduceCtorEq, ite_true, ite_false, not_true_eq_false, not_false_eq_true, ne_eq, Q7, Zz, Z1, Zu, Zj, Q9, beq_true, beq_false, Xd, Zi, Q5, Qcm, Qcp, Zb, Zg, Z2, imp_self, Ql, Q2, Qa, Q1, Zp, Zm, Classical.not_not, Zh, Qdg, Qan, eBent, Qa8, Qci, eBox, Qba, eI, eIs, Qdd, Qdc]
   ·intro k hk
    by_cases e : k < n
    ·exact hc k e
    ·have e : k = n := by omega
     subst e
     exact he
  ·intro hc
   have h77 : ¬ (((7 : Nat) : Int) ≤ 6) := by decide
   have e : fewN c w = none := by
    rw [hff, Xq]
    intro k hk
    rw [hc k (by simpa using hk)]; simp
   simp only [h77, fewR, h, e, Qdf, Qag, Qaa, Qb4, Qab, Qal, Qbq, Qac, Qaq, Qaf, Qa6, Qbu, Qc1, Qbh, Qbg, Qc7, Qc5, Qc8, Qc4, Qbx, Qca, Qbj, Qbw, Qc0, Qby, Qc2, Qc6, noGo, Qbs, ↓Qb0, ↓Qbe, rnQ, rndQ, updL, Qd4, yres, Qd5, ghO, Qcw, ocV, effO, nidQ, plO, plQ, plB, Qd0, Qbr, Qcv, Qcu, Qb3, optL, upTo, rids, Qcd, Qco, Qcn, Qcq, Zy, Z3, Qce, Qbt, Qbn, shV, shL, shB, Qad, Qbo, swH, sw, renV, renL, renB, cutH, putB, lkpV, keyL, entV, Qd7, keyV, Qaz, endO, endK, endI, Qai, Qao, Qa5, Qa1, Qcb, Fam.step, Qaj, Qbm, Qbl, Qav, Qb9, ug, runX, Qde, eff, Qb2, fpR, fpQ, fpV, Qbp, hits, putB, nv, sv, Qc9, evO, opv, qv, Qam, Qbd, Qbc, binV, ldV, iadV, lenV, curG, slcV, slxV, Qd1, Qb1, Qae, putAt, Qat, Qas, V.cells, Qax, Qaw, Qb8, Qa9, Qa4, flat, Qcc, kp, cutV, cutL, cutB, Qa2, Qap, Qa0, Qa3, ↓reduceIte, Nat.reduceEqDiff, Nat.reduceAdd, Nat.reduceSub, Nat.reduceMul, Nat.reduceLT, Nat.reduceLeDiff, Nat.reduceBEq, Int.reduceNeg, Int.reduceToNat, Zs, Zw, Int.reduceLT, Int.reduceLE, Int.reduceAdd, Int.reduceSub, Int.reduceMul, Int.reduceEq, Qd, Qe, Qy, Qx, Qc, Qf, Qh, Qq, Zl, Qg, Q8, Qz, Qm, Z4, Qw, Qt, Qj, Qi, Qo, Qu, Qs, Za, Q0, Zc, Xc, Qp, Q6, Zq, Zr, Zd, Zo, endQ, rvs, rv1, resV, vw_i, vw_b, vw_u, Qdh, vw_z, Qb6, Qd6, Qb5, Qbz, Qct, Qda, Qcx, zipA, Z0, Q4, beq_self_eq_true, Qk, Z5, Xe.injEq, V.i.injEq, V.b.injEq, Qr, Q3, Zx, Ze, Zt, Qn, Zv, Xb, Z6, Zk, Zn, Qb, Zf, decide_true, decide_false, decide_eq_true_eq, decide_eq_false_iff_not, true_and, and_true, and_self, false_and, and_false, forall_const, false_implies, true_implies, implies_true, reduceCtorEq, ite_true, ite_false, not_true_eq_false, not_false_eq_true, ne_eq, Q7, Zz, Z1, Zu, Zj, Q9, beq_true, beq_false, Xd, Zi, Q5, Qcm, Qcp, Zb, Zg, Z2, imp_self, Ql, Q2, Qa, Q1, Zp, Zm, Classical.not_not, Zh, Qdg, Qan, eBent, Qa8, Qci, eBox, Qba, eI, eIs, Qdd, Qdc]
end Go.C06
