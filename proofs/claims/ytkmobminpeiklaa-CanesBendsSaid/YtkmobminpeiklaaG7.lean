import Derived.Test.YtkmobminpeiklaaG6
import Derived.Test.YtkmobminpeiklaaG3
import Derived.Test.YtkmobminpeiklaaChecked
set_option linter.all false
open List renaming length_cons → Qb, map_cons → Qc, map_nil → Qd, length_nil → Qe, getD_eq_getElem?_getD → Qg, append_nil → Qh, take_succ_cons → Qi, getElem?_cons_zero → Qk, length_map → Ql, getElem?_eq_getElem → Qm, drop_succ_cons → Qn, headD_cons → Qq, take_nil → Qr, getElem?_cons_succ → Qs, drop_zero → Qt, all_nil → Qu, all_cons → Qv, getElem?_nil → Qw, nil_append → Qx, cons_append → Q0, replicate_zero → Q1, any_eq_true → Q4, take_zero → Q8, set_cons_zero → Zb, getElem?_map → Zc, mem_of_getElem? → Ze, replicate_succ → Zh, contains_nil → Zl, pairwise_iff_getElem → Zm, all_eq_true → Zo, isEmpty_nil → Zp, mem_filter → Zq, length_pos_iff → Zr, drop_nil → Zs, range → Zv, find?_eq_none → Zw, any_nil → Zy, getElem?_eq_some_iff → Z0, mem_of_find?_eq_some → Z1, getElem?_range → Z2, set_cons_succ → Z5, length_append → Z6, find?_eq_some_iff_getElem → Z8, flatten_nil → Z9, mem_iff_getElem → Xb, eq_nil_of_length_eq_zero → Xc, contains_cons → Xh, ne_nil_of_mem → Xi, exists_mem_of_ne_nil → Xj, flatten_cons → Xk, isEmpty_cons → Xm, any_eq_false → Xn, find?_some → Xq, length_filter_le → Xr, getElem?_eq_none → Xs, getElem?_of_mem → Xu, any_cons → Xw, getElem_range → Xx, filter_append → Xy, mem_range'_1 → X2, getElem_mem → X6, length_take → X7, filter_cons → X8, take_length → X9, filter_nil → Ja
open Nat renaming zero_add → Qf, le_refl → Zz, add_sub_cancel → Z7, mul_one → Xd, le_of_not_lt → Xo, zero_le → Xv, le_trans → Xz, add_zero → X0
open Bool renaming false_eq_true → Qa, or_false → Qj, and_self → Qo, and_true → Qy, not_eq_true' → Q2, not_true → Q3, true_eq_false → Q7, not_false → Q9, and_false → Zd, false_and → Zj, not_eq_true → Zn, and_eq_true → Zu, not_eq_false' → Zx, false_or → Z4, true_and → Xa, or_eq_false_iff → Xe, decide_eq_true → Xf, not_eq_false → Xl, or_true → Xp, and_eq_false_iff → Xt, true_or → X1, eq_false_iff → X4, not_not → X5, or_eq_true → Jb, eq_iff_iff → Jc
open Option renaming getD_some → Qp, map_some → Zf, getD_none → Zg
open Int renaming natCast_zero → Qz, natCast_add → Q5, natCast_one → Q6, toNat_natCast → Za, le_refl → Zi, natCast_nonneg → Zk, lt_irrefl → Zt, add_assoc → Z3, add_zero → Xg, zero_add → X3
set_option linter.unusedSimpArgs false
set_option linter.unusedVariables false
namespace Go.C06
open Go.Fam Go.Proofs
theorem Qm3 (a b : Int) : (ints a b).Pairwise (· < ·) := by
 rw [Zm]
 intro i j hi hj hij
 rw [Qfd] at hi hj
 have h1 := Qga (lo := a) (hi := b) (k := i) hi
 have h2 := Qga (lo := a) (hi := b) (k := j) hj
 rw [Z0] at h1 h2
 obtain ⟨_, h1⟩ := h1
 obtain ⟨_, h2⟩ := h2
 rw [h1, h2]; omega
theorem Qd0 (c : Cane) : (Qa4 c).Pairwise (· < ·) := (Qm3 _ _).sublist List.filter_sublist
theorem Qir {l : List Int} (h : l.Pairwise (· < ·)) {k : Int} (hk : k ∈ l) : l.getD 0 0 ≤ k ∧ k ≤ l.getD (l.length - 1) 0 := by
 obtain ⟨i, hi, rfl⟩ := Xb.1 hk
 rw [Zm] at h
 simp only [Qg]
 rw [Qm (show 0 < l.length by omega), Qm (show l.length - 1 < l.length by omega)]
 simp only [Qp]
 constructor
 ·by_cases e : i = 0
  ·subst e; exact Zi _
  ·have := h 0 i (by omega) hi (by omega); omega
 ·by_cases e : i = l.length - 1
  ·subst e; exact Zi _
  ·have := h i (l.length - 1) hi (by omega) (by omega); omega
theorem Qoe {c : Cane} {k : Int} (hk : k ∈ Qa4 c) : trF c ≤ k ∧ k ≤ trL c := Qir (Qd0 c) hk
theorem Qf9 {k k' : Int} (hk : 0 ≤ k) (h : k ≤ k') : ∀ {l : List Int}, (∀ n ∈ l, 1 ≤ n ∧ n ≤ 90) → Qaz l k' ≤ Qaz l k := by
 intro l
 induction l with
 | nil => intro _; exact Zi _
 | cons n l ih =>
  intro hl
  have h1 := Qdx (b := n) (by have := hl n (by simp); omega) hk h
  have h3 := ih fun m hm => hl m (by simp [hm])
  unfold Qaz at h3 ⊢
  simp only [Qc, List.sum_cons]
  omega
theorem Qtt {c : Cane} (ht : Qa4 c ≠ []) : trF c ∈ Qa4 c := by
 unfold trF
 have := Zr.2 ht
 rw [Qg, Qm this]
 exact X6 _
theorem Qtu {c : Cane} (ht : Qa4 c ≠ []) : trL c ∈ Qa4 c := by
 unfold trL
 have := Zr.2 ht
 rw [Qg, Qm (show (Qa4 c).length - 1 < (Qa4 c).length by omega)]
 exact X6 _
theorem Qmx {c : Cane} (hc : OkC c) (ht : Qa4 c ≠ []) {l : List Int} (hl : ∀ n ∈ l, 1 ≤ n ∧ n ≤ 90) (w : Span) :
  Qcm l w (Qa4 c) = (Qa4 c).length ↔ w.low ≤ Qaz l (trL c) ∧ Qaz l (trF c) ≤ w.high := by
 unfold Qcm
 rw [List.countP_eq_length]
 simp only [Qak, Zu, decide_eq_true_eq]
 constructor
 ·intro h
  exact ⟨(h _ (Qtu ht)).1, (h _ (Qtt ht)).2⟩
 ·intro h k hk
  have h1 := Qoe hk
  have h2 := Qcc hc hk
  have h3 := Qqo hc ht
  have h4 := Qf9 (k := k) (k' := trL c) h2.1 h1.2 hl
  have h5 := Qf9 (k := trF c) (k' := k) h3.1 h1.1 hl
  omega
def Qbz (c : Cane) (ks : List Int) (w : Span) : Nat → List Int → Bool
 | 0, f => decide (Qcm f w ks = ks.length)
 | n + 1, f => (ints 1 (Qbw c f.length)).any fun b => Qbz c ks w n (f ++ [b])
theorem Qnv {c : Cane} (hc : OkC c) (ht : Qa4 c ≠ []) (w : Span) : ∀ (n : Nat) (f : List Int), Poss c f → (Qbz c (Qa4 c) w n f = true ↔ ∃ m, m.length = n ∧ Sure c w (f ++ m)) := by
 intro n
 induction n with
 | zero =>
  intro f hf
  rw [Qbz, decide_eq_true_eq, Qmx hc ht hf.in_]
  constructor
  ·intro h; exact ⟨[], rfl, by rw [Qh]; exact ⟨hf, h⟩⟩
  ·rintro ⟨m, hm, hs⟩
   rw [Xc hm, Qh] at hs
   exact hs.2
 | succ n ih =>
  intro f hf
  rw [Qbz, Q4]
  constructor
  ·rintro ⟨b, hb, h⟩
   rw [Qck] at hb
   obtain ⟨m, hm, hs⟩ := (ih (f ++ [b]) (Qgi.2 ⟨hf, hb⟩)).1 h
   exact ⟨b :: m, by simp [hm], by simpa using hs⟩
  ·rintro ⟨m, hm, hs⟩
   cases m with
   | nil => simp at hm
   | cons b m =>
    have hp : Poss c (f ++ [b]) := by
     intro i hi
     have := hs.1 i (by simp at hi ⊢; omega)
     rw [show f ++ b :: m = (f ++ [b]) ++ m by simp, Qfu hi] at this
     exact this
    refine ⟨b, Qck.2 (Qgi.1 hp).2, (ih _ hp).2 ⟨m, by simpa using hm, by simpa using hs⟩⟩
theorem Qrh (c : Cane) : Poss c [] := fun i hi => absurd hi (Nat.not_lt_zero _)
theorem Qmq {c : Cane} (hc : OkC c) (ht : Qa4 c ≠ []) (w : Span) : fewN c w = (Zv 7).find? fun n => Qbz c (Qa4 c) w n [] := by
 have key : ∀ n, Qbz c (Qa4 c) w n [] = true ↔ ∃ m, m.length = n ∧ Sure c w m := fun n => by simpa using Qnv hc ht w n [] (Qrh c)
 cases hf : (Zv 7).find? fun n => Qbz c (Qa4 c) w n [] with
 | none =>
  rw [Ql0]
  intro l hl
  refine Nat.lt_of_not_le fun h6 => ?_
  rw [Zw] at hf
  exact hf l.length (by simp; omega) ((key _).2 ⟨l, rfl, hl⟩)
 | some n =>
  rw [Z8] at hf
  obtain ⟨h1, i, hi, he, hlt⟩ := hf
  simp only [List.length_range] at hi
  simp only [Xx] at he hlt
  subst he
  obtain ⟨m, hm, hs⟩ := (key _).1 h1
  refine Ql1.2 ⟨by omega, ⟨m, hs, hm⟩, fun l hl => Xo fun h6 => ?_⟩
  have := hlt l.length h6
  rw [(key _).2 ⟨l, rfl, hl⟩] at this
  cases this
def exC : Cane := ⟨⟨180, 220⟩, [⟨50, ⟨10, 10⟩⟩], 0, 40, 10⟩
def exS : Box := ⟨2, [⟨10, 5⟩, ⟨20, 3⟩, ⟨5, 4⟩]⟩
theorem Qva : OkC exC := (Qpx _).1 (by decide +kernel)
theorem Qnw : Qa4 exC = (Zv 20).map fun (n : Nat) => (200 + n : Int) := by decide +kernel
theorem Qsw : fewR exC ⟨31, 31⟩ = (2, 0) := by
 unfold fewR
 rw [if_pos (by decide +kernel), Qmq Qva (by rw [Qnw]; decide)]
 have e : ((Zv 7).find? fun n => Qbz exC (Qa4 exC) ⟨31, 31⟩ n []) = some 2 := by decide +kernel
 rw [e]; rfl
theorem Qmo : (Qbs exC ⟨31, 31⟩).1 = 2 ∧ (Qbs exC ⟨31, 31⟩).2.2 = 0 := by decide +kernel
theorem Qs4 : stL exC ⟨0, 0⟩ [] = (Zv 20).map (fun (n : Nat) => (200 + n : Int)) ∧ stE exC ⟨0, 0⟩ [] = 0 := by decide +kernel
theorem Qp1 : Qd1 exC [39] = (⟨31, 32⟩, 0) := by decide +kernel
theorem Qp2 : Qer exS = (27, 0) := by decide +kernel
end Go.C06
set_option linter.unusedSimpArgs false
set_option linter.unusedVariables false
namespace Go.C06
open Go.Fam Go.Proofs
variable {Γ : Gam}
theorem W57 : Qad Try.prog 57 [] (.ag (Qa8 exC)) := by
 refine Qac Qo7 hmix Try.func57 cb57 cc57 cs57 cn57 ?_
 simp only [rc57, rs57, Qaa, Qab, Qah, Qa7, Qfk, putB, Qaf, Qa6, Qa1, Fam.step, Qag, Qbx, Qb0, putB, nv, sv, evO, opv, qv, ldV, Qas, putAt, Qba, Qbp, V.cells, Qau, Qb7, Qa9, Qa5, Qa2, Qb8, Qa0, Qa3, ↓reduceIte, Nat.reduceEqDiff, Nat.reduceAdd, Nat.reduceMul, Nat.reduceLeDiff, Qc, Qd, Qv, Qu, Qb, Qe, Qn, Qt, Zs, Qi, Q8, Qr, Q0, Qx, Qh, Qk, Zb, Q1, Zh, endQ, rvs, rv1, resV, vw_i, Qay, Qax, zipA, Qf, Qo, Qj, true_and, and_self, reduceCtorEq, not_false_eq_true, ne_eq, Qa8]
 rfl
theorem W58 : Qad Try.prog 58 [] (.ag (eBox exS)) := by
 refine Qac Qo7 hmix Try.func58 cb58 cc58 cs58 cn58 ?_
 simp only [rc58, rs58, Qaa, Qab, Qah, Qa7, putB, Qaf, Qa6, Qa1, Fam.step, Qag, Qbx, Qb0, putB, nv, sv, evO, opv, qv, ldV, Qas, putAt, Qba, Qbp, V.cells, Qau, Qb7, Qa9, Qa5, Qa2, Qb8, Qa0, Qa3, ↓reduceIte, Nat.reduceEqDiff, Nat.reduceAdd, Nat.reduceMul, Nat.reduceLeDiff, Qc, Qd, Qv, Qu, Qb, Qe, Qn, Qt, Zs, Qi, Q8, Qr, Q0, Qx, Qh, Qk, Zb, Q1, Zh, endQ, rvs, rv1, resV, vw_i, Qay, Qax, zipA, Qf, Qo, Qj, true_and, and_self, reduceCtorEq, not_false_eq_true, ne_eq, eBox]
 rfl
def cst (v : V) : List V → Prop × V | [] => (True, v) | _ => (False, .u)
theorem Qos {f : Nat} {v : V} (h : Qad Try.prog f [] v) (vs : List V) (h2 : (cst v vs).1) : Qad Try.prog f vs (cst v vs).2 := by
 unfold cst at h2 ⊢
 split at h2
 ·exact h
 ·exact h2.elim
noncomputable def H30 : Gam := ((((H29.ext 57 (cst (.ag (Qa8 exC)))).ext 58 (cst (.ag (eBox exS)))).ext 34 (fnG eCI dCI (fun a => OkC a.1) (fun a => isTB a.1 a.2) .b)).ext 21 (fnG eLI dLI (fun a => Qd8 a.1 ∧ tame 1000 a.2) (fun a => Qaz a.1 a.2) .i)).ext 17 (fnG eCL dCL (fun a => OkC a.1) (fun a => areB a.1 a.2) .b)
theorem Qta : GOk Try.prog H30 := by
 have k1 := Qo7.ext (f := 57) (r := cst (.ag (Qa8 exC))) (fun a w => Try.call57 a w) (Qos W57)
 have k2 := k1.ext (f := 58) (r := cst (.ag (eBox exS))) (fun a w => Try.call58 a w) (Qos W58)
 have k3 := k2.ext (f := 34) (fun a w => Try.call34 a w) (Qaw (e := eCI) (d := dCI) (ok := fun a => OkC a.1) (g := fun a => isTB a.1 a.2) (eb := .b) fun a h => W34 a.1 a.2 h)
 have k4 := k3.ext (f := 21) (fun a w => Try.call21 a w) (Qaw (e := eLI) (d := dLI) (ok := fun a => Qd8 a.1 ∧ tame 1000 a.2) (g := fun a => Qaz a.1 a.2) (eb := .i) fun a h => W21 a.1 a.2 h)
 exact k4.ext (f := 17) (fun a w => Try.call17 a w) (Qaw (e := eCL) (d := dCL) (ok := fun a => OkC a.1) (g := fun a => areB a.1 a.2) (eb := .b) fun a h => W17 a.1 a.2 h)
theorem h57 : H30 57 [] = (True, .ag (Qa8 exC)) := rfl
theorem h58 : H30 58 [] = (True, .ag (eBox exS)) := rfl
theorem h34 (c : Cane) (k : Int) : H30 34 [.ag (Qa8 c), .i k] = (OkC c, .b (isTB c k)) :=
 (show H30 34 _ = fnG eCI dCI (fun a => OkC a.1) (fun a => isTB a.1 a.2) .b (eCI (c, k)) from rfl).trans (Qb3 _ (Qsr _))
theorem h21 (l : List Int) (k : Int) : H30 21 [.sl 1 (l.map eI), .i k] = (Qd8 l ∧ tame 1000 k, .i (Qaz l k)) :=
 (show H30 21 _ = fnG eLI dLI (fun a => Qd8 a.1 ∧ tame 1000 a.2) (fun a => Qaz a.1 a.2) .i (eLI (l, k)) from rfl).trans (Qb3 _ (Qv5 _))
theorem Qug (c : Cane)  : H30 19 [.ag (Qa8 c)] = (True, .tp [.sl 1 ((stL c ⟨0, 0⟩ []).map eI), .i (stE c ⟨0, 0⟩ [])]) := h19 c
theorem Quh (c : Cane) (l : List Int)  : H30 20 [.ag (Qa8 c), .sl 1 (l.map eI)] = (True, .tp [.ag (Qai (Qd1 c l).1), .i (Qd1 c l).2]) := h20 c l
theorem Qui (c : Cane) (w : Span)  : H30 25 [.ag (Qa8 c), .ag (Qai w)] = (True, .tp [.i (fewR c w).1, .i (fewR c w).2]) := h25 c w
theorem Quj (c : Cane) (w : Span)  : H30 26 [.ag (Qa8 c), .ag (Qai w)] = (True, .tp [.i (Qbs c w).1, .i (Qbs c w).2.2]) := h26 c w
theorem Quk (s : Box)  : H30 51 [.ag (eBox s)] = (True, .tp [.i (Qer s).1, .i (Qer s).2]) := h51 s
theorem eq23 : Qar Try.prog 23 2 := Qar.of (fs := _) (show Try.prog.underlying 23 = some (.struct (Try.prog.fieldsOf 23)) by kernel_rfl) (by kernel_rfl) (by kernel_rfl)
set_option maxRecDepth 100000 in
set_option maxHeartbeats 4000000 in
theorem W18 : Qad Try.prog 18 [] (.b true) := by
 refine Qac Qta hmix Try.func18 cb18 cc18 cs18 cn18 ?_
 obtain ⟨c, hc⟩ : ∃ c, c = exC := ⟨_, rfl⟩
 obtain ⟨s, hs⟩ : ∃ s, s = exS := ⟨_, rfl⟩
 obtain ⟨L, hL⟩ : ∃ L : List Int, L = (Zv 20).map fun (n : Nat) => (200 + n : Int) := ⟨_, rfl⟩
 have g1 := Qug c
 have g2 := Quh c [39]
 have g3 := Qui c ⟨31, 31⟩
 have g4 := Quj c ⟨31, 31⟩
 have g5 := Quk s
 have g6 := h57
 have g7 := h58
 rw [hc, Qs4.1, Qs4.2, ← hL, ← hc] at g1
 rw [hc, Qp1, ← hc] at g2
 rw [hc, Qsw, ← hc] at g3
 rw [hc, Qmo.1, Qmo.2, ← hc] at g4
 rw [hs, Qp2, ← hs] at g5
 rw [← hc] at g6
 rw [← hs] at g7
 have l1 : (L.length : Int) = 20 := by rw [hL]; rfl
 have l2 : L[0]? = some 200 := by rw [hL]; rfl
 clear hL hc hs
 unfold Qa8 at g1 g2 g3 g4 g6
 unfold eBox at g5 g7
 simp only [Qc, Qd, Qai, eI] at g1 g2 g3 g4 g5 g6 g7
 simp only [rc18, rs18, g1, g2, g3, g4, g5, g6, g7, l1, l2, Qaa, Qab, Qah, Qa7, Qfk, putB, Qaf, Qa6, Qa1, Fam.step, Qag, Qbx, Qbo, Qb0, Qbd, ug, putB, nv, sv, evO, opv, qv, Qaq, binV, ldV, iadV, lenV, Qav, Qas, putAt, Qba, Qbp, V.cells, Qau, Qb7, Qcg, Qa9, Qa5, flat, Qcp, Qa2, Qb8, Qa0, Qa3, ↓reduceIte, Nat.reduceEqDiff, Nat.reduceAdd, Nat.reduceMul, Nat.reduceLT, Nat.reduceLeDiff, Int.toNat_zero, Int.reduceLT, Int.reduceLE, Qc, Qd, Qv, Qu, Qb, Qe, Qn, Qt, Zs, Qi, Q8, Qr, Qq, Q0, Qx, Qh, Qk, Qs, Qp, Zb, Z5, Q1, Zh, endQ, rvs, rv1, resV, vw_i, vw_b, Qay, Qax, zipA, beq_self_eq_true, Qf, V.b.injEq, Qo, Qy, Zd, Qj, Qa, Q7, decide_true, true_and, and_true, and_self, forall_const, implies_true, reduceCtorEq, not_false_eq_true, ne_eq, Zf, beq_true, Qfx, Xf, imp_self, Ql, Qg, Zc, eI]
 exact ⟨eq23, rfl⟩
theorem W71 (c : Cane) (h : OkC c) : Qad Try.prog 71 [.ag (Qa8 c)] (.sl 1 ((Qa4 c).map eI)) := by
 refine Qac Qta hmix Try.func71 cb71 cc71 cs71 cn71 ?_
 have k1 := h.low
 have k2 := h.le
 have k3 := h.high
 have k4 := h.spread
 simp only [rc71, rs71, Qaa, Qab, Qae, Qa7, Qnj, Qaf, Qa6, Qa1, Fam.step, Qag, evO, opv, qv, ldV, V.cells, Qau, Qa9, Qa5, Qa2, Qa0, Qa3, ↓reduceIte, Nat.reduceEqDiff, Nat.reduceAdd, Nat.reduceLeDiff, Qc, Qd, Qb, Qe, Qt, Qq, Qx, vw_i, Qay, Qax, zipA, Qf, Qj, Qa, true_and, and_self, Qa8]
 obtain ⟨T, hT⟩ : ∃ T : Nat → List Int, T = fun i => ((ints c.spring.low c.spring.high).take i).filter (Qe9 c) := ⟨_, rfl⟩
 have hlen : ∀ i, (T i).length ≤ 41 := fun i => by
  rw [hT]
  refine Xz (Xr _ _) ?_
  rw [X7, Qfd]; omega
 refine Qc6 (c.spring.high + 1 - c.spring.low).toNat (fun i => ⟨lkp [(1, .pa (Qa8 c)), (3, .rf 0 (T i).length 0 (T i).length 1), (4, .i (c.spring.low + i))], [.cells (T i).length ((T i).map V.i)]⟩) ?_ ?_ ?_
 ·have h0 : T 0 = [] := by rw [hT]; rfl
  simp only [Qz, Xg, h0, kp, Qa0, Qa3, ↓reduceIte, Nat.reduceEqDiff, Qc, Qd, Qe, Qa8]
 ·intro i hi
  have hx := Qga hi
  have hlt : c.spring.low + (i : Int) ≤ c.spring.high := by omega
  have h3 : inI (c.spring.low + (i : Int) + 1) := by unfold inI; omega
  have g1 := h34 c (c.spring.low + i)
  unfold Qa8 at g1
  have hw : isTB c (c.spring.low + i) = Qe9 c (c.spring.low + i) := by
   have : Qak (c.spring.low + i) c.spring.low c.spring.high = true := by simp only [Qak, Zu, decide_eq_true_eq]; omega
   simp [isTB, this]
  have hs : T (i + 1) = if Qe9 c (c.spring.low + i) = true then T i ++ [c.spring.low + i] else T i := by
   rw [hT]
   simp only [Qbk hx, Xy, X8, Ja]
   split <;> simp
  have hl1 := hlen i
  have hl2 : ((T i).map V.i).length = (T i).length := by simp
  have hfl : Qbl ((T i).length + 1) := by unfold Qbl; omega
  have happ : (T i).map V.i ++ [V.i (c.spring.low + i)] = (T i ++ [c.spring.low + (i : Int)]).map V.i := by simp
  simp only [hlt, g1, h, hw, Qal, Qaa, Qab, Qaj, Qbn, Qae, Qa7, Qfk, putB, Qaf, Qao, Qa6, Qa1, Fam.step, Qag, Qbx, Qb0, putB, nv, sv, Qd7, evO, opv, qv, binV, ldV, Qav, Qas, putAt, Qba, Qbp, V.cells, Qau, Qb7, Qa9, Qa5, flat, kp, Qa2, Qa0, Qa3, ↓reduceIte, Nat.reduceEqDiff, Nat.reduceAdd, Nat.reduceMul, Nat.reduceLT, Nat.reduceLeDiff, Qc, Qd, Qv, Qu, Qb, Qe, Qn, Qt, Qi, Q8, Qr, Qq, Q0, Qx, Qh, Qk, Zb, Q1, Zh, vw_i, Qay, Qax, Qf, Qo, Qj, Qa, decide_true, true_and, and_self, implies_true, reduceCtorEq, not_false_eq_true, ne_eq, Ql, Zn, Qa8]
  refine ⟨fun e => ?_, fun e => ?_⟩
  ·rw [if_pos e] at hs
   simp only [hs, hfl, happ, h3, Xd, Q5, Q6, Xk, Z9, Z6, Qb, Qe, Qf, Qb, Qe, Qh, Qf, true_and, and_self]
   rw [Z3]
  ·rw [if_neg (by simp [e])] at hs
   simp only [hs, h3, Q5, Q6, true_and]
   rw [Z3]
 ·have hgt : ¬ (c.spring.low + ((c.spring.high + 1 - c.spring.low).toNat : Int) ≤ c.spring.high) := by omega
  have hE : T (c.spring.high + 1 - c.spring.low).toNat = Qa4 c := by
   rw [hT]
   simp only
   rw [List.take_of_length_le (by rw [Qfd]; omega)]; rfl
  simp only [hgt, hE, Xd, Zz, Qmm, vw_I, Qaa, Qab, Qaj, Qb2, Qah, Qa7, Qaf, Qao, Qa6, Qa1, Fam.step, Qag, evO, opv, qv, binV, ldV, Qa2, Qa0, Qa3, ↓reduceIte, Nat.reduceEqDiff, Nat.reduceAdd, Nat.reduceLeDiff, Qc, Qd, Qb, Qe, Qn, Qt, Qq, Qk, endQ, rvs, rv1, resV, Qho, Qf, Qa, decide_false, and_self, Ql, Qa8]
noncomputable def H31 : Gam := (H30.ext 18 (cst (.b true))).ext 71 (fnG eC1 dC1 OkC Qa4 fun l => .sl 1 (l.map eI))
theorem Qtb : GOk Try.prog H31 := (Qta.ext (f := 18) (r := cst (.b true)) (fun a w => Try.call18 a w) (Qos W18)).ext (f := 71) (fun a w => Try.call71 a w) (Qaw (e := eC1) (d := dC1) (ok := OkC) (g := Qa4) (eb := fun l => .sl 1 (l.map eI)) fun c h => W71 c h)
theorem h18 : H31 18 [] = (True, .b true) := rfl
theorem h71 (c : Cane) : H31 71 [.ag (Qa8 c)] = (OkC c, .sl 1 ((Qa4 c).map eI)) := (show H31 71 _ = fnG eC1 dC1 OkC Qa4 (fun l => .sl 1 (l.map eI)) (eC1 c) from rfl).trans (Qb3 _ (Qiu _))
theorem Qun (n lo hi : Int)  : H31 56 [.i n, .i lo, .i hi] = (True, .b (Qak n lo hi)) := h56 n lo hi
theorem Qum (c : Cane) (b i : Int)  : H31 37 [.ag (Qa8 c), .i b, .i i] = (Qd2 c i, .b (Qdw c b i)) := h37 c b i
theorem Qul (c : Cane)  : H31 16 [.ag (Qa8 c)] = (True, .i (Qc7 c)) := h16 c
theorem Quo (w : Span)  : H31 89 [.ag (Qai w)] = (True, .b (Qb9 w 540)) := h89 w
theorem W42 (c : Cane) (h : OkC c) : Qad Try.prog 42 [.ag (Qa8 c)] (.sl 1 ((Qa4 c).map eI)) := by
 refine Qac Qtb hmix Try.func42 cb42 cc42 cs42 cn42 ?_
 have g1 := h71 c
 unfold Qa8 at g1
 simp only [rc42, rs42, g1, h, Qaa, Qab, Qah, Qa7, Qaf, Qa6, Qa1, Fam.step, Qag, evO, opv, qv, ldV, Qav, V.cells, Qau, Qa9, Qa5, flat, Qa2, Qa0, Qa3, ↓reduceIte, Nat.reduceEqDiff, Nat.reduceAdd, Nat.reduceLT, Nat.reduceLeDiff, Qc, Qd, Qb, Qe, Qi, Qr, Qh, endQ, rvs, rv1, resV, vw_i, Qay, Qax, zipA, Qf, Qj, Qa, and_self, imp_self, Qa8]
theorem Qdl {c : Cane} (h : OkC c) (b : Int) (i : Nat) : Qdw c b i = true ↔ 1 ≤ b ∧ b ≤ Qbw c i := by
 have h1 := h.limit
 have h2 := h.tire
 have h3 : 0 ≤ c.tire * (i : Int) := Int.mul_nonneg h2.1 (by omega)
 simp only [Qdw, Qbw, Zu, decide_eq_true_eq]
 omega
theorem Qmk {c : Cane} (h : OkC c) (l : List Int) : areB c l = true ↔ l.length ≤ 6 ∧ Poss c l := by
 unfold areB Poss
 simp only [Zu, decide_eq_true_eq, Zo, List.mem_range, Qdl h]
theorem W62 (c : Cane) (l : List Int) (w : Span) : Qad Try.prog 62 [.ag (Qa8 c), .sl 1 (l.map eI), .ag (Qai w)] (.tp [.sl 1 ((stL c w l).map eI), .i (stE c w l)]) := by
 refine Qac Qtb hmix Try.func62 cb62 cc62 cs62 cn62 ?_
 have g1 := Qul c
 have g2 := Quo w
 have g4 := h71 c
 unfold Qa8 at g1 g4
 unfold Qai at g2
 simp only [rc62, rs62, g1, Qal, Qaa, Qab, Qaj, Qbn, Qae, Qah, Qa7, Qaf, Qa6, Qa1, Fam.step, Qag, Qbo, Qbd, ug, evO, opv, qv, binV, ldV, lenV, Qav, V.cells, Qau, Qa9, Qa5, flat, Qa2, Qa0, Qa3, ↓reduceIte, Nat.reduceEqDiff, Nat.reduceAdd, Nat.reduceLT, Nat.reduceLeDiff, Qc, Qd, Qv, Qu, Qb, Qe, Qi, Qr, Qh, Qw, endQ, rvs, rv1, resV, vw_i, vw_z, Qay, Qax, Qco, zipA, Qf, Qo, Qy, Qj, Qa, decide_eq_true_eq, decide_eq_false_iff_not, true_and, and_true, and_self, false_implies, implies_true, reduceCtorEq, beq_false, Q2, imp_self, Ql, Zn, Classical.not_not, Qai, Qa8]
 refine ⟨fun h => ?_, fun h => ?_⟩
 ·have e : stE c w l = Qc7 c := by unfold stE; rw [if_pos h]
  have e2 : stL c w l = [] := by unfold stL; rw [e, if_neg h]
  simp only [e, e2, Qd]
 ·have hC := Qg3.1 h
  simp only [g2, Qaq, decide_eq_true_eq, true_and, and_true, Qh0, imp_self]
  refine ⟨fun hb => ?_, fun hb => ?_⟩
  ·have e : stE c w l = 1 := by
    unfold stE
    rw [if_neg (by simp [h]), if_pos]
    by_cases h1 : Qb9 w 540 = true
    ·left
     simp [h1] at hb
     omega
    ·right; left; simpa using h1
   have e2 : stL c w l = [] := by unfold stL; rw [e]; rfl
   simp only [e, e2, Qd]
  ·have hl6 : l.length ≤ 6 ∧ Qb9 w 540 = true := by
    simp only [Xe, decide_eq_false_iff_not, Zx] at hb
    exact ⟨by omega, hb.2⟩
   refine Qbu l.length (fun i => ⟨lkp [(1, .sl 1 (l.map eI)), (3, .pa (Qa8 c)), (9, .i i)], []⟩) (fun i => ∀ (j : Nat) n, j < i → l[j]? = some n → Qak n 1 90 = true) ?_ ?_ ?_ ?_
   ·simp only [Qz, kp, Qa0, Qa3, ↓reduceIte, Nat.reduceEqDiff, Qc, Qd, Qa8]
   ·intro j n hj; omega
   ·intro i hi hcr
    obtain ⟨n, hn⟩ : ∃ n, l[i]? = some n := ⟨_, Qm hi⟩
    have hlt : (i : Int) < l.length := by omega
    have h4 : inI ((i : Int) + 1) := by unfold inI; omega
    simp only [hn, hlt, Qun, h4, Q5, Q6, Qal, Qaa, Qab, Qaj, Qbn, Qae, Qah, Qa7, Qaf, Qao, Qa6, Qa1, Fam.step, Qag, evO, opv, qv, binV, ldV, iadV, lenV, Qav, Qa9, Qa5, flat, kp, Qa2, Qa0, Qa3, ↓reduceIte, Nat.reduceEqDiff, Nat.reduceLT, Nat.reduceLeDiff, Qc, Qd, Qb, Qe, Qq, Qh, Qw, Qp, endQ, rvs, rv1, resV, vw_i, vw_z, Qco, Zk, Qf, Qj, Qa, decide_true, true_and, and_true, and_self, implies_true, Zf, Q2, Ql, Za, Qg, Zc, Xl, Qa8, eI]
    refine ⟨fun hw => ?_, fun hw => ?_⟩
    ·have e : stE c w l = 1 := by
      unfold stE
      rw [if_neg (by simp [h]), if_pos]
      right; right
      rw [Q4]
      exact ⟨n, Ze hn, by simpa using hw⟩
     have e2 : stL c w l = [] := by unfold stL; rw [e]; rfl
     simp only [e, e2, Qd]
    ·intro j m hj hm
     by_cases hji : j < i
     ·exact hcr j m hji hm
     ·have : j = i := by omega
      subst this
      rw [hn] at hm; cases hm
      simpa using hw
   ·intro hcr
    have h77 : ¬ ((l.length : Int) < l.length) := by omega
    have hns : ¬ (6 < l.length ∨ Qb9 w 540 = false ∨ (l.any fun n => !Qak n 1 90) = true) := by
     rintro (h1 | h1 | h1)
     ·omega
     ·rw [hl6.2] at h1; cases h1
     ·rw [Q4] at h1
      obtain ⟨n, hn, hn2⟩ := h1
      obtain ⟨j, hj⟩ := Xu hn
      rw [hcr j n (Qam hj) hj] at hn2
      cases hn2
    simp only [h77, Qaa, Qab, Qaj, Qae, Qb2, Qa7, Qaf, Qao, Qa6, Qa1, Fam.step, Qag, evO, opv, qv, binV, lenV, Qa2, Qa0, Qa3, ↓reduceIte, Nat.reduceEqDiff, Qc, Qd, Qa, decide_false, true_and, Ql, Qa8]
    refine Qbu l.length (fun i => ⟨lkp [(1, .sl 1 (l.map eI)), (3, .pa (Qa8 c)), (10, .i i)], []⟩) (fun i => ∀ j : Nat, j < i → ¬ Qbw c j < l.getD j 0) ?_ ?_ ?_ ?_
    ·simp only [Qz, kp, Qa0, Qa3, ↓reduceIte, Nat.reduceEqDiff, Qc, Qd, Qa8]
    ·intro j hj; omega
    ·intro i hi hc2
     obtain ⟨n, hn⟩ : ∃ n, l[i]? = some n := ⟨_, Qm hi⟩
     have hd : l.getD i 0 = n := by rw [Qg, hn]; rfl
     have hlt : (i : Int) < l.length := by omega
     have h4 : inI ((i : Int) + 1) := by unfold inI; omega
     have g5 := Qum c n i
     unfold Qa8 at g5
     have hm := hC.most (i := i) (by unfold tame; omega)
     have hw := hcr i n hi hn
     have hp := Qdl hC n i
     simp only [Qak, Zu, decide_eq_true_eq] at hw
     simp only [hn, hlt, g5, hm, h4, Q5, Q6, Qal, Qaa, Qbi, Qab, Qaj, Qbn, Qae, Qah, Qa7, Qb5, Qaf, Qao, Qa6, Qa1, Fam.step, Qag, runX, eff, Qb4, fpR, fpQ, fpV, Qby, hits, evO, opv, qv, binV, ldV, iadV, lenV, Qav, Qa9, Qa5, flat, kp, Qa2, Qa0, Qa3, ↓reduceIte, Nat.reduceEqDiff, Nat.reduceAdd, Nat.reduceLT, Nat.reduceLeDiff, Qc, Qd, Qu, Qb, Qe, Qi, Qr, Qq, Q0, Qx, Qh, Qw, Qp, Zg, Q1, Zp, endQ, rvs, rv1, resV, vw_i, vw_z, Qay, Qax, Qco, Zk, Qf, Qo, Qy, Zj, Qj, Q3, Q9, Qa, decide_true, true_and, and_true, and_self, implies_true, Zf, Zy, Zl, Q2, Ql, Za, Qg, Zc, Xl, Qa8, eI]
     refine ⟨fun hq => ?_, fun hq => ?_⟩
     ·have e0 : Qew c l = true := by
       unfold Qew
       rw [Q4]
       refine ⟨i, by simpa using hi, ?_⟩
       rw [hd, decide_eq_true_eq]
       have : ¬ Qdw c n i = true := by simpa using hq
       rw [hp] at this
       omega
      have e : stE c w l = 61 := by unfold stE; rw [if_neg (by simp [h]), if_neg hns, if_pos e0]
      have e2 : stL c w l = [] := by unfold stL; rw [e]; rfl
      simp only [e, e2, Qd]
     ·intro j hj
      by_cases hji : j < i
      ·rw [← Qg]; exact hc2 j hji
      ·have : j = i := by omega
       subst this
       rw [← Qg, hd]
       have := hp.1 (by simpa using hq)
       omega
    ·intro hc2
     have e0 : ¬ Qew c l = true := by
      unfold Qew
      rw [Q4]
      rintro ⟨i, hi, hi2⟩
      exact hc2 i (by simpa using hi) (by simpa using hi2)
     simp only [h77, g4, hC, Qal, Qaa, Qab, Qaj, Qbn, Qb2, Qah, Qa7, Qaf, Qao, Qa6, Qa1, Fam.step, Qag, evO, opv, qv, binV, ldV, lenV, Qav, Qa9, Qa5, flat, Qa2, Qa0, Qa3, ↓reduceIte, Nat.reduceEqDiff, Nat.reduceAdd, Nat.reduceLT, Nat.reduceLeDiff, Qc, Qd, Qb, Qe, Qi, Qr, Qh, Qw, endQ, rvs, rv1, resV, vw_i, vw_z, Qay, Qax, Qco, Qf, Qj, Qa, decide_false, decide_eq_true_eq, true_and, and_self, imp_self, Ql, Qa8]
     refine ⟨fun ht => ?_, fun ht => ?_⟩
     ·have ht : Qa4 c = [] := Xc (by omega)
      have e : stE c w l = 3 := by unfold stE; rw [if_neg (by simp [h]), if_neg hns, if_neg e0, if_pos ht]
      have e2 : stL c w l = [] := by unfold stL; rw [e]; rfl
      simp only [e, e2, Qd]
     ·have ht : ¬ Qa4 c = [] := fun e => by rw [e] at ht; simp at ht
      have e : stE c w l = 0 := by unfold stE; rw [if_neg (by simp [h]), if_neg hns, if_neg e0, if_neg ht]
      have e2 : stL c w l = Qa4 c := by unfold stL; rw [if_pos e]
      simp only [e, e2]
end Go.C06
set_option linter.unusedSimpArgs false
set_option linter.unusedVariables false
namespace Go.C06
open Go.Fam Go.Proofs
variable {Γ : Gam}
noncomputable def H32 : Gam := (H31.ext 42 (fnG eC1 dC1 OkC Qa4 fun l => .sl 1 (l.map eI))).ext 62 (fnG eCLS dCLS (fun _ => True) (fun a => (stL a.1 a.2.2 a.2.1, stE a.1 a.2.2 a.2.1)) fun r => .tp [.sl 1 (r.1.map eI), .i r.2])
theorem Qtc : GOk Try.prog H32 := (Qtb.ext (f := 42) (fun a w => Try.call42 a w) (Qaw (e := eC1) (d := dC1) (ok := OkC) (g := Qa4) (eb := fun l => .sl 1 (l.map eI)) fun c h => W42 c h)).ext (f := 62) (fun a w => Try.call62 a w)
 (Qaw (e := eCLS) (d := dCLS) (ok := fun _ => True) (g := fun a => (stL a.1 a.2.2 a.2.1, stE a.1 a.2.2 a.2.1)) (eb := fun r => .tp [.sl 1 (r.1.map eI), .i r.2]) fun a _ => W62 a.1 a.2.1 a.2.2)
theorem h42 (c : Cane) : H32 42 [.ag (Qa8 c)] = (OkC c, .sl 1 ((Qa4 c).map eI)) := (show H32 42 _ = fnG eC1 dC1 OkC Qa4 (fun l => .sl 1 (l.map eI)) (eC1 c) from rfl).trans (Qb3 _ (Qiu _))
theorem h62 (c : Cane) (l : List Int) (w : Span) : H32 62 [.ag (Qa8 c), .sl 1 (l.map eI), .ag (Qai w)] = (True, .tp [.sl 1 ((stL c w l).map eI), .i (stE c w l)]) :=
 (show H32 62 _ = fnG eCLS dCLS (fun _ => True) (fun a => (stL a.1 a.2.2 a.2.1, stE a.1 a.2.2 a.2.1)) (fun r => .tp [.sl 1 (r.1.map eI), .i r.2]) (eCLS (c, l, w)) from rfl).trans (Qb3 _ (Qs2 _))
theorem Quq (n lo hi : Int)  : H32 56 [.i n, .i lo, .i hi] = (True, .b (Qak n lo hi)) := h56 n lo hi
theorem Qup (l : List Int) (k : Int)  : H32 21 [.sl 1 (l.map eI), .i k] = (Qd8 l ∧ tame 1000 k, .i (Qaz l k)) := h21 l k
theorem W27 (c : Cane) : Qad Try.prog 27 [.ag (Qa8 c)] (.tp [.sl 1 ((stL c ⟨0, 0⟩ []).map eI), .i (stE c ⟨0, 0⟩ [])]) := by
 refine Qac Qtc hmix Try.func27 cb27 cc27 cs27 cn27 ?_
 have g1 := h62 c [] ⟨0, 0⟩
 unfold Qa8 Qai at g1
 simp only [Qd] at g1
 simp only [rc27, rs27, g1, Qaa, Qab, Qah, Qa7, Qaf, Qa6, Qa1, Fam.step, Qag, evO, opv, qv, ldV, Qav, Qas, Qba, V.cells, Qau, Qa9, Qa5, flat, Qcp, Qa2, Qa0, Qa3, ↓reduceIte, Nat.reduceEqDiff, Nat.reduceAdd, Nat.reduceLT, Nat.reduceLeDiff, Qc, Qd, Qb, Qe, Qi, Qr, Qh, Qk, Qs, Qw, Qp, endQ, rvs, rv1, resV, vw_i, vw_z, Qay, Qax, Qco, zipA, Qf, Qo, Qy, Qj, Qa, and_self, imp_self, Qa8]
theorem W70 (ks l : List Int) (w : Span) (h : Qd8 l ∧ ks.length ≤ 1000 ∧ ∀ k ∈ ks, tame 1000 k) : Qad Try.prog 70 [.sl 1 (ks.map eI), .sl 1 (l.map eI), .ag (Qai w)] (.i (Qcm l w ks)) := by
 refine Qac Qtc hmix Try.func70 cb70 cc70 cs70 cn70 ?_
 simp only [rc70, rs70, Qaa, Qab, Qae, Qa7, Qaf, Qa6, Qa1, Fam.step, Qag, evO, opv, qv, V.cells, Qau, Qa9, Qa5, Qa2, Qa0, Qa3, ↓reduceIte, Nat.reduceEqDiff, Nat.reduceAdd, Qc, Qd, vw_i, Qax, zipA, Qf, Qj, true_and, and_self, reduceCtorEq, Qai]
 refine Qc6 ks.length (fun i => ⟨lkp [(0, .sl 1 (ks.map eI)), (1, .sl 1 (l.map eI)), (5, .pa (Qai w)), (7, .i (Qcm l w (ks.take i))), (8, .i i)], []⟩) ?_ ?_ ?_
 ·simp only [Qz, Qcm, List.countP_nil, kp, Qa0, Qa3, ↓reduceIte, Nat.reduceEqDiff, Qc, Qd, Q8, reduceCtorEq, Qai]
 ·intro i hi
  obtain ⟨k, hk⟩ : ∃ k, ks[i]? = some k := ⟨_, Qm hi⟩
  have hlt : (i : Int) < ks.length := by omega
  have t1 := h.2.2 k (Ze hk)
  have hks := h.2.1
  have hg : Qcm l w (ks.take i) ≤ i := Xz List.countP_le_length (by simp; omega)
  have h4 : inI ((i : Int) + 1) ∧ inI ((Qcm l w (ks.take i) : Int) + 1) := by unfold inI; omega
  have hct : ∀ q : Bool, Qak (Qaz l k) w.low w.high = q → (Qcm l w (ks.take (i + 1)) : Int) = Qcm l w (ks.take i) + (if q = true then 1 else 0) := by
   rintro q rfl
   unfold Qcm
   rw [Qbk hk, List.countP_append, List.countP_singleton]
   split <;> simp
  simp only [hk, hlt, Qup, h.1, t1, Quq, Q5, Q6, Qal, Qaa, Qbi, Qab, Qaj, Qbn, Qae, Qa7, Qb5, Qaf, Qao, Qa6, Qa1, Fam.step, Qag, runX, eff, Qb4, fpR, fpQ, fpV, Qby, hits, evO, opv, qv, binV, ldV, iadV, lenV, Qav, Qa9, Qa5, flat, kp, Qa2, Qa0, Qa3, ↓reduceIte, Nat.reduceEqDiff, Nat.reduceAdd, Nat.reduceLT, Nat.reduceLeDiff, Qc, Qd, Qu, Qb, Qe, Qn, Qt, Qq, Q0, Qx, Qh, Qw, Qp, Zg, Q1, Zp, vw_i, Qay, Zk, Qf, Qo, Qy, Zj, Qj, Q3, Q9, Qa, decide_true, true_and, and_self, implies_true, reduceCtorEq, Zf, Zy, Zl, Ql, Za, Qg, Zc, Zn, Qai, eI]
  refine ⟨fun e => ?_, fun e => ?_⟩
  ·simp only [h4, hct true e, ↓reduceIte, and_self]
  ·simp only [h4, hct false e, Xg, ↓reduceIte, Qa, and_self]
 ·simp only [X9, Qaa, Qab, Qaj, Qb2, Qah, Qa7, Qaf, Qao, Qa6, Qa1, Fam.step, Qag, evO, opv, qv, binV, lenV, Qa2, Qa0, Qa3, ↓reduceIte, Nat.reduceEqDiff, Qc, Qd, endQ, rvs, rv1, resV, vw_i, Zt, Qa, decide_false, and_self, reduceCtorEq, Ql, Qai]
def Qii (a : List Int × List Int × Span) : Prop := Qd8 a.2.1 ∧ a.1.length ≤ 1000 ∧ ∀ k ∈ a.1, tame 1000 k
def eLLS (a : List Int × List Int × Span) : List V := [.sl 1 (a.1.map eI), .sl 1 (a.2.1.map eI), .ag (Qai a.2.2)]
def dLLS : List V → List Int × List Int × Span | [.sl _ k, .sl _ l, .ag w] => (k.map dI, l.map dI, Qdo w) | _ => ([], [], Qdo [])
theorem Qv6 (a : List Int × List Int × Span) : dLLS (eLLS a) = a := by obtain ⟨k, l, w⟩ := a; simp [dLLS, eLLS, Function.comp_def, Qhj, Qed]
noncomputable def H33 : Gam := H32.ext 70 (fnG eLLS dLLS Qii (fun a => (Qcm a.2.1 a.2.2 a.1 : Int)) .i)
theorem Qih : GOk Try.prog H33 := Qtc.ext (f := 70) (fun a w => Try.call70 a w) (Qaw (e := eLLS) (d := dLLS) (ok := Qii) (g := fun a => (Qcm a.2.1 a.2.2 a.1 : Int)) (eb := .i) fun a h => W70 a.1 a.2.1 a.2.2 h)
theorem h70 (ks l : List Int) (w : Span) : H33 70 [.sl 1 (ks.map eI), .sl 1 (l.map eI), .ag (Qai w)] = (Qii (ks, l, w), .i (Qcm l w ks)) :=
 (show H33 70 _ = fnG eLLS dLLS Qii (fun a => (Qcm a.2.1 a.2.2 a.1 : Int)) .i (eLLS (ks, l, w)) from rfl).trans (Qb3 _ (Qv6 _))
theorem Qrz (c : Cane) (l : List Int) (w : Span)  : H33 62 [.ag (Qa8 c), .sl 1 (l.map eI), .ag (Qai w)] = (True, .tp [.sl 1 ((stL c w l).map eI), .i (stE c w l)]) := h62 c l w
theorem Qry (l : List Int) (k : Int)  : H33 21 [.sl 1 (l.map eI), .i k] = (Qd8 l ∧ tame 1000 k, .i (Qaz l k)) := h21 l k
theorem Qus (c : Cane)  : H33 16 [.ag (Qa8 c)] = (True, .i (Qc7 c)) := h16 c
theorem Qur (c : Cane)  : H33 15 [.ag (Qa8 c)] = (True, .b (farB c)) := h15 c
theorem W40 (c : Cane) (l : List Int) (w : Span) : Qad Try.prog 40 [.ag (Qa8 c), .sl 1 (l.map eI), .ag (Qai w)] (.tp [.i (Qdp c l w).1, .i (Qdp c l w).2]) := by
 refine Qac Qih hmix Try.func40 cb40 cc40 cs40 cn40 ?_
 have g1 := Qrz c l w
 have g2 := h70 (stL c w l) l w
 unfold Qa8 Qai at g1
 unfold Qai at g2
 simp only [rc40, rs40, g1, g2, Qal, Qaa, Qab, Qaj, Qbn, Qae, Qah, Qa7, Qaf, Qao, Qa6, Qa1, Fam.step, Qag, evO, opv, qv, binV, ldV, lenV, Qav, V.cells, Qau, Qa9, Qa5, flat, Qcp, Qa2, Qa0, Qa3, ↓reduceIte, Nat.reduceEqDiff, Nat.reduceAdd, Nat.reduceLT, Nat.reduceLeDiff, Qc, Qd, Qb, Qe, Qi, Qr, Qh, Qk, Qs, Qw, Qp, endQ, rvs, rv1, resV, vw_i, Qay, Qax, Qco, zipA, Qf, Qo, Qy, Qj, Qa, decide_eq_true_eq, decide_eq_false_iff_not, true_and, and_true, and_self, implies_true, reduceCtorEq, Q2, imp_self, Ql, Classical.not_not, Qai, Qa8]
 refine ⟨fun h => ?_, fun h => ?_⟩
 ·simp only [Qdp, if_neg h]
 ·obtain ⟨h1, h2, h3, h4, h5, h6, h7⟩ := Qkg h
  have hlen := Qc9 c h1
  have hs : Qd8 l := ⟨by omega, fun n hn => by have := h4 n hn; unfold tame; omega⟩
  have hm : Qii (stL c w l, l, w) := ⟨hs, by rw [h7]; show (Qa4 c).length ≤ 1000; omega, fun k hk => by rw [h7] at hk; have := Qcc h1 hk; unfold tame; omega⟩
  rw [h7] at hm
  simp only [hm, h7, Qdp, h, fitK, ↓reduceIte, true_and]
  refine ⟨fun e => ?_, fun e => ?_⟩
  ·have e : Qcm l w (Qa4 c) = (Qa4 c).length := by omega
   simp only [e, ↓reduceIte]
  ·have e : ¬ Qcm l w (Qa4 c) = (Qa4 c).length := by omega
   simp only [e, ↓reduceIte]
   refine ⟨fun e2 => ?_, fun e2 => ?_⟩
   ·have e2 : Qcm l w (Qa4 c) = 0 := by omega
    simp only [e2, ↓reduceIte]
   ·have e2 : ¬ Qcm l w (Qa4 c) = 0 := by omega
    simp only [e2, ↓reduceIte]
theorem W46 (c : Cane) (l : List Int) : Qad Try.prog 46 [.ag (Qa8 c), .sl 1 (l.map eI)] (.tp [.ag (Qai (Qd1 c l).1), .i (Qd1 c l).2]) := by
 refine Qac Qih hmix Try.func46 cb46 cc46 cs46 cn46 ?_
 have g1 := Qrz c l ⟨0, 0⟩
 unfold Qa8 Qai at g1
 simp only [rc46, rs46, g1, Qal, Qaa, Qbi, Qab, Qaj, Qbn, Qae, Qah, Qa7, Qb5, optL, putB, Qaf, Qa6, Qa1, Fam.step, Qag, Qbx, Qb0, runX, eff, Qb4, fpR, fpQ, fpV, Qby, hits, putB, nv, sv, evO, opv, qv, binV, ldV, iadV, Qav, Qas, putAt, Qba, V.cells, Qau, Qb7, Qa9, Qa5, flat, Qcp, Qa2, Qb8, Qa0, Qa3, ↓reduceIte, Nat.reduceEqDiff, Nat.reduceAdd, Nat.reduceLT, Nat.reduceLeDiff, Int.toNat_zero, Int.reduceLE, Qc, Qd, Qv, Qu, Qb, Qe, Qn, Qt, Zs, Qi, Q8, Qr, Q0, Qx, Qh, Qk, Qs, Qw, Qp, Zg, Zb, Z5, Q1, Zh, Zp, Xm, endQ, rvs, rv1, resV, vw_i, Qay, Qax, Qco, zipA, Qf, X0, Qo, Qy, Xa, Zj, Qj, Z4, Q3, Q9, Qa, decide_eq_false_iff_not, true_and, and_true, and_self, reduceCtorEq, Xw, Zy, Xh, Zl, Q2, imp_self, Ql, Qg, Zc, Classical.not_not, Qai, Qa8]
 refine ⟨fun h => ?_, fun h => ?_⟩
 ·simp only [Qd1, if_neg h]
 ·obtain ⟨h1, h2, h3, h4, h5, h6, h7⟩ := Qkg h
  have hlen := Qc9 c h1
  have hpos : 0 < (Qa4 c).length := Zr.2 h6
  obtain ⟨b, hb⟩ : ∃ b, (Qa4 c)[0]? = some b := ⟨_, Qm hpos⟩
  have hb2 := Qcc h1 (Ze hb)
  have hs : Qd8 l := ⟨by omega, fun n hn => by have := h4 n hn; unfold tame; omega⟩
  have i3 : (0 : Int) < (Qa4 c).length := by omega
  have t2 : tame 1000 b := by unfold tame; omega
  have hlow : ∀ i : Nat, i < (Qa4 c).length → ∃ k, (Qa4 c)[i]? = some k ∧ (Qa4 c).getD i 0 = k ∧ tame 1000 k ∧ Qaz l k ≤ Qaz l b ∧ Qaz l k ≤ Qaz l ((Qa4 c).getD (i - 1) 0) := by
   intro i hi
   obtain ⟨k, hk⟩ : ∃ k, (Qa4 c)[i]? = some k := ⟨_, Qm hi⟩
   have hk2 := Qcc h1 (Ze hk)
   have hd : (Qa4 c).getD i 0 = k := by rw [Qg, hk]; rfl
   have e0 : (Qa4 c).getD 0 0 = b := by rw [Qg, hb]; rfl
   have hends := Qir (Qd0 c) (Ze hk)
   rw [e0] at hends
   refine ⟨k, hk, hd, by unfold tame; omega, Qf9 hb2.1 hends.1 h4, ?_⟩
   by_cases hi0 : i = 0
   ·subst hi0
    rw [Nat.zero_sub, hd]; exact Zi _
   ·have hp := Zm.1 (Qd0 c) (i - 1) i (by omega) hi (by omega)
    obtain ⟨k', hk'⟩ : ∃ k, (Qa4 c)[i - 1]? = some k := ⟨_, Qm (by omega)⟩
    have hd' : (Qa4 c).getD (i - 1) 0 = k' := by rw [Qg, hk']; rfl
    have hk2' := Qcc h1 (Ze hk')
    rw [(Z0.1 hk).2, (Z0.1 hk').2] at hp
    rw [hd']
    exact Qf9 hk2'.1 (by omega) h4
  simp only [h7, i3, hb, Qry, hs, t2, Qb7, Qa9, flat, Nat.reduceAdd, Nat.reduceLeDiff, Qv, Qu, Qb, Qe, Qn, Qt, Zs, Qi, Q8, Qq, Q0, Qx, Qh, Qp, vw_i, Qf, Qo, Qa, true_and, and_self, implies_true, Zf, eI]
  refine ⟨?_, ?_⟩
  ·simp [Qvv, Qo9]
  refine Qc6 (Qa4 c).length (fun i => ⟨lkp [(1, .sl 1 (l.map eI)), (4, .ad 0 0 0), (6, .sl 1 ((Qa4 c).map eI)), (8, .ad 1 0 0), (9, .i i)], [.cells 0 [.i 0, .i 0], .cells 0 [.i (Qaz l ((Qa4 c).getD (i - 1) 0)), .i (Qaz l b)]]⟩) ?_ ?_ ?_
  ·have e0 : (Qa4 c).getD 0 0 = b := by rw [Qg, hb]; rfl
   simp only [Qz, Nat.zero_sub, e0, kp, Qa0, Qa3, ↓reduceIte, Nat.reduceEqDiff, Qc, Qd]
  ·intro i hi
   obtain ⟨k, hk, hd, tk, a1, a2⟩ := hlow i hi
   have hlt : (i : Int) < (Qa4 c).length := by omega
   have h5 : inI ((i : Int) + 1) := by unfold inI; omega
   have m1 : min (Qaz l ((Qa4 c).getD (i - 1) 0)) (Qaz l k) = Qaz l k := by omega
   have m2 : max (Qaz l b) (Qaz l k) = Qaz l b := by omega
   have hk2 : (Qa4 c)[i + 1 - 1]?.getD 0 = k := by rw [Z7, hk]; rfl
   rw [Qg] at m1
   simp only [hk, hlt, Qry, hs, tk, h5, Q5, Q6, m1, m2, hk2, Qal, Qaa, Qbi, Qab, Qaj, Qae, Qa7, Qb5, optL, Qaf, Qao, Qa6, Qa1, Fam.step, Qag, Qb0, runX, eff, Qb4, fpR, fpQ, fpV, Qby, hits, nv, sv, evO, opv, qv, binV, ldV, iadV, lenV, curG, Qav, Qas, putAt, Qba, V.cells, Qau, Qb7, Qa9, Qa5, flat, kp, Qa2, Qb8, Qa0, Qa3, ↓reduceIte, Nat.reduceEqDiff, Nat.reduceAdd, Nat.reduceLT, Nat.reduceLeDiff, Qc, Qd, Qv, Qu, Qb, Qe, Qn, Qt, Zs, Qi, Q8, Qq, Q0, Qx, Qh, Qk, Qs, Qw, Qp, Zg, Zb, Z5, Q1, Zp, Xm, vw_i, Qay, Zk, beq_self_eq_true, Qf, X0, Qo, Qy, Xa, Zj, Qj, Z4, Q3, Q9, Qa, decide_true, and_self, implies_true, Zf, Xw, Zy, Xh, Zl, Ql, Za, Qg, Zc, eI]
  ·have h77 : ¬ (((Qa4 c).length : Int) < (Qa4 c).length) := by omega
   have hb0 : (Qa4 c)[0]?.getD 0 = b := by rw [hb]; rfl
   simp only [h77, Qd1, h, Qol, hb0, Qaa, Qab, Qaj, Qb2, Qah, Qa7, putB, Qaf, Qao, Qa6, Qa1, Fam.step, Qag, Qbx, Qb0, putB, nv, sv, evO, opv, qv, binV, ldV, lenV, putAt, V.cells, Qau, Qb7, Qa2, Qb8, Qa0, Qa3, ↓reduceIte, Nat.reduceEqDiff, Nat.reduceAdd, Nat.reduceLeDiff, Qc, Qd, Qv, Qu, Qb, Qe, Qn, Qt, Zs, Qi, Q8, Qr, Qx, Qh, Qk, Qs, Zb, endQ, rvs, rv1, resV, vw_i, Qax, Qco, Qf, Qo, Qa, decide_false, and_self, Ql, Qg]
theorem eq61 : Qar Try.prog 61 3 := Qar.of (fs := _) (show Try.prog.underlying 61 = some (.struct (Try.prog.fieldsOf 61)) by kernel_rfl) (by kernel_rfl) (by kernel_rfl)
theorem W24 (c : Cane) (h : c.bents.length ≤ 1000000) : Qad Try.prog 24 [.ag (Qa8 c)] (.ag (Qa8 c)) := by
 refine Qac Qih hmix Try.func24 cb24 cc24 cs24 cn24 ?_
 have hfl : Qbl c.bents.length := by unfold Qbl; omega
 have k1 : Qct 3 ((c.bents.map eBent).flatten) 0 c.bents.length = c.bents.map eBent := Qgw (e := eBent) (k := 3) (fun _ => rfl) c.bents
 have k2 : ((c.bents.map eBent).flatten).length = c.bents.length * 3 := Qjr (e := eBent) (k := 3) (fun _ => rfl) c.bents
 have k3 : ∀ (hp : List Blk), (c.bents.map eBent).map (fun r => r.map (vw hp 6)) = c.bents.map eBent := fun hp => Qib (e := eBent) hp 6 (fun _ => rfl) c.bents
 simp only [rc24, rs24, Z9, Qx, hfl, k1, k2, k3, Zz, Qaa, Qab, Qah, Qa7, putB, Qaf, Qa6, Qa1, Fam.step, Qag, Qbx, Qb0, putB, nv, sv, Qd7, evO, opv, qv, ldV, curG, Qas, putAt, Qba, Qbp, V.cells, Qau, Qb7, Qa9, Qa5, Qa2, Qb8, Qa0, Qa3, ↓reduceIte, Nat.reduceEqDiff, Nat.reduceAdd, Nat.reduceMul, Nat.reduceLeDiff, Qc, Qd, Qv, Qu, Qb, Qe, Qn, Qt, Zs, Qi, Q8, Qr, Qq, Q0, Qx, Qh, Qk, Qs, Zb, Z5, Q1, endQ, rvs, rv1, resV, vw_i, Qay, Qax, Qho, zipA, beq_self_eq_true, Qf, Qo, Qj, Qa, and_self, Ql, Qa8]
theorem W29 (l m : List Int) (h : l.length ≤ 1000000) : Qad Try.prog 29 [.sl 1 (l.map eI), .sl 1 (m.map eI)] (.b (decide (l = m))) := by
 refine Qac Qih hmix Try.func29 cb29 cc29 cs29 cn29 ?_
 simp only [rc29, rs29, Qal, Qaa, Qab, Qaj, Qbn, Qae, Qah, Qa7, Qaf, Qa6, Qa1, Fam.step, Qag, evO, opv, qv, binV, lenV, Qa2, Qa0, Qa3, ↓reduceIte, Nat.reduceEqDiff, Qc, Qd, endQ, rvs, rv1, resV, vw_b, zipA, Qf, V.b.injEq, decide_eq_false_iff_not, true_and, and_self, reduceCtorEq, Q2, Ql, Classical.not_not]
 refine ⟨fun h1 => ?_, fun h1 => ?_⟩
 ·have : ¬ l = m := fun e => by rw [e] at h1; omega
  simp only [this, decide_false]
 ·have hlm : l.length = m.length := by omega
  refine Qbu l.length (fun i => ⟨lkp [(0, .sl 1 (l.map eI)), (1, .sl 1 (m.map eI)), (5, .i i)], []⟩) (fun i => ∀ j : Nat, j < i → l[j]? = m[j]?) ?_ ?_ ?_ ?_
  ·simp only [Qz, kp, Qa0, Qa3, ↓reduceIte, Nat.reduceEqDiff, Qc, Qd, reduceCtorEq]
  ·intro j hj; omega
  ·intro i hi hc
   obtain ⟨n, hn⟩ : ∃ n, l[i]? = some n := ⟨_, Qm hi⟩
   obtain ⟨n', hn'⟩ : ∃ n, m[i]? = some n := ⟨_, Qm (by omega)⟩
   have hlt : (i : Int) < l.length := by omega
   have hlt' : (i : Int) < m.length := by omega
   have h4 : inI ((i : Int) + 1) := by unfold inI; omega
   simp only [hn, hn', hlt, hlt', h4, Q5, Q6, Qal, Qaa, Qbi, Qab, Qaj, Qbn, Qae, Qah, Qa7, Qb5, Qaf, Qao, Qa6, Qa1, Fam.step, Qag, runX, eff, Qb4, fpR, fpQ, fpV, Qby, hits, evO, opv, qv, binV, ldV, iadV, lenV, kp, Qa2, Qa0, Qa3, ↓reduceIte, Nat.reduceEqDiff, Nat.reduceLeDiff, Qc, Qd, Qu, Qb, Qe, Qq, Q0, Qx, Qh, Qw, Qp, Zg, Q1, Zp, endQ, rvs, rv1, resV, vw_b, Zk, Qf, V.b.injEq, Qo, Qy, Zj, Qj, Q3, Q9, Qa, decide_true, decide_eq_false_iff_not, true_and, and_true, and_self, reduceCtorEq, Zf, Zy, Zl, Q2, Ql, Za, Qg, Zc, Classical.not_not, eI]
   refine ⟨fun hne => ?_, fun he => ?_⟩
   ·have : ¬ l = m := fun e => by rw [e, hn'] at hn; cases hn; exact hne rfl
    simp only [this, decide_false]
   ·intro j hj
    by_cases hji : j < i
    ·exact hc j hji
    ·have : j = i := by omega
     subst this
     rw [hn, hn', he]
  ·intro hc
   have h77 : ¬ ((l.length : Int) < l.length) := by omega
   have : l = m := List.ext_getElem? fun j => by
    by_cases hj : j < l.length
    ·exact hc j hj
    ·rw [Xs (by omega), Xs (by omega)]
   simp only [this, Qaa, Qab, Qaj, Qb2, Qah, Qa7, Qaf, Qao, Qa6, Qa1, Fam.step, Qag, evO, opv, qv, binV, lenV, Qa2, Qa0, Qa3, ↓reduceIte, Nat.reduceEqDiff, Qc, Qd, endQ, rvs, rv1, resV, vw_b, Zt, Qa, decide_true, decide_false, and_self, reduceCtorEq, Ql]
theorem W30 (c : Cane) (h : c.bents.length ≤ 1000000) : Qad Try.prog 30 [.ag (Qa8 c), .ag (Qa8 c)] (.b true) := by
 refine Qac Qih hmix Try.func30 cb30 cc30 cs30 cn30 ?_
 simp only [rc30, rs30, eq23, Qal, Qaa, Qab, Qaj, Qae, Qa7, Qaf, Qa6, Qa1, Fam.step, Qag, Qbo, Qbd, ug, evO, opv, qv, Qaq, binV, ldV, lenV, V.cells, Qau, Qcg, Qa9, Qa5, Qa2, Qa0, Qa3, ↓reduceIte, Nat.reduceEqDiff, Nat.reduceAdd, Nat.reduceLeDiff, Qc, Qd, Qv, Qu, Qb, Qe, Qn, Qt, Qi, Q8, Qq, vw_i, Qay, Qax, zipA, beq_self_eq_true, Qf, Qo, Qj, Q3, Qa, decide_true, true_and, and_self, forall_const, implies_true, reduceCtorEq, Zf, Bool.xor_self, Ql, Qa8]
 refine Qc6 c.bents.length (fun i => ⟨lkp [(2, .pa (Qa8 c)), (3, .pa (Qa8 c)), (5, .i i)], []⟩) ?_ ?_ ?_
 ·simp only [Qz, kp, Qa0, Qa3, ↓reduceIte, Nat.reduceEqDiff, Qc, Qd, Qa8]
 ·intro i hi
  obtain ⟨b, hb⟩ : ∃ b, c.bents[i]? = some b := ⟨_, Qm hi⟩
  have hlt : (i : Int) < c.bents.length := by omega
  have h4 : inI ((i : Int) + 1) := by unfold inI; omega
  simp only [hb, hlt, h4, eq61, Q5, Q6, Qal, Qaa, Qbi, Qab, Qaj, Qae, Qa7, Qb5, Qaf, Qao, Qa6, Qa1, Fam.step, Qag, runX, eff, Qb4, fpR, fpQ, fpV, Qby, hits, evO, opv, qv, binV, ldV, iadV, lenV, Qcg, kp, Qa2, Qa0, Qa3, ↓reduceIte, Nat.reduceEqDiff, Nat.reduceAdd, Nat.reduceLeDiff, Qc, Qd, Qu, Qb, Qe, Qn, Qt, Qi, Qr, Qq, Q0, Qx, Qh, Qw, Qp, Zg, Q1, Zp, Zk, Qf, Qo, Qy, Zj, Qj, Q3, Q9, Qa, decide_true, and_self, Zf, Zy, Zl, Bool.xor_self, Ql, Za, Qg, Zc, eBent, Qa8]
 ·have h77 : ¬ ((c.bents.length : Int) < c.bents.length) := by omega
  simp only [h77, Qaa, Qab, Qaj, Qb2, Qah, Qa7, Qaf, Qao, Qa6, Qa1, Fam.step, Qag, evO, opv, qv, binV, ldV, lenV, Qa2, Qa0, Qa3, ↓reduceIte, Nat.reduceEqDiff, Nat.reduceAdd, Nat.reduceLeDiff, Qc, Qd, Qb, Qe, Qn, Qt, Qq, endQ, rvs, rv1, resV, vw_b, Qf, Qa, decide_false, and_self, Ql, Qa8]
def farP (c : Cane) : Bool := farB c || (decide (Qc7 c = 0) && (decide ((3 : Int) < c.limit) && (decide ((14 : Int) < c.limit) || decide (4 * c.tire < c.limit))))
theorem W31 (c : Cane) : Qad Try.prog 31 [.ag (Qa8 c)] (.b (farP c)) := by
 refine Qac Qih hmix Try.func31 cb31 cc31 cs31 cn31 ?_
 have g1 := Qur c
 have g2 := Qus c
 unfold Qa8 at g1 g2
 by_cases hf : farB c = true
 ·simp only [rc31, rs31, g1, g2, hf, farP, Qaa, Qab, Qah, Qa7, Qaf, Qa6, Qa1, Fam.step, Qag, Qbo, Qbd, ug, evO, opv, qv, Qaq, binV, ldV, Qav, V.cells, Qau, Qa9, Qa5, flat, Qa2, Qa0, Qa3, ↓reduceIte, Nat.reduceEqDiff, Nat.reduceAdd, Nat.reduceLT, Nat.reduceLeDiff, Qc, Qd, Qv, Qu, Qb, Qe, Qn, Qt, Qi, Qr, Qq, Qh, endQ, rvs, rv1, resV, vw_i, vw_b, Qay, Qax, zipA, Qf, Qo, Qy, Zj, Qj, X1, Q3, Qa, Q7, decide_eq_true_eq, decide_eq_false_iff_not, true_and, and_true, and_self, false_and, forall_const, implies_true, beq_true, beq_false, Qfx, Qh0, Xf, imp_self, Qa8]
 ·by_cases he : Qc7 c = 0
  ·have hC := Qg3.1 he
   have ht := hC.tire
   have hi : inI (4 * c.tire) := by unfold inI; omega
   by_cases h3 : (3 : Int) < c.limit <;> by_cases h14 : (14 : Int) < c.limit <;> simp only [rc31, rs31, g1, g2, hf, he, hi, farP, h3, h14, Qaa, Qab, Qah, Qa7, Qaf, Qa6, Qa1, Fam.step, Qag, Qbo, Qbd, ug, evO, opv, qv, Qaq, binV, ldV, Qav, V.cells, Qau, Qa9, Qa5, flat, Qa2, Qa0, Qa3, ↓reduceIte, Nat.reduceEqDiff, Nat.reduceAdd, Nat.reduceLT, Nat.reduceLeDiff, Qc, Qd, Qv, Qu, Qb, Qe, Qn, Qt, Qi, Qr, Qq, Qh, endQ, rvs, rv1, resV, vw_i, vw_b, Qay, Qax, zipA, beq_self_eq_true, Qf, Qo, Qy, Xa, Zj, Zd, Qj, Z4, Xp, X1, Q3, Qa, Q7, decide_true, decide_false, and_true, and_self, and_false, forall_const, implies_true, beq_true, beq_false, imp_self, Qa8]
  ·simp only [rc31, rs31, g1, g2, hf, he, farP, Qaa, Qab, Qah, Qa7, Qaf, Qa6, Qa1, Fam.step, Qag, Qbo, Qbd, ug, evO, opv, qv, Qaq, binV, ldV, Qav, V.cells, Qau, Qa9, Qa5, flat, Qa2, Qa0, Qa3, ↓reduceIte, Nat.reduceEqDiff, Nat.reduceAdd, Nat.reduceLT, Nat.reduceLeDiff, Qc, Qd, Qv, Qu, Qb, Qe, Qn, Qt, Qi, Qr, Qq, Qh, endQ, rvs, rv1, resV, vw_i, vw_b, Qay, Qax, zipA, beq_self_eq_true, Qf, Qo, Qy, Zj, Zd, Qj, Qa, decide_false, decide_eq_true_eq, decide_eq_false_iff_not, true_and, and_true, and_self, false_and, forall_const, implies_true, beq_true, beq_false, Qh0, imp_self, Qa8]
def Qne (c : Cane) : Bool := !farP c && decide (Qc7 c = 0)
noncomputable def H34 : Gam := H33.ext 31 (fnG eC1 dC1 (fun _ => True) farP .b)
theorem Qvs : GOk Try.prog H34 := Qih.ext (f := 31) (fun a w => Try.call31 a w) (Qaw fun c _ => W31 c)
theorem h31 (c : Cane) : H34 31 [.ag (Qa8 c)] = (True, .b (farP c)) := (show H34 31 _ = fnG eC1 dC1 (fun _ => True) farP .b (eC1 c) from rfl).trans (Qb3 _ (Qiu _))
theorem Qut (c : Cane)  : H34 16 [.ag (Qa8 c)] = (True, .i (Qc7 c)) := h16 c
theorem W22 (c : Cane) : Qad Try.prog 22 [.ag (Qa8 c)] (.b (Qne c)) := by
 refine Qac Qvs hmix Try.func22 cb22 cc22 cs22 cn22 ?_
 have g1 := Qut c
 have g2 := h31 c
 unfold Qa8 at g1 g2
 simp only [rc22, rs22, g1, g2, Qaa, Qab, Qah, Qa7, Qaf, Qa6, Qa1, Fam.step, Qag, Qbo, Qbd, ug, evO, opv, qv, Qaq, binV, ldV, Qav, V.cells, Qau, Qa9, Qa5, flat, Qa2, Qa0, Qa3, ↓reduceIte, Nat.reduceEqDiff, Nat.reduceAdd, Nat.reduceLT, Nat.reduceLeDiff, Qc, Qd, Qv, Qu, Qb, Qe, Qi, Qr, Qh, endQ, rvs, rv1, resV, vw_i, vw_b, Qay, Qax, zipA, Qf, V.b.injEq, Qo, Qy, Qj, Qa, true_and, and_true, and_self, implies_true, beq_true, Zx, Q2, Qfx, Bool.decide_eq_false, imp_self, Qa8]
 by_cases hf : farP c = true <;> simp [hf, Qne]
theorem W23 (w : Span) : Qad Try.prog 23 [.ag (Qai w)] (.b (Qb9 w 540)) := by
 refine Qac Qih hmix Try.func23 cb23 cc23 cs23 cn23 ?_
 simp only [rc23, rs23, Qaa, Qab, Qah, Qa7, Qaf, Qa6, Qa1, Fam.step, Qag, Qbo, Qbd, ug, evO, opv, qv, Qaq, binV, ldV, V.cells, Qau, Qa9, Qa5, Qa2, Qa0, Qa3, ↓reduceIte, Nat.reduceEqDiff, Nat.reduceAdd, Nat.reduceLeDiff, Qc, Qd, Qv, Qu, Qb, Qe, Qn, Qt, Qq, endQ, rvs, rv1, resV, vw_i, vw_b, Qax, zipA, Qf, V.b.injEq, Qo, Qy, Qj, Qa, decide_eq_true_eq, decide_eq_false_iff_not, true_and, and_true, and_self, implies_true, beq_true, Qfx, Xf, imp_self, Qai]
 by_cases h : 0 ≤ w.low <;> by_cases h2 : w.low ≤ w.high <;> simp [h, h2, Qb9, Qak]
theorem W36 (w : Span) (n : Int) : Qad Try.prog 36 [.ag (Qai w), .i n] (.b (Qak n w.low w.high)) := by
 refine Qac Qih hmix Try.func36 cb36 cc36 cs36 cn36 ?_
 simp only [rc36, rs36, Qaa, Qab, Qah, Qa7, Qaf, Qa6, Qa1, Fam.step, Qag, Qbo, Qbd, ug, evO, opv, qv, Qaq, binV, ldV, V.cells, Qau, Qa9, Qa5, Qa2, Qa0, Qa3, ↓reduceIte, Nat.reduceEqDiff, Nat.reduceAdd, Nat.reduceLeDiff, Qc, Qd, Qv, Qu, Qb, Qe, Qn, Qt, Qq, endQ, rvs, rv1, resV, vw_i, vw_b, Qax, zipA, Qf, V.b.injEq, Qo, Qy, Qj, Qa, decide_eq_true_eq, decide_eq_false_iff_not, true_and, and_true, and_self, implies_true, reduceCtorEq, beq_true, Qfx, imp_self, Qai]
 by_cases h : w.low ≤ n <;> simp [h, Qak]
def Qno (a b : Span) : Bool := decide (a.low ≤ b.low) && decide (b.high ≤ a.high)
theorem W45 (a b : Span) : Qad Try.prog 45 [.ag (Qai a), .ag (Qai b)] (.b (Qno a b)) := by
 refine Qac Qih hmix Try.func45 cb45 cc45 cs45 cn45 ?_
 simp only [rc45, rs45, Qaa, Qab, Qah, Qa7, Qaf, Qa6, Qa1, Fam.step, Qag, Qbo, Qbd, ug, evO, opv, qv, Qaq, binV, ldV, V.cells, Qau, Qa9, Qa5, Qa2, Qa0, Qa3, ↓reduceIte, Nat.reduceEqDiff, Nat.reduceAdd, Nat.reduceLeDiff, Qc, Qd, Qv, Qu, Qb, Qe, Qn, Qt, Qq, endQ, rvs, rv1, resV, vw_i, vw_b, Qax, zipA, Qf, V.b.injEq, Qo, Qy, Qj, Qa, decide_eq_true_eq, decide_eq_false_iff_not, true_and, and_true, and_self, implies_true, reduceCtorEq, beq_true, Qfx, imp_self, Qai]
 by_cases h : a.low ≤ b.low <;> simp [h, Qno]
theorem W44 (l : List Int) (n : Int) (h : l.length ≤ 1000000) : Qad Try.prog 44 [.sl 1 (l.map eI), .i n] (.b (decide (n ∈ l))) := by
 refine Qac Qih hmix Try.func44 cb44 cc44 cs44 cn44 ?_
 simp only [rc44, rs44, Qaa, Qab, Qae, Qa7, Qaf, Qa6, Qa1, Fam.step, Qag, evO, opv, qv, Qa2, Qa0, Qa3, ↓reduceIte, Nat.reduceEqDiff, Qc, Qd, zipA, Qf, true_and, reduceCtorEq]
 refine Qbu l.length (fun i => ⟨lkp [(0, .sl 1 (l.map eI)), (1, .i n), (5, .i i)], []⟩) (fun i => ∀ j : Nat, j < i → ¬ l[j]? = some n) ?_ ?_ ?_ ?_
 ·simp only [Qz, kp, Qa0, Qa3, ↓reduceIte, Nat.reduceEqDiff, Qc, Qd, reduceCtorEq]
 ·intro j hj; omega
 ·intro i hi hc
  obtain ⟨x, hx⟩ : ∃ n, l[i]? = some n := ⟨_, Qm hi⟩
  have hlt : (i : Int) < l.length := by omega
  have h4 : inI ((i : Int) + 1) := by unfold inI; omega
  simp only [hx, hlt, h4, Q5, Q6, Qal, Qaa, Qab, Qaj, Qbn, Qae, Qah, Qa7, Qaf, Qao, Qa6, Qa1, Fam.step, Qag, evO, opv, qv, binV, ldV, iadV, lenV, kp, Qa2, Qa0, Qa3, ↓reduceIte, Nat.reduceEqDiff, Nat.reduceLeDiff, Qc, Qd, Qb, Qe, Qq, Qp, endQ, rvs, rv1, resV, vw_b, Zk, Qf, V.b.injEq, Qa, decide_true, decide_eq_true_eq, true_and, and_true, and_self, reduceCtorEq, Zf, Ql, Za, Qg, Zc, eI]
  refine ⟨fun he => ?_, fun he => ?_⟩
  ·have : n ∈ l := by rw [← he]; exact Ze hx
   simp only [this, decide_true]
  ·intro j hj
   by_cases hji : j < i
   ·exact hc j hji
   ·have : j = i := by omega
    subst this
    rw [hx]
    simpa using he
 ·intro hc
  have h77 : ¬ ((l.length : Int) < l.length) := by omega
  have : ¬ n ∈ l := fun hn => by
   obtain ⟨j, hj⟩ := Xu hn
   exact hc j (Qam hj) hj
  simp only [h77, this, Qaa, Qab, Qaj, Qb2, Qah, Qa7, Qaf, Qao, Qa6, Qa1, Fam.step, Qag, evO, opv, qv, binV, lenV, Qa2, Qa0, Qa3, ↓reduceIte, Nat.reduceEqDiff, Qc, Qd, endQ, rvs, rv1, resV, vw_b, Qa, decide_false, and_self, reduceCtorEq, Ql]
end Go.C06
set_option maxRecDepth 8000
namespace Go.C06
open Go.Fam Go.Proofs
end Go.C06
set_option linter.unusedSimpArgs false
set_option linter.unusedVariables false
namespace Go.C06
open Go.Fam Go.Proofs
def fewB (c : Cane) : Prop := c.bents.length ≤ 1000000
def eCC (a : Cane × Cane) : List V := [.ag (Qa8 a.1), .ag (Qa8 a.2)]
def dCC : List V → Cane × Cane | [.ag s, .ag n] => (Qcd s, Qcd n) | _ => (Qcd [], Qcd [])
def eLL (a : List Int × List Int) : List V := [.sl 1 (a.1.map eI), .sl 1 (a.2.map eI)]
def dLL : List V → List Int × List Int | [.sl _ l, .sl _ m] => (l.map dI, m.map dI) | _ => ([], [])
def eWW (a : Span × Span) : List V := [.ag (Qai a.1), .ag (Qai a.2)]
def dWW : List V → Span × Span | [.ag s, .ag n] => (Qdo s, Qdo n) | _ => (Qdo [], Qdo [])
noncomputable def K1 : Gam := (((H34.ext 24 (fnG eC1 dC1 fewB (fun c => c) fun c => .ag (Qa8 c))).ext 29 (fnG eLL dLL (fun a => a.1.length ≤ 1000000) (fun a => decide (a.1 = a.2)) .b)).ext 30 (fnG eCC dCC (fun a => a.1 = a.2 ∧ fewB a.1) (fun _ => true) .b)).ext 27 (fnG eC1 dC1 (fun _ => True) (fun c => (stL c ⟨0, 0⟩ [], stE c ⟨0, 0⟩ [])) fun r => .tp [.sl 1 (r.1.map eI), .i r.2])
theorem okK1 : GOk Try.prog K1 := by
 have k1 := Qvs.ext (f := 24) (fun a w => Try.call24 a w) (Qaw (e := eC1) (d := dC1) (ok := fewB) (g := fun c => c) (eb := fun c => .ag (Qa8 c)) fun c h => W24 c h)
 have k2 := k1.ext (f := 29) (fun a w => Try.call29 a w) (Qaw (e := eLL) (d := dLL) (ok := fun a => a.1.length ≤ 1000000) (g := fun a => decide (a.1 = a.2)) (eb := .b) fun a h => W29 a.1 a.2 h)
 have k3 := k2.ext (f := 30) (fun a w => Try.call30 a w) (Qaw (e := eCC) (d := dCC) (ok := fun a => a.1 = a.2 ∧ fewB a.1) (g := fun _ => true) (eb := .b) fun a h => by
  obtain ⟨c, d⟩ := a
  obtain ⟨h1, h2⟩ := h
  simp only at h1 h2
  subst h1
  exact W30 c h2)
 exact k3.ext (f := 27) (fun a w => Try.call27 a w) (Qaw (e := eC1) (d := dC1) (ok := fun _ => True) (g := fun c => (stL c ⟨0, 0⟩ [], stE c ⟨0, 0⟩ [])) (eb := fun r => .tp [.sl 1 (r.1.map eI), .i r.2]) fun a _ => W27 a)
theorem k24 (c : Cane) : K1 24 [.ag (Qa8 c)] = (fewB c, .ag (Qa8 c)) := (show K1 24 _ = fnG eC1 dC1 fewB (fun c => c) (fun c => .ag (Qa8 c)) (eC1 c) from rfl).trans (Qb3 _ (Qiu _))
noncomputable def K2 : Gam := ((((((K1.ext 40 (fnG eCLS dCLS (fun _ => True) (fun a => Qdp a.1 a.2.1 a.2.2) fun r => .tp [.i r.1, .i r.2])).ext 46 (fnG eCL dCL (fun _ => True) (fun a => Qd1 a.1 a.2) fun r => .tp [.ag (Qai r.1), .i r.2])).ext 22 (fnG eC1 dC1 (fun _ => True) Qne .b)).ext 23 (fnG eW1 dW1 (fun _ => True) (fun w => Qb9 w 540) .b)).ext 36 (fnG eSI dSI (fun _ => True) (fun a => Qak a.2 a.1.low a.1.high) .b)).ext 45 (fnG eWW dWW (fun _ => True) (fun a => Qno a.1 a.2) .b)).ext 44 (fnG eLI dLI (fun a => a.1.length ≤ 1000000) (fun a => decide (a.2 ∈ a.1)) .b)
theorem okK2 : GOk Try.prog K2 := by
 have k1 := okK1.ext (f := 40) (fun a w => Try.call40 a w) (Qaw (e := eCLS) (d := dCLS) (ok := fun _ => True) (g := fun a => Qdp a.1 a.2.1 a.2.2) (eb := fun r => .tp [.i r.1, .i r.2]) fun a _ => W40 a.1 a.2.1 a.2.2)
 have k2 := k1.ext (f := 46) (fun a w => Try.call46 a w) (Qaw (e := eCL) (d := dCL) (ok := fun _ => True) (g := fun a => Qd1 a.1 a.2) (eb := fun r => .tp [.ag (Qai r.1), .i r.2]) fun a _ => W46 a.1 a.2)
 have k3 := k2.ext (f := 22) (fun a w => Try.call22 a w) (Qaw (e := eC1) (d := dC1) (ok := fun _ => True) (g := Qne) (eb := .b) fun a _ => W22 a)
 have k4 := k3.ext (f := 23) (fun a w => Try.call23 a w) (Qaw (e := eW1) (d := dW1) (ok := fun _ => True) (g := fun w => Qb9 w 540) (eb := .b) fun a _ => W23 a)
 have k5 := k4.ext (f := 36) (fun a w => Try.call36 a w) (Qaw (e := eSI) (d := dSI) (ok := fun _ => True) (g := fun a => Qak a.2 a.1.low a.1.high) (eb := .b) fun a _ => W36 a.1 a.2)
 have k6 := k5.ext (f := 45) (fun a w => Try.call45 a w) (Qaw (e := eWW) (d := dWW) (ok := fun _ => True) (g := fun a => Qno a.1 a.2) (eb := .b) fun a _ => W45 a.1 a.2)
 exact k6.ext (f := 44) (fun a w => Try.call44 a w) (Qaw (e := eLI) (d := dLI) (ok := fun a => a.1.length ≤ 1000000) (g := fun a => decide (a.2 ∈ a.1)) (eb := .b) fun a h => W44 a.1 a.2 h)
theorem k40 (c : Cane) (l : List Int) (w : Span) : K2 40 [.ag (Qa8 c), .sl 1 (l.map eI), .ag (Qai w)] = (True, .tp [.i (Qdp c l w).1, .i (Qdp c l w).2]) :=
 (show K2 40 _ = fnG eCLS dCLS (fun _ => True) (fun a => Qdp a.1 a.2.1 a.2.2) (fun r => .tp [.i r.1, .i r.2]) (eCLS (c, l, w)) from rfl).trans (Qb3 _ (Qs2 _))
end Go.C06
set_option linter.unusedSimpArgs false
set_option linter.unusedVariables false
namespace Go.C06
open Go.Fam Go.Proofs
theorem Qtp {c : Cane} (hc : OkC c) {w : Span} (hw : Qb9 w 540 = true) {l : List Int} (h : areB c l = true) : stE c w l = if Qa4 c = [] then 3 else 0 := by
 obtain ⟨h6, hp⟩ := (Qmk hc l).1 h
 unfold stE
 rw [if_neg (by simpa using Qg3.2 hc), if_neg, if_neg]
 ·unfold Qew
  rw [Q4]
  rintro ⟨i, hi, h2⟩
  have := (hp i (by simpa using hi)).2
  simp only [decide_eq_true_eq] at h2
  omega
 ·rintro (h1 | h1 | h1)
  ·omega
  ·rw [hw] at h1; cases h1
  ·rw [Q4] at h1
   obtain ⟨n, hn, h2⟩ := h1
   have := hp.in_ n hn
   simp [Qak, this] at h2
end Go.C06
set_option maxRecDepth 8000
namespace Go.C06
open Go.Fam Go.Proofs
end Go.C06
set_option linter.unusedSimpArgs false
set_option linter.unusedVariables false
namespace Go.C06
open Go.Fam Go.Proofs
end Go.C06
set_option linter.unusedSimpArgs false
set_option linter.unusedVariables false
namespace Go.C06
open Go.Fam Go.Proofs
def Qce (c : Cane) (w : Span) : Nat → Int → Int → List Int → Bool
 | 0, a, _, _ => Qak a w.low w.high
 | n + 1, a, i, T => Qak a w.low w.high || (ints 1 (Qbw c i)).any fun b => T.all fun k => Qce c w n (a + b - Qan b k) (i + 1) (T.filter fun k' => decide (Qan b k' = Qan b k))
theorem Qjd {c c' : Cane} {w w' : Span} (hc : ∀ i : Int, 0 ≤ i → Qbw c i ≤ Qbw c' i) (hw : w'.low ≤ w.low ∧ w.high ≤ w'.high) :
  ∀ (n : Nat) (a i : Int) (T T' : List Int), 0 ≤ i → (∀ k ∈ T', k ∈ T) → Qce c w n a i T = true → Qce c' w' n a i T' = true := by
 have hin : ∀ a, Qak a w.low w.high = true → Qak a w'.low w'.high = true := fun a h => by
  simp only [Qak, Zu, decide_eq_true_eq] at h ⊢; omega
 intro n
 induction n with
 | zero => intro a i T T' _ _ h; exact hin a h
 | succ n ih =>
  intro a i T T' hi hT h
  rw [Qce, Jb] at h ⊢
  rcases h with h | h
  ·exact .inl (hin a h)
  ·right
   rw [Q4] at h ⊢
   obtain ⟨b, hb, h⟩ := h
   rw [Qck] at hb
   have hm := hc i hi
   refine ⟨b, Qck.2 (by omega), ?_⟩
   rw [Zo] at h ⊢
   intro k hk
   refine ih _ _ _ _ (by omega) (fun k' hk' => ?_) (h k (hT k hk))
   rw [Zq] at hk' ⊢
   exact ⟨hT k' hk'.1, hk'.2⟩
theorem Qgf {c : Cane} {w : Span} {n : Nat} {a i : Int} {T T' : List Int} (hi : 0 ≤ i) (h : ∀ k, k ∈ T ↔ k ∈ T') : Qce c w n a i T = Qce c w n a i T' := by
 rw [Jc]
 exact ⟨Qjd (fun _ _ => Zi _) ⟨Zi _, Zi _⟩ n a i T T' hi fun k hk => (h k).2 hk, Qjd (fun _ _ => Zi _) ⟨Zi _, Zi _⟩ n a i T' T hi fun k hk => (h k).1 hk⟩
theorem Qjc {c : Cane} {w : Span} : ∀ (n : Nat) (a i : Int) (T : List Int), w.high < a → T ≠ [] → (∀ k ∈ T, 0 ≤ k ∧ k ≤ 500) → Qce c w n a i T = false := by
 intro n
 induction n with
 | zero => intro a i T h _ _; simp only [Qce, Qak, Xt, decide_eq_false_iff_not]; omega
 | succ n ih =>
  intro a i T h hT hk
  rw [Qce, Xe]
  refine ⟨by simp only [Qak, Xt, decide_eq_false_iff_not]; omega, ?_⟩
  rw [Xn]
  intro b hb
  rw [Qck] at hb
  obtain ⟨k, hkT⟩ := Xj T hT
  have h1 := Qgt (b := b) (k := k) (by omega) (hk k hkT)
  rw [Zo]
  intro h2
  have := h2 k hkT
  rw [ih (a + b - Qan b k) (i + 1) _ (by omega) (Xi (Zq.2 ⟨hkT, by simp⟩)) (fun k' hk' => hk k' (Zq.1 hk').1)] at this
  cases this
theorem Qmy {b : Int} {ts : List Int} {l : Nat} (hm : ∀ i j : Nat, i ≤ j → j ≤ l → Qan b (ts.getD i 0) ≤ Qan b (ts.getD j 0)) :
  ∀ (n f : Nat), l + 1 ≤ f + n → (∀ p ∈ grpF b ts l f, f ≤ p.1 ∧ p.1 ≤ p.2 ∧ p.2 ≤ l ∧ ∀ j, f ≤ j → j ≤ l → (Qan b (ts.getD j 0) = Qan b (ts.getD p.1 0) ↔ p.1 ≤ j ∧ j ≤ p.2)) ∧
   ∀ j, f ≤ j → j ≤ l → ∃ p ∈ grpF b ts l f, p.1 ≤ j ∧ j ≤ p.2 := by
 intro n
 induction n with
 | zero =>
  intro f hf
  have e : grpF b ts l f = [] := by
   unfold grpF grpP
   rw [if_neg (by omega)]
  rw [e]
  exact ⟨fun p hp => (by cases hp), fun j h1 h2 => (by omega)⟩
 | succ n ih =>
  intro f hf
  by_cases hfl : f ≤ l
  ·rw [Qi5 hfl]
   obtain ⟨t1, t2, t3⟩ := Qqm (bend := b) (v := Qan b (ts.getD f 0)) (ts := ts) hfl
   have t4 := Qts (bend := b) (v := Qan b (ts.getD f 0)) (ts := ts) hfl
   obtain ⟨e, he⟩ : ∃ e, e = endP b ts l f := ⟨_, rfl⟩
   have he2 : toF b (Qan b (ts.getD f 0)) ts l f = e := he.symm
   rw [he2] at t1 t2 t3 t4
   rw [← he]
   obtain ⟨i1, i2⟩ := ih (e + 1) (by omega)
   have hin : ∀ j, f ≤ j → j ≤ e → Qan b (ts.getD j 0) = Qan b (ts.getD f 0) := fun j h1 h2 => by
    by_cases hj : j = f
    ·rw [hj]
    ·exact t3 j (by omega) h2
   have hout : ∀ j, e < j → j ≤ l → Qan b (ts.getD f 0) < Qan b (ts.getD j 0) := fun j h1 h2 => by
    have k1 := t4 (by omega)
    have k2 := hm f (e + 1) (by omega) (by omega)
    have k3 := hm (e + 1) j (by omega) h2
    omega
   refine ⟨fun p hp => ?_, fun j h1 h2 => ?_⟩
   ·rcases List.mem_cons.1 hp with rfl | hp
    ·refine ⟨Zz _, t1, t2, fun j h1 h2 => ⟨fun h => ⟨h1, ?_⟩, fun h => hin j h1 h.2⟩⟩
     refine Xo fun h3 => ?_
     have := hout j h3 h2
     have h' : Qan b (ts.getD j 0) = Qan b (ts.getD f 0) := h
     omega
    ·obtain ⟨a1, a2, a3, a4⟩ := i1 p hp
     refine ⟨by omega, a2, a3, fun j h1 h2 => ?_⟩
     by_cases hj : e < j
     ·exact a4 j hj h2
     ·have k1 := hin j h1 (by omega)
      have k2 := hout p.1 (by omega) (by omega)
      constructor
      ·intro h; omega
      ·intro h; omega
   ·by_cases hj : e < j
    ·obtain ⟨p, hp, hpj⟩ := i2 j hj h2
     exact ⟨p, List.mem_cons_of_mem _ hp, hpj⟩
    ·exact ⟨(f, e), List.mem_cons_self, h1, by show j ≤ e; omega⟩
  ·have e : grpF b ts l f = [] := by
    unfold grpF grpP
    rw [if_neg hfl]
   rw [e]
   exact ⟨fun p hp => (by cases hp), fun j h1 h2 => (by omega)⟩
def seg (ts : List Int) (f l : Nat) : List Int := (List.range' f (l + 1 - f)).map fun j => ts.getD j 0
theorem Qdi {ts : List Int} {f l : Nat} {k : Int} : k ∈ seg ts f l ↔ ∃ j, f ≤ j ∧ j ≤ l ∧ ts.getD j 0 = k := by
 unfold seg
 rw [List.mem_map]
 constructor
 ·rintro ⟨j, hj, rfl⟩
  rw [X2] at hj
  exact ⟨j, hj.1, by omega, rfl⟩
 ·rintro ⟨j, h1, h2, rfl⟩
  exact ⟨j, X2.2 (by omega), rfl⟩
theorem Qsx {p : Int → Bool} {L : List Int} (h : ∀ x ∈ L, 0 ≤ x) : 0 ≤ (L.find? p).getD (-1) ↔ L.any p = true := by
 cases hf : L.find? p with
 | none =>
  rw [Zw] at hf
  simp only [Zg, Q4]
  constructor
  ·intro h; omega
  ·rintro ⟨x, hx, hp⟩; exact absurd hp (hf x hx)
 | some x =>
  have h1 := Xq hf
  have h2 := Z1 hf
  simp only [Qp, Q4]
  exact ⟨fun _ => ⟨x, h2, h1⟩, fun _ => h x h2⟩
theorem Qlj {c : Cane} {w : Span} {ts : List Int} (hs : ts.Pairwise (· < ·)) (hk : ∀ k ∈ ts, 0 ≤ k ∧ k ≤ 500) :
  ∀ (n : Nat) (a num : Int) (f l : Nat), 0 ≤ num → f ≤ l → l < ts.length → (0 ≤ Qgh c w ts n a num f l ↔ Qce c w n a num (seg ts f l) = true) := by
 have hkd : ∀ j, j < ts.length → 0 ≤ ts.getD j 0 ∧ ts.getD j 0 ≤ 500 := fun j hj => hk _ (Qcx hj)
 have hmn : ∀ b, 0 ≤ b → ∀ i j : Nat, i ≤ j → j < ts.length → Qan b (ts.getD i 0) ≤ Qan b (ts.getD j 0) := by
  intro b hb i j hij hj
  refine Qdx hb (hkd i (by omega)).1 ?_
  by_cases e : i = j
  ·rw [e]; exact Zi _
  ·have := Zm.1 hs i j (by omega) hj (by omega)
   simp only [Qg]
   rw [Qm (show i < ts.length by omega), Qm hj]
   simp only [Qp]; omega
 intro n
 induction n with
 | zero =>
  intro a num f l _ _ _
  rw [Qgh, Qce]
  split
  ·rename_i h; simp [h]
  ·rename_i h; simp [h]
 | succ n ih =>
  intro a num f l hnum hfl hl
  have hne : seg ts f l ≠ [] := Xi (Qdi.2 ⟨f, Zz _, hfl, rfl⟩)
  have hin : ∀ k ∈ seg ts f l, 0 ≤ k ∧ k ≤ 500 := fun k hk' => by
   obtain ⟨j, j1, j2, rfl⟩ := Qdi.1 hk'
   exact hkd j (by omega)
  by_cases hw : Qak a w.low w.high = true
  ·rw [Qgh, if_pos hw, Qce, hw]; simp
  ·by_cases hh : w.high < a
   ·rw [Qgh, if_neg hw, if_pos hh, Qjc _ _ _ _ hh hne hin]; simp
   ·rw [Qgh, if_neg hw, if_neg hh, Qce, Qsx (fun x hx => by rw [Qck] at hx; omega)]
    simp only [hw, Z4]
    rw [Q4, Q4]
    have key : ∀ b ∈ ints 1 (Qbw c num), ((grpF b ts l f).all fun p => decide (0 ≤ Qgh c w ts n (a + b - Qan b (ts.getD p.1 0)) (num + 1) p.1 p.2)) = true ↔
      ((seg ts f l).all fun k => Qce c w n (a + b - Qan b k) (num + 1) ((seg ts f l).filter fun k' => decide (Qan b k' = Qan b k))) = true := by
     intro b hb
     rw [Qck] at hb
     obtain ⟨s1, s2⟩ := Qmy (b := b) (ts := ts) (l := l) (fun i j h1 h2 => hmn b (by omega) i j h1 (by omega)) (l + 1) f (by omega)
     have hset : ∀ p ∈ grpF b ts l f, ∀ j, p.1 ≤ j → j ≤ p.2 → (Qce c w n (a + b - Qan b (ts.getD p.1 0)) (num + 1) (seg ts p.1 p.2) = Qce c w n (a + b - Qan b (ts.getD j 0)) (num + 1) ((seg ts f l).filter fun k' => decide (Qan b k' = Qan b (ts.getD j 0)))) := by
      intro p hp j j1 j2
      obtain ⟨a1, a2, a3, a4⟩ := s1 p hp
      have ej : Qan b (ts.getD j 0) = Qan b (ts.getD p.1 0) := (a4 j (by omega) (by omega)).2 ⟨j1, j2⟩
      rw [ej]
      refine Qgf (by omega) fun k => ?_
      rw [Zq, Qdi, Qdi, decide_eq_true_eq]
      constructor
      ·rintro ⟨i, i1, i2, rfl⟩
       exact ⟨⟨i, by omega, by omega, rfl⟩, (a4 i (by omega) (by omega)).2 ⟨i1, i2⟩⟩
      ·rintro ⟨⟨i, i1, i2, rfl⟩, h⟩
       have := (a4 i i1 i2).1 h
       exact ⟨i, this.1, this.2, rfl⟩
     rw [Zo, Zo]
     constructor
     ·intro h k hk'
      obtain ⟨j, j1, j2, rfl⟩ := Qdi.1 hk'
      obtain ⟨p, hp, p1, p2⟩ := s2 j j1 j2
      obtain ⟨a1, a2, a3, a4⟩ := s1 p hp
      have := h p hp
      rw [decide_eq_true_eq, ih _ _ _ _ (by omega) a2 (by omega), hset p hp j p1 p2] at this
      exact this
     ·intro h p hp
      obtain ⟨a1, a2, a3, a4⟩ := s1 p hp
      rw [decide_eq_true_eq, ih _ _ _ _ (by omega) a2 (by omega), hset p hp p.1 (Zz _) a2]
      exact h _ (Qdi.2 ⟨p.1, a1, by omega, rfl⟩)
    constructor
    ·rintro ⟨b, hb, h⟩; exact ⟨b, hb, (key b hb).1 h⟩
    ·rintro ⟨b, hb, h⟩; exact ⟨b, hb, (key b hb).2 h⟩
def Qo4 (c : Cane) (w : Span) (n : Nat) : Bool := Qce c w n 0 0 (Qa4 c)
theorem Qim {c : Cane} (hC : OkC c) (ht : Qa4 c ≠ []) (w : Span) (n : Nat) : 0 ≤ Qe1 c w n ↔ Qo4 c w n = true := by
 have hpos := Zr.2 ht
 have e : Qe1 c w n = Qgh c w (Qa4 c) n 0 0 0 ((Qa4 c).length - 1) := by
  unfold Qe1 Qek Qiy
  simp only [Za]
  rw [show ((((Qa4 c).length : Int) - 1).toNat) = (Qa4 c).length - 1 by omega]; rfl
 rw [e, Qlj (Qd0 c) (fun k hk => Qcc hC hk) n 0 0 0 _ (Zi _) (Xv _) (by omega)]
 unfold Qo4
 rw [Qgf (Zi _) fun k => ?_]
 rw [Qdi]
 constructor
 ·rintro ⟨j, _, j2, rfl⟩
  exact Qcx (by omega)
 ·intro hk
  obtain ⟨j, hj, rfl⟩ := Xb.1 hk
  exact ⟨j, Xv _, by omega, by rw [Qg, Qm hj]; rfl⟩
theorem Qid {c : Cane} (hC : OkC c) (ht : Qa4 c ≠ []) (w : Span) : Qic c w = (Zv 7).find? fun n => Qo4 c w n := by
 unfold Qic
 congr 1
 funext n
 rw [Jc, decide_eq_true_eq]
 exact Qim hC ht w n
end Go.C06
set_option linter.unusedSimpArgs false
set_option linter.unusedVariables false
namespace Go.C06
open Go.Fam Go.Proofs
theorem Qx1 {p : Nat → Bool} {n : Nat} (hn : n < 7) (h : p n = true) : ∃ m, m ≤ n ∧ (Zv 7).find? p = some m := by
 cases hf : (Zv 7).find? p with
 | none =>
  rw [Zw] at hf
  exact absurd h (hf n (by simpa using hn))
 | some m =>
  refine ⟨m, Xo fun hlt => ?_, rfl⟩
  rw [Z8] at hf
  obtain ⟨h1, i, hi, he, h3⟩ := hf
  simp only [Xx] at he h3
  subst he
  have := h3 n hlt
  rw [h] at this
  cases this
theorem Qms {p : Nat → Bool} {n : Nat} (h : (Zv 7).find? p = some n) : n < 7 ∧ p n = true := by
 have h1 := Z1 h
 have h2 := Xq h
 exact ⟨by simpa using h1, h2⟩
end Go.C06
set_option linter.unusedSimpArgs false
set_option linter.unusedVariables false
namespace Go.C06
open Go.Fam Go.Proofs
end Go.C06
set_option linter.unusedSimpArgs false
set_option linter.unusedVariables false
namespace Go.C06
open Go.Fam Go.Proofs
theorem Qr8 {c : Cane} {w : Span} {ts : List Int} (hs : ts.Pairwise (· < ·)) (hk : ∀ k ∈ ts, 0 ≤ k ∧ k ≤ 500) {n : Nat} {a num b : Int} {f l : Nat} (hnum : 0 ≤ num) (hfl : f ≤ l) (hl : l < ts.length) (hb : 0 ≤ b)
  (h : ∀ p ∈ grpF b ts l f, 0 ≤ Qgh c w ts n (a + b - Qan b (ts.getD p.1 0)) (num + 1) p.1 p.2) : ∀ k ∈ seg ts f l, Qce c w n (a + b - Qan b k) (num + 1) ((seg ts f l).filter fun k' => decide (Qan b k' = Qan b k)) = true := by
 have hkd : ∀ j, j < ts.length → 0 ≤ ts.getD j 0 ∧ ts.getD j 0 ≤ 500 := fun j hj => hk _ (Qcx hj)
 have hmn : ∀ i j : Nat, i ≤ j → j ≤ l → Qan b (ts.getD i 0) ≤ Qan b (ts.getD j 0) := by
  intro i j hij hj
  refine Qdx hb (hkd i (by omega)).1 ?_
  by_cases e : i = j
  ·rw [e]; exact Zi _
  ·have := Zm.1 hs i j (by omega) (by omega) (by omega)
   simp only [Qg]
   rw [Qm (show i < ts.length by omega), Qm (show j < ts.length by omega)]
   simp only [Qp]; omega
 obtain ⟨s1, s2⟩ := Qmy (b := b) (ts := ts) (l := l) hmn (l + 1) f (by omega)
 intro k hk'
 obtain ⟨j, j1, j2, rfl⟩ := Qdi.1 hk'
 obtain ⟨p, hp, p1, p2⟩ := s2 j j1 j2
 obtain ⟨a1, a2, a3, a4⟩ := s1 p hp
 have ej : Qan b (ts.getD j 0) = Qan b (ts.getD p.1 0) := (a4 j (by omega) (by omega)).2 ⟨p1, p2⟩
 have := h p hp
 rw [Qlj hs hk _ _ _ _ _ (by omega) a2 (by omega)] at this
 rw [ej]
 rw [Qgf (by omega) fun k => ?_]
 ·exact this
 rw [Zq, Qdi, Qdi, decide_eq_true_eq]
 constructor
 ·rintro ⟨⟨i, i1, i2, rfl⟩, h⟩
  have := (a4 i i1 i2).1 h
  exact ⟨i, this.1, this.2, rfl⟩
 ·rintro ⟨i, i1, i2, rfl⟩
  exact ⟨⟨i, by omega, by omega, rfl⟩, (a4 i (by omega) (by omega)).2 ⟨i1, i2⟩⟩
theorem Qpq {ts : List Int} (hpos : 0 < ts.length) (k : Int) : k ∈ seg ts 0 (ts.length - 1) ↔ k ∈ ts := by
 rw [Qdi]
 constructor
 ·rintro ⟨j, _, j2, rfl⟩
  exact Qcx (by omega)
 ·intro hk
  obtain ⟨j, hj, rfl⟩ := Xb.1 hk
  exact ⟨j, Xv _, by omega, by rw [Qg, Qm hj]; rfl⟩
theorem Qr4 {c : Cane} (hC : OkC c) {w : Span} (ht : Qa4 c ≠ []) {n : Nat} (h : Qic c w = some n) :
  (n = 0 → Qak 0 w.low w.high = true ∧ Qe1 c w n = 0) ∧ (n ≠ 0 → (1 ≤ Qe1 c w n ∧ Qe1 c w n ≤ Qbw c 0) ∧ ∀ k ∈ Qa4 c,
   Qce c w (n - 1) (Qe1 c w n - Qan (Qe1 c w n) k) 1 ((Qa4 c).filter fun k' => decide (Qan (Qe1 c w n) k' = Qan (Qe1 c w n) k)) = true) := by
 have h7 := h
 rw [Qid hC ht] at h7
 obtain ⟨h1, h2⟩ := Qms h7
 have hpos := Zr.2 ht
 constructor
 ·rintro rfl
  have h3 : Qak 0 w.low w.high = true := h2
  refine ⟨h3, ?_⟩
  unfold Qe1
  exact Qnb h3
 ·intro hn
  have hw : ¬ Qak 0 w.low w.high = true := fun hw => by
   obtain ⟨m, hm, hf⟩ := Qx1 (p := fun n => Qo4 c w n) (n := 0) (by omega) hw
   rw [h7] at hf
   cases hf
   omega
  obtain ⟨n, rfl⟩ : ∃ m, n = m + 1 := ⟨n - 1, by omega⟩
  have hge : 0 ≤ Qe1 c w (n + 1) := (Qim hC ht w (n + 1)).2 h2
  have hhi : ¬ w.high < 0 := fun hh => by
   rw [Qim hC ht w (n + 1)] at hge
   unfold Qo4 at hge
   rw [Qjc _ _ _ _ hh ht fun k hk => Qcc hC hk] at hge
   cases hge
  have hgo := Qna (c := c) (w := w) (ts := Qa4 c) (t := Qiy c (n + 1)) hw (by show (0 : Int) < ((n + 1 : Nat) : Int); omega) hhi
  have hP : Qe1 c w (n + 1) = Qek c w (Qa4 c) (Qiy c (n + 1)) := rfl
  obtain ⟨b, hb⟩ : ∃ b, b = Qe1 c w (n + 1) := ⟨_, rfl⟩
  rw [← hP] at hgo
  rw [← hb] at hgo hge ⊢
  cases hf : (ints 1 (Qbw c (Qiy c (n + 1)).number)).find? (Ql6 c w (Qa4 c) (Qiy c (n + 1))) with
  | none => rw [hf] at hgo; simp only [Zg] at hgo; omega
  | some x =>
   rw [hf] at hgo
   simp only [Qp] at hgo
   subst hgo
   have f1 := Xq hf
   have f2 := Z1 hf
   rw [Qck] at f2
   refine ⟨f2, fun k hk => ?_⟩
   have hlast : (Qiy c (n + 1)).last.toNat = (Qa4 c).length - 1 := by
    show (((Qa4 c).length : Int) - 1).toNat = _
    omega
   unfold Ql6 at f1
   rw [Zo, hlast] at f1
   have hg := Qr8 (c := c) (w := w) (ts := Qa4 c) (Qd0 c) (fun k hk => Qcc hC hk) (n := n) (a := 0) (num := 0) (b := b) (f := 0) (l := (Qa4 c).length - 1) (Zi _) (Xv _) (by omega) (by omega) (fun p hp => by
    have := f1 p hp
    rw [decide_eq_true_eq] at this
    unfold Qek Qej Qiy at this
    have e : (((n + 1 : Nat) : Int) - 1).toNat = n := by omega
    simp only [e, Za] at this
    exact this) k ((Qpq hpos k).2 hk)
   rw [X3, X3] at hg
   rw [Z7]
   rw [Qgf (by decide) fun k' => ?_]
   ·exact hg
   ·rw [Zq, Zq, Qpq hpos]
end Go.C06
set_option maxRecDepth 8000
namespace Go.C06
open Go.Fam Go.Proofs
end Go.C06
set_option linter.unusedSimpArgs false
set_option linter.unusedVariables false
namespace Go.C06
open Go.Fam Go.Proofs
noncomputable def K3 : Gam := K2.ext 35 (fnG eCS dCS (fun _ => True) (fun a => Qbs a.1 a.2) fun r => .tp [.i r.2.1, .i r.2.2])
theorem okK3 : GOk Try.prog K3 := okK2.ext (f := 35) (fun a w => Try.call35 a w) (Qaw (e := eCS) (d := dCS) (ok := fun _ => True) (g := fun a => Qbs a.1 a.2) (eb := fun r => .tp [.i r.2.1, .i r.2.2]) fun a _ => W35 a.1 a.2)
theorem k35 (c : Cane) (w : Span) : K3 35 [.ag (Qa8 c), .ag (Qai w)] = (True, .tp [.i (Qbs c w).2.1, .i (Qbs c w).2.2]) :=
 (show K3 35 _ = fnG eCS dCS (fun _ => True) (fun a => Qbs a.1 a.2) (fun r => .tp [.i r.2.1, .i r.2.2]) (eCS (c, w)) from rfl).trans (Qb3 _ (Qjn _))
theorem Qwf (ks l : List Int) (w : Span)  : K3 70 [.sl 1 (ks.map eI), .sl 1 (l.map eI), .ag (Qai w)] = (Qii (ks, l, w), .i (Qcm l w ks)) := h70 ks l w
end Go.C06
set_option maxRecDepth 8000
namespace Go.C06
open Go.Fam Go.Proofs
def rc64 : RC := (.seq (.reg false [(cX 5 0), (cX 9 4), (cQ 10 [] (.mv (kB false)))]) (.keep [1,2,3,5,9] (.seq (.seq (.reg false [(cMv 12 3), (cC 13 .eql 12 0)]) (.keep [1,2,3,5,9,13] (.cond (.t 13) (.seq (.reg false [(cMv 14 1), (cMv 15 2), (cLd 16 9 true 2), (cQ 17 [14,15,16] (.call (kF 70) [(.t 14), (.t 15), (.t 16)])), (cMv 18 1), (cLn 19 18), (cB 20 .eql 17 19), (cMv 10 20)]) .ret) .skip))) (.keep [1,2,3,5,9] (.seq (.seq (.reg false [(cI 11 1)]) (.keep [1,2,3,5,9,11] (.block 0 (.loop [1,2,3,5,9,11] (some 0) (.seq (.seq (.reg false [(cLd 21 5 true 6), (cMv 22 11), (cMv 23 2), (cLn 24 23), (cQ 25 [21,22,24] (.call (kF 37) [(.t 21), (.t 22), (.t 24)]))]) (.keep [1,2,3,5,9,11,25] (.cond (.t 25) .skip (.exit 0)))) (.keep [1,2,3,5,9,11] (.seq (.block 1 (.seq (.any false 3 [⟨(cLd 28 5 true 6), [], []⟩, ⟨(cMv 29 1), [], []⟩, ⟨⟨(some 30), none, [], (some 0), .w (.bso 1 0 [(.i 0)] [])⟩, [0,1], []⟩, ⟨(cMv 31 2), [2], []⟩, ⟨⟨(some 32), none, [30,31], (some 1), .w (.app 1 (.t 30) (.t 31))⟩, [0,1], [2,3]⟩, ⟨(cMv 33 11), [2,4], []⟩, ⟨(cQ 34 [33] (.bsl 1 1 [(.i 0)] [(0,1, (.t 33))])), [2,4], [5]⟩, ⟨⟨(some 35), none, [32,34], (some 2), .w (.app 1 (.t 32) (.t 34))⟩, [0,1], [4,2,3,6,5]⟩, ⟨(cMv 36 3), [2,4,7], []⟩, ⟨(cC 37 .sub 36 1), [2,4,7], [8]⟩, ⟨(cLd 38 9 true 2), [2,4,7], []⟩, ⟨(cQ 39 [28,29,35,37,38] (.call (kF 64) [(.t 28), (.t 29), (.t 35), (.t 37), (.t 38)])), [], [0,1,7,4,2,3,6,5,9,8,10]⟩]) (.keep [1,2,3,5,9,11,39] (.cond (.t 39) (.seq (.reg false [(cQ 10 [] (.mv (kB true)))]) .ret) .skip)))) (.drp 0 (.keep [1,2,3,5,9,11] (.reg false [(cMv 26 11), (cC 27 .add 26 1), (cMv 11 27)])))))))))) (.keep [] (.seq (.reg false [(cQ 10 [] (.mv (kB false)))]) .ret)))))))
def pu64 : List Nat := [5,9,34]
def rs64 : List RV := [.t 10]
theorem cc64 : CCx Try.prog Try.f64 pu64 rc64 := by unfold CCx; kernel_rfl
theorem cb64 : CBx Try.f64 := by unfold CBx; kernel_rfl
theorem cs64 : CSx Try.prog Try.f64 rs64 := by unfold CSx; kernel_rfl
theorem cn64 : 5 ≤ Try.f64.ntmps := by decide
def rc65 : RC := (.seq (.reg false [(cX 6 0), (cX 11 5), (cQ 12 [] (.mv (kB false)))]) (.keep [1,2,3,4,6,11] (.seq (.seq (.reg false [(cMv 14 1), (cFa 15 11 0), (cLd 16 15 false 1), (cFa 17 11 1), (cLd 18 17 false 1), (cQ 19 [14,16,18] (.call (kF 56) [(.t 14), (.t 16), (.t 18)]))]) (.keep [1,2,3,4,6,11,19] (.cond (.t 19) (.seq (.reg false [(cQ 12 [] (.mv (kB true)))]) .ret) .skip))) (.keep [1,2,3,4,6,11] (.seq (.seq (.reg false [(cI 13 1)]) (.keep [1,2,3,4,6,11,13] (.block 0 (.loop [1,2,3,4,6,11,13] none (.seq (.seq (.reg true [(cMv 20 2), (cC 21 .gtr 20 0), (cMv 22 21), (gQ 23 22 true [6] (.ld true 6 (.t 6))), (gMv 24 22 true 13), (gMv 25 22 true 3), (gQ 26 22 true [23,24,25] (.call (kF 37) [(.t 23), (.t 24), (.t 25)])), (cQ 27 [22,26] (.pick (.t 22) (.t 26) (kB false)))]) (.keep [1,2,3,4,6,11,13,27] (.cond (.t 27) .skip (.exit 0)))) (.keep [1,2,3,4,6,11,13] (.seq (.block 1 (.seq (.reg false [(cLd 30 6 true 6), (cMv 31 1), (cMv 32 2), (cMv 33 3), (cMv 34 4), (cLd 35 11 true 2), (cMv 36 13), (cQ 37 [30,31,32,33,34,35,36] (.call (kF 41) [(.t 30), (.t 31), (.t 32), (.t 33), (.t 34), (.t 35), (.t 36)]))]) (.keep [1,2,3,4,6,11,13,37] (.cond (.t 37) (.seq (.reg false [(cQ 12 [] (.mv (kB true)))]) .ret) .skip)))) (.keep [1,2,3,4,6,11,13] (.reg false [(cMv 28 13), (cC 29 .add 28 1), (cMv 13 29)]))))))))) (.keep [] (.seq (.reg false [(cQ 12 [] (.mv (kB false)))]) .ret)))))))
def pu65 : List Nat := [6,11]
def rs65 : List RV := [.t 12]
theorem cc65 : CCx Try.prog Try.f65 pu65 rc65 := by unfold CCx; kernel_rfl
theorem cb65 : CBx Try.f65 := by unfold CBx; kernel_rfl
theorem cs65 : CSx Try.prog Try.f65 rs65 := by unfold CSx; kernel_rfl
theorem cn65 : 6 ≤ Try.f65.ntmps := by decide
def rc41 : RC := (.seq (.reg false [(cX 7 0), (cX 12 5), (cQ 14 [] (.mv (kB false)))]) (.keep [1,2,3,4,6,7,12] (.seq (.seq (.reg false [(cMv 18 6), (cFa 19 7 0), (cFa 20 19 0), (cLd 21 20 false 1), (cQ 22 [18,21] (.call (kF 38) [(.t 18), (.t 21)])), (cMv 15 22)]) (.keep [1,2,3,4,6,7,12,15] (.block 0 (.loop [1,2,3,4,6,7,12,15] none (.seq (.seq (.reg false [(cMv 23 15), (cMv 24 6), (cFa 25 7 0), (cFa 26 25 1), (cLd 27 26 false 1), (cQ 28 [24,27] (.call (kF 38) [(.t 24), (.t 27)])), (cB 29 .leq 23 28)]) (.keep [1,2,3,4,6,7,12,15,29] (.cond (.t 29) .skip (.exit 0)))) (.keep [1,2,3,4,6,7,12,15] (.seq (.block 1 (.seq (.reg false [(cQ 16 [] (.mv (.k (.z 1))))]) (.keep [1,2,3,4,6,7,12,15,16] (.seq (.seq (.reg false [(cI 17 0)]) (.keep [1,2,3,4,6,7,12,15,16,17] (.block 2 (.own 16 1 (.loop [1,2,3,4,6,7,12,15,16,17] none (.seq (.seq (.reg false [(cMv 32 17), (cMv 33 4), (cLn 34 33), (cB 35 .lss 32 34)]) (.keep [1,2,3,4,6,7,12,15,16,17,35] (.cond (.t 35) .skip (.exit 2)))) (.keep [1,2,3,4,6,7,12,15,16,17] (.seq (.block 3 (.seq (.reg false [(cMv 38 6), (cMv 39 4), (cMv 40 17), (cA 41 1 39 40), (cLd 42 41 false 1), (cQ 43 [38,42] (.call (kF 38) [(.t 38), (.t 42)])), (cMv 44 15), (cB 45 .eql 43 44)]) (.keep [1,2,3,4,6,7,12,15,16,17,45] (.cond (.t 45) (.reg false [(cMv 46 16), (cMv 47 4), (cMv 48 17), (cA 49 1 47 48), (cLd 50 49 false 1), (cQ 51 [50] (.bsl 1 1 [(.i 0)] [(0,1, (.t 50))])), ⟨(some 52), none, [46,51], none, .w (.app 1 (.t 46) (.t 51))⟩, (cMv 16 52)]) .skip)))) (.keep [1,2,3,4,6,7,12,15,16,17] (.reg false [(cMv 36 17), (cC 37 .add 36 1), (cMv 17 37)])))))))))) (.keep [1,2,3,4,6,7,12,15,16] (.seq (.reg true [(cMv 53 16), (cLn 54 53), (cC 55 .gtr 54 0), (cMv 56 55), (gQ 57 56 true [7] (.ld true 6 (.t 7))), (gMv 58 56 true 1), (gMv 59 56 true 6), (gQ 60 56 true [58,59] (.bin .add (.t 58) (.t 59))), (gMv 61 56 true 15), (gQ 62 56 true [60,61] (.bin .sub (.t 60) (.t 61))), (gMv 63 56 true 2), (gQ 64 56 true [63] (.bin .sub (.t 63) (kI 1))), (gMv 65 56 true 3), (gQ 66 56 true [65] (.bin .add (.t 65) (kI 1))), (gMv 67 56 true 16), (gQ 68 56 true [12] (.ld true 2 (.t 12))), (gQ 69 56 true [57,62,64,66,67,68] (.call (kF 65) [(.t 57), (.t 62), (.t 64), (.t 66), (.t 67), (.t 68)])), (gQ 70 56 true [69] (.not (.t 69))), (cQ 71 [56,70] (.pick (.t 56) (.t 70) (kB false)))]) (.keep [1,2,3,4,6,7,12,15,71] (.cond (.t 71) (.seq (.reg false [(cQ 14 [] (.mv (kB false)))]) .ret) .skip)))))))) (.keep [1,2,3,4,6,7,12,15] (.drp 0 (.reg false [(cMv 30 15), (cC 31 .add 30 1), (cMv 15 31)])))))))))) (.keep [] (.seq (.reg false [(cQ 14 [] (.mv (kB true)))]) .ret)))))
def pu41 : List Nat := [7,12,51]
def rs41 : List RV := [.t 14]
theorem cc41 : CCx Try.prog Try.f41 pu41 rc41 := by unfold CCx; kernel_rfl
theorem cb41 : CBx Try.f41 := by unfold CBx; kernel_rfl
theorem cs41 : CSx Try.prog Try.f41 rs41 := by unfold CSx; kernel_rfl
theorem cn41 : 7 ≤ Try.f41.ntmps := by decide
end Go.C06
set_option linter.unusedSimpArgs false
set_option linter.unusedVariables false
namespace Go.C06
open Go.Fam Go.Proofs
structure D64 where
 c : Cane
 ks : List Int
 f : List Int
 n : Nat
 w : Span
def e64 (a : D64) : List V := [.ag (Qa8 a.c), .sl 1 (a.ks.map eI), .sl 1 (a.f.map eI), .i a.n, .ag (Qai a.w)]
def d64 : List V → D64 | [.ag c, .sl _ ks, .sl _ f, .i n, .ag w] => ⟨Qcd c, ks.map dI, f.map dI, n.toNat, Qdo w⟩ | _ => ⟨Qcd [], [], [], 0, Qdo []⟩
theorem Quz (a : D64) : d64 (e64 a) = a := by obtain ⟨c, ks, f, n, w⟩ := a; simp [d64, e64, Qd3, Qed, Function.comp_def, Qhj]
structure Ok64 (a : D64) : Prop where
 c : OkC a.c
 ks : a.ks.length ≤ 1000 ∧ ∀ k ∈ a.ks, tame 1000 k
 f : ∀ x ∈ a.f, 1 ≤ x ∧ x ≤ 90
 n : a.f.length + a.n ≤ 50
noncomputable def G64 (k : Nat) : Gam := K3.ext 64 (fnG e64 d64 (fun a => Ok64 a ∧ a.n = k) (fun a => Qbz a.c a.ks a.w a.n a.f) .b)
theorem q64 (k : Nat) (c : Cane) (ks f : List Int) (n : Int) (w : Span) (hn : 0 ≤ n) : G64 k 64 [.ag (Qa8 c), .sl 1 (ks.map eI), .sl 1 (f.map eI), .i n, .ag (Qai w)] = (Ok64 ⟨c, ks, f, n.toNat, w⟩ ∧ n.toNat = k, .b (Qbz c ks w n.toNat f)) := by
 have := (show G64 k 64 _ = fnG e64 d64 (fun a => Ok64 a ∧ a.n = k) (fun a => Qbz a.c a.ks a.w a.n a.f) .b (e64 ⟨c, ks, f, n.toNat, w⟩) from rfl).trans (Qb3 _ (Quz _))
 have e : ((n.toNat : Nat) : Int) = n := by omega
 simp only [e64, e] at this
 exact this
theorem Qmh (k : Nat) (c : Cane) (b i : Int)  : (G64 k) 37 [.ag (Qa8 c), .i b, .i i] = (Qd2 c i, .b (Qdw c b i)) := h37 c b i
set_option maxHeartbeats 2000000 in
theorem W64 : ∀ (n : Nat) (c : Cane) (ks f : List Int) (w : Span), Ok64 ⟨c, ks, f, n, w⟩ → Qad Try.prog 64 (e64 ⟨c, ks, f, n, w⟩) (.b (Qbz c ks w n f)) := by
 intro n
 induction n with
 | zero =>
  intro c ks f w h
  refine Qac okK3 hmix Try.func64 cb64 cc64 cs64 cn64 ?_
  have g1 := Qwf ks f w
  unfold Qai at g1
  have hm : Qii (ks, f, w) := ⟨⟨by have := h.n; simp only at this; show f.length ≤ 100; omega, fun x hx => by have := h.f x hx; unfold tame; omega⟩, h.ks⟩
  simp only [rc64, rs64, e64, Qz, g1, hm, Qbz, Qaa, Qab, Qaj, Qah, Qa7, Qaf, Qa6, Qa1, Fam.step, Qag, evO, opv, qv, binV, ldV, lenV, Qav, V.cells, Qau, Qa9, Qa5, flat, Qa2, Qa0, Qa3, ↓reduceIte, Nat.reduceEqDiff, Nat.reduceAdd, Nat.reduceLT, Nat.reduceLeDiff, Qc, Qd, Qb, Qe, Qi, Qr, Qh, endQ, rvs, rv1, resV, vw_i, vw_b, Qay, Qax, zipA, Qf, V.b.injEq, Qj, Qa, decide_true, true_and, and_self, implies_true, reduceCtorEq, Ql, Qai, Qa8]
  rw [decide_eq_decide]
  omega
 | succ n ih =>
  intro c ks f w h
  have hok : GOk Try.prog (G64 n) := okK3.ext (f := 64) (fun a w => Try.call64 a w) (Qaw fun a h => by
   obtain ⟨c, ks, f, m, w⟩ := a
   obtain ⟨h1, h2⟩ := h
   simp only at h2
   subst h2
   exact ih c ks f w h1)
  refine Qac hok hmix Try.func64 cb64 cc64 cs64 cn64 ?_
  have hC : OkC c := h.c
  have hfx : ∀ x ∈ f, 1 ≤ x ∧ x ≤ 90 := h.f
  have hfn : f.length + (n + 1) ≤ 50 := h.n
  have hks : ks.length ≤ 1000 ∧ ∀ k ∈ ks, tame 1000 k := h.ks
  have hn0 : ¬ ((n : Int) + 1 = 0) := by omega
  have hml := Qh1 c f.length
  have hmo := hC.most (i := (f.length : Int)) (by unfold tame; omega)
  simp only [rc64, rs64, e64, hn0, Q5, Q6, Qal, Qaa, Qab, Qaj, Qae, Qa7, Qaf, Qa6, Qa1, Fam.step, Qag, evO, opv, qv, binV, V.cells, Qau, Qa9, Qa5, Qa2, Qa0, Qa3, ↓reduceIte, Nat.reduceEqDiff, Nat.reduceAdd, Qc, Qd, vw_i, Qay, Qax, zipA, Qf, Qj, Qa, decide_false, true_and, and_self, reduceCtorEq, Qai, Qa8]
  refine Qbu (Qbw c f.length).toNat (fun i => ⟨lkp [(1, .sl 1 (ks.map eI)), (2, .sl 1 (f.map eI)), (3, .i ((n : Int) + 1)), (5, .pa (Qa8 c)), (9, .pa (Qai w)), (11, .i (1 + (i : Int)))], []⟩) (fun i => ∀ j : Nat, j < i → Qbz c ks w n (f ++ [1 + (j : Int)]) = false) ?_ ?_ ?_ ?_
  ·simp only [Qz, Xg, cutH, kp, cutV, Qa0, Qa3, ↓reduceIte, Nat.reduceEqDiff, Qc, Qd, Qr, Qai, Qa8]
  ·intro j hj; omega
  ·intro i hi hc
   have g1 := Qmh n c (1 + (i : Int)) f.length
   have g2 := q64 n c ks (f ++ [1 + (i : Int)]) n w (by omega)
   unfold Qa8 at g1 g2
   unfold Qai at g2
   have hp : Qdw c (1 + (i : Int)) f.length = true := (Qdl hC _ _).2 (by omega)
   have h1 : inI (1 + (i : Int) + 1) ∧ inI ((n : Int) + 1 - 1) := by unfold inI; omega
   have h2 : (n : Int) + 1 - 1 = n := by omega
   have h64 : Ok64 ⟨c, ks, f ++ [1 + (i : Int)], n, w⟩ := ⟨hC, hks, fun x hx => by
    rcases List.mem_append.1 hx with hx | hx
    ·exact hfx x hx
    ·rw [List.mem_singleton] at hx; omega, by simp only [Z6, Qb, Qe]; omega⟩
   rw [Za] at g2
   have f1 : Qbl (0 + f.length) := by unfold Qbl; omega
   have f2 : Qbl (f.length + 1) := by unfold Qbl; omega
   have f3 : Qbl f.length := by unfold Qbl; omega
   have f4 : inI (n : Int) := by unfold inI; omega
   have hck : Qct 1 ((f.map eI).flatten ++ [V.i (1 + (i : Int))]) 0 (f.length + 1) = (f ++ [1 + (i : Int)]).map eI := by
    have := Qjm (f ++ [1 + (i : Int)])
    simpa [eI] using this
   simp only [g1, hmo, hp, h1, h2, g2, h64, f2, f3, f4, Qpm, hck, Z9, Xk, Zz, vw_I, Xd, Z6, Q5, Q6, Qal, Qaa, Qbi, Qab, Qaj, Qbn, Qae, Qah, Qa7, Qf3, Qfk, ↓Qca, Qb5, optL, cutH, Qaf, Qao, Qa6, Qa1, Fam.step, Qag, Qb0, runX, eff, Qb4, fpR, fpQ, fpV, Qby, hits, nv, sv, Qd7, evO, opv, qv, binV, ldV, lenV, Qav, Qas, putAt, Qba, Qbp, V.cells, Qau, Qb7, Qa9, Qa5, flat, kp, cutV, Qa2, Qa0, Qa3, ↓reduceIte, Nat.reduceEqDiff, Nat.reduceAdd, Nat.reduceLT, Qc, Qd, Qv, Qu, Qb, Qe, Qn, Zs, Qi, Q8, Qr, Q0, Qx, Qh, Qk, Qs, Qw, Qp, Zg, Zb, Q1, Zh, Zp, Xm, endQ, rvs, rv1, resV, vw_i, vw_b, Qay, Qax, Qho, Qf, X0, V.b.injEq, Qo, Qy, Xa, Zj, Zd, Qj, Z4, Xp, Q3, Q9, Qa, true_and, and_self, forall_const, implies_true, reduceCtorEq, not_false_eq_true, ne_eq, Xw, Zy, Xh, Zl, Ql, Qg, Zn, Qai, Qa8]
   refine ⟨fun he => ?_, fun he => ⟨fun j hj => ?_, ?_⟩⟩
   ·rw [Qbz]
    symm
    rw [Q4]
    exact ⟨_, Qck.2 (by omega), he⟩
   ·by_cases hji : j < i
    ·exact hc j hji
    ·have : j = i := by omega
     subst this
     exact he
   ·rw [Z3]
  ·intro hc
   have hp : Qdw c (1 + ((Qbw c f.length).toNat : Int)) f.length = false := by
    rw [X4]
    intro h2
    have := (Qdl hC _ _).1 h2
    omega
   have g1 := Qmh n c (1 + ((Qbw c f.length).toNat : Int)) f.length
   unfold Qa8 at g1
   have he : Qbz c ks w (n + 1) f = false := by
    rw [Qbz, Xn]
    intro b hb
    rw [Qck] at hb
    have := hc (b - 1).toNat (by omega)
    rw [show 1 + (((b - 1).toNat : Nat) : Int) = b by omega] at this
    rw [this]; simp
   simp only [g1, hmo, hp, he, Qaa, Qab, Qaj, Qb2, Qah, Qa7, Qaf, Qao, Qa6, Qa1, Fam.step, Qag, evO, opv, qv, ldV, lenV, Qav, Qa9, Qa5, flat, Qa2, Qa0, Qa3, ↓reduceIte, Nat.reduceEqDiff, Nat.reduceAdd, Nat.reduceLT, Nat.reduceLeDiff, Qc, Qd, Qb, Qe, Qi, Qr, Qh, endQ, rvs, rv1, resV, vw_i, vw_b, Qay, Qax, Qf, Qj, Qa, and_self, implies_true, Ql, Qai, Qa8]
noncomputable def K4 : Gam := K3.ext 64 (fnG e64 d64 Ok64 (fun a => Qbz a.c a.ks a.w a.n a.f) .b)
theorem okK4 : GOk Try.prog K4 := okK3.ext (f := 64) (fun a w => Try.call64 a w) (Qaw fun a h => W64 a.n a.c a.ks a.f a.w h)
theorem k64 (c : Cane) (ks f : List Int) (n : Nat) (w : Span) : K4 64 [.ag (Qa8 c), .sl 1 (ks.map eI), .sl 1 (f.map eI), .i n, .ag (Qai w)] = (Ok64 ⟨c, ks, f, n, w⟩, .b (Qbz c ks w n f)) :=
 (show K4 64 _ = fnG e64 d64 Ok64 (fun a => Qbz a.c a.ks a.w a.n a.f) .b (e64 ⟨c, ks, f, n, w⟩) from rfl).trans (Qb3 _ (Quz _))
theorem Qwg (c : Cane) (l : List Int) (w : Span)  : K4 62 [.ag (Qa8 c), .sl 1 (l.map eI), .ag (Qai w)] = (True, .tp [.sl 1 ((stL c w l).map eI), .i (stE c w l)]) := h62 c l w
theorem W32 (c : Cane) (w : Span) : Qad Try.prog 32 [.ag (Qa8 c), .ag (Qai w)] (.tp [.i (fewR c w).1, .i (fewR c w).2]) := by
 refine Qac okK4 hmix Try.func32 cb32 cc32 cs32 cn32 ?_
 have g1 := Qwg c [] w
 unfold Qa8 Qai at g1
 simp only [Qd] at g1
 simp only [rc32, rs32, g1, Qal, Qaa, Qab, Qaj, Qbn, Qae, Qah, Qa7, Qaf, Qa6, Qa1, Fam.step, Qag, evO, opv, qv, binV, ldV, Qav, V.cells, Qau, Qa9, Qa5, flat, Qcp, Qa2, Qa0, Qa3, ↓reduceIte, Nat.reduceEqDiff, Nat.reduceAdd, Nat.reduceLT, Nat.reduceLeDiff, Qc, Qd, Qb, Qe, Qi, Qr, Qh, Qk, Qs, Qw, Qp, endQ, rvs, rv1, resV, vw_i, vw_z, Qay, Qax, Qco, zipA, Qf, Qo, Qy, Qj, Qa, decide_eq_false_iff_not, true_and, and_self, reduceCtorEq, Q2, imp_self, Classical.not_not, Qai, Qa8]
 refine ⟨fun h => ?_, fun h => ?_⟩
 ·have h0 : ¬ stE c w [] = 0 := h
  simp only [fewR, h0, ↓reduceIte]
 ·obtain ⟨h1, h2, h3, h4, h5, h6, h7⟩ := Qkg h
  have hlen := Qc9 c h1
  have hff := Qmq h1 h6 w
  simp only [h7]
  refine Qbu 7 (fun n => ⟨lkp [(2, .pa (Qa8 c)), (3, .pa (Qai w)), (6, .sl 1 ((Qa4 c).map eI)), (8, .i n)], []⟩) (fun n => ∀ k, k < n → Qbz c (Qa4 c) w k [] = false) ?_ ?_ ?_ ?_
  ·simp only [Qz, kp, Qa0, Qa3, ↓reduceIte, Nat.reduceEqDiff, Qc, Qd, Qai, Qa8]
  ·intro k hk; omega
  ·intro n hn hc
   have hlt : (n : Int) ≤ 6 := by omega
   have i1 : inI ((n : Int) + 1) := by unfold inI; omega
   have g2 := k64 c (Qa4 c) [] n w
   unfold Qa8 Qai at g2
   simp only [Qd] at g2
   have hok : Ok64 ⟨c, Qa4 c, [], n, w⟩ := ⟨h1, ⟨by show (Qa4 c).length ≤ 1000; omega, fun k hk => by have := Qcc h1 hk; unfold tame; omega⟩, fun x hx => (by cases hx), by show 0 + n ≤ 50; omega⟩
   simp only [hlt, i1, g2, hok, Q5, Q6, Qal, Qaa, Qab, Qaj, Qbn, Qae, Qah, Qa7, Qaf, Qao, Qa6, Qa1, Fam.step, Qag, evO, opv, qv, binV, ldV, Qav, Qa9, Qa5, flat, kp, Qa2, Qa0, Qa3, ↓reduceIte, Nat.reduceEqDiff, Nat.reduceAdd, Nat.reduceLT, Nat.reduceLeDiff, Qc, Qd, Qb, Qe, Qi, Qr, Qh, Qw, endQ, rvs, rv1, resV, vw_i, vw_z, Qay, Qax, Qco, Qf, Qj, Qa, decide_true, true_and, and_true, and_self, implies_true, Zn, Qai, Qa8]
   refine ⟨fun he => ?_, fun he => ?_⟩
   ·have e : fewN c w = some n := by
     rw [hff]
     refine Qjq (i := n) (Z2 hn) he fun j y hj hy => ?_
     rw [Z2 (by omega)] at hy
     rw [← Option.some.inj hy]
     exact hc j hj
    simp only [fewR, h, e, ↓reduceIte]
   ·intro k hk
    by_cases e : k < n
    ·exact hc k e
    ·have e : k = n := by omega
     subst e
     exact he
  ·intro hc
   have h77 : ¬ (((7 : Nat) : Int) ≤ 6) := by decide
   have e : fewN c w = none := by
    rw [hff, Zw]
    intro k hk
    rw [hc k (by simpa using hk)]; simp
   simp only [h77, fewR, h, e, Qaa, Qab, Qaj, Qb2, Qah, Qa7, Qaf, Qao, Qa6, Qa1, Fam.step, Qag, evO, opv, qv, binV, ldV, Qa2, Qa0, Qa3, ↓reduceIte, Nat.reduceEqDiff, Qc, Qd, Qw, endQ, rvs, rv1, resV, vw_i, Qco, Qa, decide_false, and_self, Qai, Qa8]
end Go.C06
set_option linter.unusedSimpArgs false
set_option linter.unusedVariables false
namespace Go.C06
open Go.Fam Go.Proofs
structure D65 where
 c : Cane
 a : Int
 n : Nat
 i : Nat
 l : List Int
 w : Span
def e65 (x : D65) : List V := [.ag (Qa8 x.c), .i x.a, .i x.n, .i x.i, .sl 1 (x.l.map eI), .ag (Qai x.w)]
def d65 : List V → D65 | [.ag c, .i a, .i n, .i i, .sl _ l, .ag w] => ⟨Qcd c, a, n.toNat, i.toNat, l.map dI, Qdo w⟩ | _ => ⟨Qcd [], 0, 0, 0, [], Qdo []⟩
theorem Qsq (a : D65) : d65 (e65 a) = a := by obtain ⟨c, a, n, i, l, w⟩ := a; simp [d65, e65, Qd3, Qed, Function.comp_def, Qhj]
structure Ok65 (x : D65) : Prop where
 c : OkC x.c
 a : 0 ≤ x.a ∧ x.a ≤ 1000 * x.i
 n : x.i + x.n ≤ 50
 len : x.l.length ≤ 1000
 l : ∀ k ∈ x.l, x.c.spring.low ≤ k ∧ k ≤ x.c.spring.high
def e41 (x : D65 × Int) : List V := e65 x.1 ++ [.i x.2]
def d41 (vs : List V) : D65 × Int := match vs with | [a, b, c, d, e, f, .i n] => (d65 [a, b, c, d, e, f], n) | _ => (d65 [], 0)
theorem Quy (x : D65 × Int) : d41 (e41 x) = x := by
 have := Qsq x.1
 unfold e65 at this
 simp [d41, e41, e65, this]
def Ok41 (x : D65 × Int) : Prop := Ok65 x.1 ∧ 1 ≤ x.1.n ∧ 1 ≤ x.2 ∧ x.2 ≤ 90
def Qfv (x : D65 × Int) : Bool := x.1.l.all fun k => Qce x.1.c x.1.w (x.1.n - 1) (x.1.a + x.2 - Qan x.2 k) (x.1.i + 1) (x.1.l.filter fun k' => decide (Qan x.2 k' = Qan x.2 k))
noncomputable def G65 (k : Nat) : Gam := K4.ext 65 (fnG e65 d65 (fun x => Ok65 x ∧ x.n = k) (fun x => Qce x.c x.w x.n x.a x.i x.l) .b)
theorem q65 (k : Nat) (c : Cane) (a : Int) (n i : Nat) (l : List Int) (w : Span) : G65 k 65 [.ag (Qa8 c), .i a, .i n, .i i, .sl 1 (l.map eI), .ag (Qai w)] = (Ok65 ⟨c, a, n, i, l, w⟩ ∧ n = k, .b (Qce c w n a i l)) :=
 (show G65 k 65 _ = fnG e65 d65 (fun x => Ok65 x ∧ x.n = k) (fun x => Qce x.c x.w x.n x.a x.i x.l) .b (e65 ⟨c, a, n, i, l, w⟩) from rfl).trans (Qb3 _ (Qsq _))
theorem Qjk (k : Nat) (a b : Int)  : (G65 k) 38 [.i a, .i b] = (tame 1000000 a ∧ tame 1000000 b, .i (Qan a b)) := h38 a b
set_option maxHeartbeats 2000000 in
theorem W41 (n : Nat) (hok : GOk Try.prog (G65 n)) (c : Cane) (a : Int) (i : Nat) (l : List Int) (w : Span) (b : Int) (h : Ok41 (⟨c, a, n + 1, i, l, w⟩, b)) : Qad Try.prog 41 (e41 (⟨c, a, n + 1, i, l, w⟩, b)) (.b (Qfv (⟨c, a, n + 1, i, l, w⟩, b))) := by
 refine Qac hok hmix Try.func41 cb41 cc41 cs41 cn41 ?_
 obtain ⟨h0, h1, h2, h3⟩ := h
 have hC : OkC c := h0.c
 have ha : 0 ≤ a ∧ a ≤ 1000 * i := h0.a
 have hn : i + (n + 1) ≤ 50 := h0.n
 have hll : l.length ≤ 1000 := h0.len
 have hl : ∀ k ∈ l, c.spring.low ≤ k ∧ k ≤ c.spring.high := h0.l
 have s1 := hC.low
 have s2 := hC.le
 have s3 := hC.high
 simp only at h2 h3
 have t1 : tame 1000000 b := by unfold tame; omega
 have t2 : tame 1000000 c.spring.low := by unfold tame; omega
 have t3 : tame 1000000 c.spring.high := by unfold tame; omega
 have v1 := Qgt (b := b) (k := c.spring.low) (by omega) (by omega)
 have v2 := Qgt (b := b) (k := c.spring.high) (by omega) (by omega)
 have g1 := Qjk n b c.spring.low
 have g2 := Qjk n b c.spring.high
 simp only [rc41, rs41, e41, e65, g1, t1, t2, Q0, Qx, Qaa, Qab, Qae, Qa7, Qaf, Qa6, Qa1, Fam.step, Qag, evO, opv, qv, ldV, Qav, V.cells, Qau, Qa9, Qa5, flat, Qa2, Qa0, Qa3, ↓reduceIte, Nat.reduceEqDiff, Nat.reduceAdd, Nat.reduceLT, Nat.reduceLeDiff, Qc, Qd, Qb, Qe, Qt, Qq, Q0, Qx, Qh, vw_i, Qay, Qax, zipA, Qf, Qj, Qa, true_and, and_self, implies_true, reduceCtorEq, Qai, Qa8]
 refine Qbu (Qan b c.spring.high + 1 - Qan b c.spring.low).toNat (fun j => ⟨lkp [(1, .i a), (2, .i ((n + 1 : Nat) : Int)), (3, .i i), (4, .sl 1 (l.map eI)), (6, .i b), (7, .pa (Qa8 c)), (12, .pa (Qai w)), (15, .i (Qan b c.spring.low + j))], []⟩) (fun j => ∀ j' : Nat, j' < j → ∀ k ∈ l, Qan b k = Qan b c.spring.low + j' → Qce c w n (a + b - Qan b k) (i + 1) (l.filter fun k' => decide (Qan b k' = Qan b k)) = true) ?_ ?_ ?_ ?_
 ·simp only [Qz, Xg, kp, Qa0, Qa3, ↓reduceIte, Nat.reduceEqDiff, Qc, Qd, Qai, Qa8]
 ·intro j hj; omega
 ·intro j hj hc
  obtain ⟨v, hv⟩ : ∃ v, v = Qan b c.spring.low + (j : Int) := ⟨_, rfl⟩
  have hle : v ≤ Qan b c.spring.high := by omega
  rw [← hv]
  simp only [g2, t1, t3, hle, Qal, Qaa, Qab, Qaj, Qae, Qa7, Qnj, Qaf, Qa6, Qa1, Fam.step, Qag, evO, opv, qv, binV, ldV, Qav, Qa9, Qa5, flat, kp, Qa2, Qa0, Qa3, ↓reduceIte, Nat.reduceEqDiff, Nat.reduceAdd, Nat.reduceLT, Nat.reduceLeDiff, Qc, Qd, Qb, Qe, Qn, Qt, Qq, Qx, Qh, vw_i, Qf, Qj, Qa, decide_true, true_and, and_self, implies_true, Qai, Qa8]
  obtain ⟨S, hS⟩ : ∃ S : Nat → List Int, S = fun m => (l.take m).filter fun k' => decide (Qan b k' = v) := ⟨_, rfl⟩
  have hSl : ∀ m, (S m).length ≤ 1000 := fun m => by
   rw [hS]
   refine Xz (Xr _ _) ?_
   rw [X7]; omega
  refine Qc6 l.length (fun m => ⟨lkp [(1, .i a), (2, .i ((n + 1 : Nat) : Int)), (3, .i i), (4, .sl 1 (l.map eI)), (6, .i b), (7, .pa (Qa8 c)), (12, .pa (Qai w)), (15, .i v), (16, .rf 0 (S m).length 0 (S m).length 1), (17, .i m)], [.cells (S m).length ((S m).map V.i)]⟩) ?_ ?_ ?_
  ·have h0 : S 0 = [] := by rw [hS]; rfl
   simp only [Qz, h0, kp, Qa0, Qa3, ↓reduceIte, Nat.reduceEqDiff, Qc, Qd, Qe, Qai, Qa8]
  ·intro m hm
   obtain ⟨x, hx⟩ : ∃ x, l[m]? = some x := ⟨_, Qm hm⟩
   have hxl := hl x (Ze hx)
   have hlt : (m : Int) < l.length := by omega
   have i1 : inI ((m : Int) + 1) := by unfold inI; omega
   have t4 : tame 1000000 x := by unfold tame; omega
   have g3 := Qjk n b x
   have hs : S (m + 1) = if Qan b x = v then S m ++ [x] else S m := by
    rw [hS]
    simp only [Qbk hx, Xy, X8, Ja, decide_eq_true_eq]
    split <;> simp
   have hl1 := hSl m
   have hl2 : ((S m).map V.i).length = (S m).length := by simp
   have hfl : Qbl ((S m).length + 1) := by unfold Qbl; omega
   have happ : (S m).map V.i ++ [V.i x] = (S m ++ [x]).map V.i := by simp
   simp only [hx, hlt, i1, g3, t1, t4, Qal, Qaa, Qab, Qaj, Qbn, Qae, Qa7, Qfk, putB, Qaf, Qao, Qa6, Qa1, Fam.step, Qag, Qbx, Qb0, putB, nv, sv, Qd7, evO, opv, qv, binV, ldV, iadV, lenV, Qav, Qas, putAt, Qba, Qbp, V.cells, Qau, Qb7, Qa9, Qa5, flat, kp, Qa2, Qa0, Qa3, ↓reduceIte, Nat.reduceEqDiff, Nat.reduceMul, Nat.reduceLT, Nat.reduceLeDiff, Qc, Qd, Qv, Qu, Qb, Qe, Qi, Q8, Qq, Q0, Qx, Qh, Qk, Qp, Zb, Q1, Zh, vw_i, Zk, Qf, Qo, Qj, Qa, decide_true, decide_eq_true_eq, true_and, and_self, implies_true, reduceCtorEq, not_false_eq_true, ne_eq, Zf, Ql, Za, Qg, Zc, Qai, Qa8, eI]
   refine ⟨fun e => ?_, fun e => ?_⟩
   ·rw [if_pos e] at hs
    simp only [hs, hfl, happ, Xd, Q5, Q6, Xk, Z9, Z6, Qb, Qe, Qf, Qb, Qe, Qh, Qf, and_self]
   ·rw [if_neg e] at hs
    simp only [hs, Q5, Q6]
  ·have h77 : ¬ ((l.length : Int) < l.length) := by omega
   have hE : S l.length = l.filter fun k' => decide (Qan b k' = v) := by rw [hS]; simp only [X9]
   obtain ⟨T, hT⟩ : ∃ T, T = l.filter fun k' => decide (Qan b k' = v) := ⟨_, rfl⟩
   rw [← hT] at hE
   have hTl : T.length ≤ 1000 := by rw [← hE]; exact hSl _
   have hmem : ∀ k, k ∈ T ↔ k ∈ l ∧ Qan b k = v := fun k => by rw [hT, Zq, decide_eq_true_eq]
   have g4 := q65 n c (a + b - v) n (i + 1) T w
   unfold Qa8 Qai at g4
   have hv0 : 0 ≤ v ∧ v ≤ b := by omega
   have j1 : inI (a + b) ∧ inI (a + b - v) ∧ inI (n : Int) ∧ inI ((i : Int) + 1) ∧ inI (v + 1) := by unfold inI; omega
   have j2 : ((n + 1 : Nat) : Int) - 1 = n := by omega
   have j3 : ((i + 1 : Nat) : Int) = (i : Int) + 1 := by omega
   rw [j3] at g4
   have h65 : Ok65 ⟨c, a + b - v, n, i + 1, T, w⟩ := ⟨hC, by show 0 ≤ a + b - v ∧ a + b - v ≤ 1000 * ((i + 1 : Nat) : Int); omega, by show i + 1 + n ≤ 50; omega, hTl, fun k hk => hl k ((hmem k).1 hk).1⟩
   have hckT := Qmm T
   by_cases hpos : (0 : Int) < T.length
   ·simp only [h77, hE, hpos, Ql, Xd, Zz, hckT, vw_I, j1, j2, g4, h65, Qal, Qaa, Qab, Qaj, Qbn, Qb2, Qah, Qa7, Qf3, ↓Qca, cutH, Qaf, Qao, Qa6, Qa1, Fam.step, Qag, Qbo, Qbd, ug, evO, opv, qv, Qaq, binV, ldV, lenV, Qav, Qa9, Qa5, flat, cutV, Qa2, Qa0, Qa3, ↓reduceIte, Nat.reduceEqDiff, Nat.reduceAdd, Nat.reduceLT, Qc, Qd, Qv, Qu, Qb, Qe, Qi, Q8, Qr, Qh, Qk, endQ, rvs, rv1, resV, vw_i, vw_b, Qay, Qax, Qho, beq_self_eq_true, Qf, V.b.injEq, Qo, Qj, Xp, Qa, Q7, decide_true, decide_false, true_and, and_self, forall_const, implies_true, Q2, Ql, Xl, Qai, Qa8]
    refine ⟨fun he => ?_, fun he => ⟨fun j' hj' k hk hbk => ?_, by rw [hv, show ((j + 1 : Nat) : Int) = (j : Int) + 1 by omega, Z3]⟩⟩
    ·symm
     obtain ⟨k, hkT⟩ := Xj T (fun e => by rw [e] at hpos; simp at hpos)
     have hkk := (hmem k).1 hkT
     unfold Qfv
     rw [List.all_eq_false]
     refine ⟨k, hkk.1, ?_⟩
     simp only [Z7, hkk.2, ← hT]
     rw [he]; simp
    ·by_cases e : j' < j
     ·exact hc j' e k hk hbk
     ·have : j' = j := by omega
      subst this
      rw [← hv] at hbk
      simp only [hbk, ← hT]
      exact he
   ·simp only [h77, hE, hpos, Ql, Xd, Zz, hckT, vw_I, j1, j2, Qal, Qaa, Qab, Qaj, Qb2, Qa7, Qf3, ↓Qca, cutH, Qaf, Qao, Qa6, Qa1, Fam.step, Qag, Qbo, Qbd, ug, evO, opv, qv, Qil, binV, ldV, lenV, Qav, Qa9, Qa5, cutV, Qa2, Qa0, Qa3, ↓reduceIte, Nat.reduceEqDiff, Nat.reduceAdd, Nat.reduceLT, Qc, Qd, Qv, Qu, Qb, Qe, Qi, Q8, Qr, Qh, Qk, vw_i, Qay, Qax, Qho, Qf, Qo, Qy, Qj, Xp, Qa, decide_false, true_and, and_true, and_self, false_and, forall_const, implies_true, beq_true, imp_self, Ql, Qai, Qa8]
    refine ⟨fun j' hj' k hk hbk => ?_, by rw [hv, show ((j + 1 : Nat) : Int) = (j : Int) + 1 by omega, Z3]⟩
    by_cases e : j' < j
    ·exact hc j' e k hk hbk
    ·have : j' = j := by omega
     subst this
     rw [← hv] at hbk
     have hkT := (hmem k).2 ⟨hk, hbk⟩
     have := Zr.2 (Xi hkT)
     omega
 ·intro hc
  have h77 : ¬ (Qan b c.spring.low + ((Qan b c.spring.high + 1 - Qan b c.spring.low).toNat : Int) ≤ Qan b c.spring.high) := by
   have := Qdx (b := b) (k := c.spring.low) (k' := c.spring.high) (by omega) s1 s2
   omega
  have he : Qfv (⟨c, a, n + 1, i, l, w⟩, b) = true := by
   unfold Qfv
   rw [Zo]
   intro k hk
   have hk2 := hl k hk
   have m1 := Qdx (b := b) (k := c.spring.low) (k' := k) (by omega) s1 hk2.1
   have m2 := Qdx (b := b) (k := k) (k' := c.spring.high) (by omega) (by omega) hk2.2
   have := hc (Qan b k - Qan b c.spring.low).toNat (by omega) k hk (by omega)
   simp only [Z7]
   exact this
  simp only [g2, t1, t3, h77, he, Qaa, Qab, Qaj, Qb2, Qah, Qa7, Qaf, Qao, Qa6, Qa1, Fam.step, Qag, evO, opv, qv, binV, ldV, Qav, Qa9, Qa5, flat, Qa2, Qa0, Qa3, ↓reduceIte, Nat.reduceEqDiff, Nat.reduceAdd, Nat.reduceLT, Nat.reduceLeDiff, Qc, Qd, Qb, Qe, Qn, Qt, Qq, Qh, endQ, rvs, rv1, resV, vw_i, vw_b, Qf, Qj, Qa, decide_false, and_self, implies_true, Qai, Qa8]
noncomputable def G41 (k : Nat) : Gam := (G65 k).ext 41 (fnG e41 d41 (fun x => Ok41 x ∧ x.1.n = k + 1) Qfv .b)
theorem q41 (k : Nat) (c : Cane) (a : Int) (n i : Nat) (l : List Int) (w : Span) (b : Int) : G41 k 41 [.ag (Qa8 c), .i a, .i n, .i i, .sl 1 (l.map eI), .ag (Qai w), .i b] = (Ok41 (⟨c, a, n, i, l, w⟩, b) ∧ n = k + 1, .b (Qfv (⟨c, a, n, i, l, w⟩, b))) :=
 (show G41 k 41 _ = fnG e41 d41 (fun x => Ok41 x ∧ x.1.n = k + 1) Qfv .b (e41 (⟨c, a, n, i, l, w⟩, b)) from rfl).trans (Qb3 _ (Quy _))
theorem Qmf (k : Nat) (c : Cane) (b i : Int)  : (G41 k) 37 [.ag (Qa8 c), .i b, .i i] = (Qd2 c i, .b (Qdw c b i)) := h37 c b i
theorem Qmg (k : Nat) (n lo hi : Int)  : (G41 k) 56 [.i n, .i lo, .i hi] = (True, .b (Qak n lo hi)) := h56 n lo hi
theorem Quu (n lo hi : Int)  : K4 56 [.i n, .i lo, .i hi] = (True, .b (Qak n lo hi)) := h56 n lo hi
set_option maxHeartbeats 2000000 in
theorem W65 : ∀ (n : Nat) (c : Cane) (a : Int) (i : Nat) (l : List Int) (w : Span), Ok65 ⟨c, a, n, i, l, w⟩ → Qad Try.prog 65 (e65 ⟨c, a, n, i, l, w⟩) (.b (Qce c w n a i l)) := by
 intro n
 induction n with
 | zero =>
  intro c a i l w h
  refine Qac okK4 hmix Try.func65 cb65 cc65 cs65 cn65 ?_
  by_cases hw : Qak a w.low w.high = true
  ·simp only [rc65, rs65, e65, Quu, hw, Qce, Qaa, Qab, Qaj, Qah, Qa7, Qaf, Qa6, Qa1, Fam.step, Qag, evO, opv, qv, ldV, Qav, V.cells, Qau, Qa9, Qa5, flat, Qa2, Qa0, Qa3, ↓reduceIte, Nat.reduceEqDiff, Nat.reduceAdd, Nat.reduceLT, Nat.reduceLeDiff, Qc, Qd, Qb, Qe, Qn, Qt, Qq, Qh, endQ, rvs, rv1, resV, vw_i, vw_b, Qay, Qax, zipA, Qf, Qj, Qa, and_self, implies_true, reduceCtorEq, Qai, Qa8]
  ·simp only [rc65, rs65, e65, Quu, hw, Qce, Qz, Qal, Qaa, Qab, Qaj, Qae, Qa7, Qaf, Qa6, Qa1, Fam.step, Qag, evO, opv, qv, ldV, Qav, V.cells, Qau, Qa9, Qa5, flat, Qa2, Qa0, Qa3, ↓reduceIte, Nat.reduceEqDiff, Nat.reduceAdd, Nat.reduceLT, Nat.reduceLeDiff, Qc, Qd, Qb, Qe, Qn, Qt, Qq, Qh, vw_i, Qay, Qax, zipA, Qf, Qj, Qa, true_and, and_self, implies_true, reduceCtorEq, Qai, Qa8]
   refine Qc6 0 (fun j => ⟨lkp [(1, .i a), (2, .i 0), (3, .i i), (4, .sl 1 (l.map eI)), (6, .pa (Qa8 c)), (11, .pa (Qai w)), (13, .i 1)], []⟩) ?_ ?_ ?_
   ·simp only [kp, Qa0, Qa3, ↓reduceIte, Nat.reduceEqDiff, Qc, Qd, Qai, Qa8]
   ·intro j hj; omega
   ·simp only [Zt, Qaa, Qab, Qaj, Qb2, Qah, Qa7, Qaf, Qao, Qa6, Qa1, Fam.step, Qag, Qbo, Qbd, ug, evO, opv, qv, Qil, binV, ldV, Qav, Qa9, Qa5, Qa2, Qa0, Qa3, ↓reduceIte, Nat.reduceEqDiff, Nat.reduceAdd, Nat.reduceLT, Nat.reduceLeDiff, Qc, Qd, Qv, Qu, Qb, Qe, Qi, Qr, Qh, endQ, rvs, rv1, resV, vw_i, vw_b, Qay, Qax, Zt, Qf, Qo, Qy, Qj, Qa, decide_false, true_and, and_true, and_self, false_and, forall_const, false_implies, implies_true, beq_true, imp_self, Qai, Qa8]
 | succ n ih =>
  intro c a i l w h
  have hok : GOk Try.prog (G65 n) := okK4.ext (f := 65) (fun a w => Try.call65 a w) (Qaw fun x h => by
   obtain ⟨c, a, m, i, l, w⟩ := x
   obtain ⟨h1, h2⟩ := h
   simp only at h2
   subst h2
   exact ih c a i l w h1)
  have hok2 : GOk Try.prog (G41 n) := hok.ext (f := 41) (fun a w => Try.call41 a w) (Qaw fun x h => by
   obtain ⟨⟨c, a, m, i, l, w⟩, b⟩ := x
   obtain ⟨h1, h2⟩ := h
   simp only at h2
   subst h2
   exact W41 n hok c a i l w b h1)
  refine Qac hok2 hmix Try.func65 cb65 cc65 cs65 cn65 ?_
  have hC : OkC c := h.c
  have hin : i + (n + 1) ≤ 50 := h.n
  have hml := Qh1 c i
  have hmo := hC.most (i := (i : Int)) (by unfold tame; omega)
  by_cases hw : Qak a w.low w.high = true
  ·simp only [rc65, rs65, e65, Qmg, hw, Qce, Qaa, Qab, Qaj, Qah, Qa7, Qaf, Qa6, Qa1, Fam.step, Qag, evO, opv, qv, ldV, Qav, V.cells, Qau, Qa9, Qa5, flat, Qa2, Qa0, Qa3, ↓reduceIte, Nat.reduceEqDiff, Nat.reduceAdd, Nat.reduceLT, Nat.reduceLeDiff, Qc, Qd, Qb, Qe, Qn, Qt, Qq, Qh, endQ, rvs, rv1, resV, vw_i, vw_b, Qay, Qax, zipA, Qf, Qj, X1, Qa, and_self, implies_true, reduceCtorEq, Qai, Qa8]
  ·simp only [rc65, rs65, e65, Qmg, hw, Qal, Qaa, Qab, Qaj, Qae, Qa7, Qaf, Qa6, Qa1, Fam.step, Qag, evO, opv, qv, ldV, Qav, V.cells, Qau, Qa9, Qa5, flat, Qa2, Qa0, Qa3, ↓reduceIte, Nat.reduceEqDiff, Nat.reduceAdd, Nat.reduceLT, Nat.reduceLeDiff, Qc, Qd, Qb, Qe, Qn, Qt, Qq, Qh, vw_i, Qay, Qax, zipA, Qf, Qj, Qa, true_and, and_self, implies_true, reduceCtorEq, Qai, Qa8]
   have hi50 : (i : Int) ≤ 50 := by omega
   have h0 : (0 : Int) < ((n + 1 : Nat) : Int) := by omega
   have hval : ∀ b : Int, Qfv (⟨c, a, n + 1, i, l, w⟩, b) = l.all fun k => Qce c w n (a + b - Qan b k) (i + 1) (l.filter fun k' => decide (Qan b k' = Qan b k)) := fun b => rfl
   refine Qbu (Qbw c i).toNat (fun j => ⟨lkp [(1, .i a), (2, .i ((n + 1 : Nat) : Int)), (3, .i i), (4, .sl 1 (l.map eI)), (6, .pa (Qa8 c)), (11, .pa (Qai w)), (13, .i (1 + (j : Int)))], []⟩) (fun j => ∀ j' : Nat, j' < j → Qfv (⟨c, a, n + 1, i, l, w⟩, 1 + (j' : Int)) = false) ?_ ?_ ?_ ?_
   ·simp only [Qz, Xg, kp, Qa0, Qa3, ↓reduceIte, Nat.reduceEqDiff, Qc, Qd, Qai, Qa8]
   ·intro j hj; omega
   ·intro j hj hc
    have g1 := Qmf n c (1 + (j : Int)) i
    have g2 := q41 n c a (n + 1) i l w (1 + (j : Int))
    unfold Qa8 at g1 g2
    unfold Qai at g2
    have hp : Qdw c (1 + (j : Int)) i = true := (Qdl hC _ _).2 (by omega)
    have h1 : inI (1 + (j : Int) + 1) := by unfold inI; omega
    have h41 : Ok41 (⟨c, a, n + 1, i, l, w⟩, 1 + (j : Int)) := ⟨h, by show 1 ≤ n + 1; omega, by show 1 ≤ 1 + (j : Int); omega, by show 1 + (j : Int) ≤ 90; omega⟩
    simp only [h0, g1, hmo, hp, h1, g2, h41, Qal, Qaa, Qab, Qaj, Qbn, Qae, Qah, Qa7, Qaf, Qao, Qa6, Qa1, Fam.step, Qag, Qbo, Qbd, ug, evO, opv, qv, Qaq, binV, ldV, Qav, Qa9, Qa5, flat, kp, Qa2, Qa0, Qa3, ↓reduceIte, Nat.reduceEqDiff, Nat.reduceAdd, Nat.reduceLT, Nat.reduceLeDiff, Qc, Qd, Qv, Qu, Qb, Qe, Qi, Qr, Qh, endQ, rvs, rv1, resV, vw_i, vw_b, Qay, Qax, beq_self_eq_true, Qf, V.b.injEq, Qo, Qj, Qa, Q7, decide_true, true_and, and_self, forall_const, implies_true, Zn, Qai, Qa8]
    refine ⟨fun he => ?_, fun he => ⟨fun j' hj' => ?_, ?_⟩⟩
    ·symm
     rw [Qce, Jb]
     right
     rw [Q4]
     refine ⟨1 + (j : Int), Qck.2 (by omega), ?_⟩
     rw [hval] at he
     exact he
    ·by_cases e : j' < j
     ·exact hc j' e
     ·have : j' = j := by omega
      subst this
      exact he
    ·rw [show ((j + 1 : Nat) : Int) = (j : Int) + 1 by omega, Z3]
   ·intro hc
    have hp : Qdw c (1 + ((Qbw c i).toNat : Int)) i = false := by
     rw [X4]
     intro h2
     have := (Qdl hC _ _).1 h2
     omega
    have g1 := Qmf n c (1 + ((Qbw c i).toNat : Int)) i
    unfold Qa8 at g1
    have he : Qce c w (n + 1) a i l = false := by
     rw [Qce, Xe]
     refine ⟨by simpa using hw, ?_⟩
     rw [Xn]
     intro b hb
     rw [Qck] at hb
     have := hc (b - 1).toNat (by omega)
     rw [show 1 + (((b - 1).toNat : Nat) : Int) = b by omega, hval] at this
     rw [this]; simp
    simp only [h0, g1, hmo, hp, he, Qaa, Qab, Qaj, Qb2, Qah, Qa7, Qaf, Qao, Qa6, Qa1, Fam.step, Qag, Qbo, Qbd, ug, evO, opv, qv, Qaq, binV, ldV, Qav, Qa9, Qa5, flat, Qa2, Qa0, Qa3, ↓reduceIte, Nat.reduceEqDiff, Nat.reduceAdd, Nat.reduceLT, Nat.reduceLeDiff, Qc, Qd, Qv, Qu, Qb, Qe, Qi, Qr, Qh, endQ, rvs, rv1, resV, vw_i, vw_b, Qay, Qax, beq_self_eq_true, Qf, Qo, Qj, Qa, Q7, decide_true, and_self, forall_const, implies_true, Qai, Qa8]
end Go.C06
set_option maxRecDepth 8000
namespace Go.C06
open Go.Fam Go.Proofs
end Go.C06
set_option linter.unusedSimpArgs false
set_option linter.unusedVariables false
namespace Go.C06
open Go.Fam Go.Proofs
noncomputable def K5 : Gam := (K4.ext 65 (fnG e65 d65 Ok65 (fun x => Qce x.c x.w x.n x.a x.i x.l) .b)).ext 32 (fnG eCS dCS (fun _ => True) (fun a => fewR a.1 a.2) fun r => .tp [.i r.1, .i r.2])
theorem okK5 : GOk Try.prog K5 := by
 have k1 := okK4.ext (f := 65) (fun a w => Try.call65 a w) (Qaw (e := e65) (d := d65) (ok := Ok65) (g := fun x => Qce x.c x.w x.n x.a x.i x.l) (eb := .b) fun x h => W65 x.n x.c x.a x.i x.l x.w h)
 exact k1.ext (f := 32) (fun a w => Try.call32 a w) (Qaw (e := eCS) (d := dCS) (ok := fun _ => True) (g := fun a => fewR a.1 a.2) (eb := fun r => .tp [.i r.1, .i r.2]) fun a _ => W32 a.1 a.2)
theorem k65 (c : Cane) (a : Int) (n i : Nat) (l : List Int) (w : Span) : K5 65 [.ag (Qa8 c), .i a, .i n, .i i, .sl 1 (l.map eI), .ag (Qai w)] = (Ok65 ⟨c, a, n, i, l, w⟩, .b (Qce c w n a i l)) :=
 (show K5 65 _ = fnG e65 d65 Ok65 (fun x => Qce x.c x.w x.n x.a x.i x.l) .b (e65 ⟨c, a, n, i, l, w⟩) from rfl).trans (Qb3 _ (Qsq _))
theorem k32 (c : Cane) (w : Span) : K5 32 [.ag (Qa8 c), .ag (Qai w)] = (True, .tp [.i (fewR c w).1, .i (fewR c w).2]) :=
 (show K5 32 _ = fnG eCS dCS (fun _ => True) (fun a => fewR a.1 a.2) (fun r => .tp [.i r.1, .i r.2]) (eCS (c, w)) from rfl).trans (Qb3 _ (Qjn _))
theorem Qwh (c : Cane) (l : List Int) (w : Span)  : K5 62 [.ag (Qa8 c), .sl 1 (l.map eI), .ag (Qai w)] = (True, .tp [.sl 1 ((stL c w l).map eI), .i (stE c w l)]) := h62 c l w
theorem W33 (c : Cane) (w : Span) : Qad Try.prog 33 [.ag (Qa8 c), .ag (Qai w)] (.tp [.i (Qbs c w).1, .i (Qbs c w).2.2]) := by
 refine Qac okK5 hmix Try.func33 cb33 cc33 cs33 cn33 ?_
 have g1 := Qwh c [] w
 unfold Qa8 Qai at g1
 simp only [Qd] at g1
 simp only [rc33, rs33, g1, Qal, Qaa, Qab, Qaj, Qbn, Qae, Qah, Qa7, Qaf, Qa6, Qa1, Fam.step, Qag, evO, opv, qv, binV, ldV, Qav, V.cells, Qau, Qa9, Qa5, flat, Qcp, Qa2, Qa0, Qa3, ↓reduceIte, Nat.reduceEqDiff, Nat.reduceAdd, Nat.reduceLT, Nat.reduceLeDiff, Qc, Qd, Qb, Qe, Qi, Qr, Qh, Qk, Qs, Qw, Qp, endQ, rvs, rv1, resV, vw_i, vw_z, Qay, Qax, Qco, zipA, Qf, Qo, Qy, Qj, Qa, decide_eq_false_iff_not, true_and, and_self, reduceCtorEq, Q2, imp_self, Classical.not_not, Qai, Qa8]
 refine ⟨fun h => ?_, fun h => ?_⟩
 ·have h0 : ¬ stE c w [] = 0 := h
  simp only [Qbs, h0, ↓reduceIte]
 ·obtain ⟨h1, h2, h3, h4, h5, h6, h7⟩ := Qkg h
  have hlen := Qc9 c h1
  have hff := Qid h1 h6 w
  simp only [h7]
  refine Qbu 7 (fun n => ⟨lkp [(2, .pa (Qa8 c)), (3, .pa (Qai w)), (6, .sl 1 ((Qa4 c).map eI)), (8, .i n)], []⟩) (fun n => ∀ k, k < n → Qo4 c w k = false) ?_ ?_ ?_ ?_
  ·simp only [Qz, kp, Qa0, Qa3, ↓reduceIte, Nat.reduceEqDiff, Qc, Qd, Qai, Qa8]
  ·intro k hk; omega
  ·intro n hn hc
   have hlt : (n : Int) ≤ 6 := by omega
   have i1 : inI ((n : Int) + 1) := by unfold inI; omega
   have g2 := k65 c 0 n 0 (Qa4 c) w
   rw [Qz] at g2
   unfold Qa8 Qai at g2
   have hok : Ok65 ⟨c, 0, n, 0, Qa4 c, w⟩ := ⟨h1, by show (0 : Int) ≤ 0 ∧ (0 : Int) ≤ 1000 * ((0 : Nat) : Int); omega, by show 0 + n ≤ 50; omega, by show (Qa4 c).length ≤ 1000; omega, fun k hk => (Qdy.1 hk).1⟩
   simp only [hlt, i1, g2, hok, Q5, Q6, Qal, Qaa, Qab, Qaj, Qbn, Qae, Qah, Qa7, Qaf, Qao, Qa6, Qa1, Fam.step, Qag, evO, opv, qv, binV, ldV, Qav, Qa9, Qa5, flat, kp, Qa2, Qa0, Qa3, ↓reduceIte, Nat.reduceEqDiff, Nat.reduceAdd, Nat.reduceLT, Nat.reduceLeDiff, Qc, Qd, Qb, Qe, Qi, Qr, Qh, Qw, endQ, rvs, rv1, resV, vw_i, Qay, Qax, Qco, Qf, Qj, Qa, decide_true, true_and, and_true, and_self, implies_true, Zn, Qai, Qa8]
   refine ⟨fun he => ?_, fun he => ?_⟩
   ·have e : Qic c w = some n := by
     rw [hff]
     refine Qjq (i := n) (Z2 hn) he fun j y hj hy => ?_
     rw [Z2 (by omega)] at hy
     rw [← Option.some.inj hy]
     exact hc j hj
    simp only [Qbs, h, e, ↓reduceIte]
   ·intro k hk
    by_cases e : k < n
    ·exact hc k e
    ·have e : k = n := by omega
     subst e
     exact he
  ·intro hc
   have h77 : ¬ (((7 : Nat) : Int) ≤ 6) := by decide
   have e : Qic c w = none := by
    rw [hff, Zw]
    intro k hk
    rw [hc k (by simpa using hk)]; simp
   simp only [h77, Qbs, h, e, Qaa, Qab, Qaj, Qb2, Qah, Qa7, Qaf, Qao, Qa6, Qa1, Fam.step, Qag, evO, opv, qv, binV, ldV, Qa2, Qa0, Qa3, ↓reduceIte, Nat.reduceEqDiff, Qc, Qd, Qw, endQ, rvs, rv1, resV, vw_i, Qco, Qa, decide_false, and_self, Qai, Qa8]
noncomputable def K6 : Gam := K5.ext 33 (fnG eCS dCS (fun _ => True) (fun a => Qbs a.1 a.2) fun r => .tp [.i r.1, .i r.2.2])
theorem okK6 : GOk Try.prog K6 := okK5.ext (f := 33) (fun a w => Try.call33 a w) (Qaw (e := eCS) (d := dCS) (ok := fun _ => True) (g := fun a => Qbs a.1 a.2) (eb := fun r => .tp [.i r.1, .i r.2.2]) fun a _ => W33 a.1 a.2)
theorem k33 (c : Cane) (w : Span) : K6 33 [.ag (Qa8 c), .ag (Qai w)] = (True, .tp [.i (Qbs c w).1, .i (Qbs c w).2.2]) :=
 (show K6 33 _ = fnG eCS dCS (fun _ => True) (fun a => Qbs a.1 a.2) (fun r => .tp [.i r.1, .i r.2.2]) (eCS (c, w)) from rfl).trans (Qb3 _ (Qjn _))
end Go.C06
set_option maxRecDepth 8000
namespace Go.C06
open Go.Fam Go.Proofs
def rc8 : RC := (.seq (.reg false [(cX 2 0), (cX 3 1), (cQ 4 [] (.mv (kB false)))]) (.keep [2,3] (.seq (.seq (.reg false [(cLd 15 2 true 6), (cQ 16 [15] (.call (kF 31) [(.t 15)]))]) (.keep [2,3,16] (.cond (.t 16) (.seq (.reg false [(cQ 17 [] (.call (kF 18) [])), (cMv 4 17)]) .ret) .skip))) (.keep [2,3] (.seq (.hca false 0 [⟨(cLd 19 2 true 6), [], []⟩, ⟨(cQ 20 [19] (.call (kF 24) [(.t 19)])), [], [0]⟩, ⟨(cLd 21 3 true 2), [], []⟩] ⟨⟨(some 22), none, [20,21], none, .o (kF 39) [(.t 20), (.t 21)]⟩, [], [1,0,2]⟩ 0 [⟨(cMv 18 22), [], [3,1,0,2]⟩, ⟨(cEx 23 18 0), [], [4,3,1,0,2]⟩, ⟨(cEx 24 18 1), [], [4,3,1,0,2]⟩, ⟨(cMv 5 23), [], [5,4,3,1,0,2]⟩, ⟨(cMv 6 24), [], [6,4,3,1,0,2,7,5]⟩]) (.keep [2,3,5,6] (.seq (.reg false [(cLd 26 2 true 6), (cLd 27 3 true 2), (cQ 28 [26,27] (.call (kF 32) [(.t 26), (.t 27)])), (cMv 25 28), (cEx 29 25 0), (cEx 30 25 1), (cMv 7 29), (cMv 8 30)]) (.keep [2,3,5,6,7,8] (.seq (.seq (.reg true [(cMv 31 6), (cMv 32 8), (cB 33 .neq 31 32), (cMv 34 33), (gMv 35 34 false 6), (gQ 36 34 false [35] (.bin .eql (.t 35) (kI 0))), (gMv 37 34 false 36), (gMv 38 37 true 5), (gQ 39 37 true [38] (.len (.t 38))), (gMv 40 37 true 7), (gQ 41 37 true [39,40] (.bin .neq (.t 39) (.t 40))), (gQ 42 34 false [37,41] (.pick (.t 37) (.t 41) (kB false))), (cQ 43 [34,42] (.pick (.t 34) (kB true) (.t 42))), (cMv 44 43), (gMv 45 44 false 6), (gQ 46 44 false [45] (.bin .neq (.t 45) (kI 0))), (gMv 47 44 false 46), (gMv 48 47 true 5), (gQ 49 47 true [48] (.len (.t 48))), (gQ 50 47 true [49] (.bin .gtr (.t 49) (kI 0))), (gQ 51 44 false [47,50] (.pick (.t 47) (.t 50) (kB false))), (cQ 52 [44,51] (.pick (.t 44) (kB true) (.t 51)))]) (.keep [2,3,5,6,52] (.cond (.t 52) (.seq (.reg false [(cQ 4 [] (.mv (kB false)))]) .ret) .skip))) (.keep [2,3,5,6] (.seq (.seq (.reg false [(cMv 53 6), (cC 54 .eql 53 0)]) (.keep [2,3,5,54] (.cond (.t 54) (.seq (.reg false [(cLd 56 2 true 6), (cMv 57 5), (cLd 58 3 true 2), (cQ 59 [56,57,58] (.call (kF 40) [(.t 56), (.t 57), (.t 58)])), (cMv 55 59), (cEx 60 55 0), (cEx 61 55 1), (cMv 9 60), (cMv 10 61)]) (.keep [2,3,9,10] (.seq (.reg true [(cMv 62 10), (cC 63 .neq 62 0), (cMv 64 63), (gMv 65 64 false 9), (gQ 66 64 false [65] (.bin .neq (.t 65) (kI 1))), (cQ 67 [64,66] (.pick (.t 64) (kB true) (.t 66)))]) (.keep [2,3,67] (.cond (.t 67) (.seq (.reg false [(cQ 4 [] (.mv (kB false)))]) .ret) .skip))))) .skip))) (.keep [2,3] (.seq (.any false 0 [⟨(cLd 69 2 true 6), [], []⟩, ⟨(cQ 70 [69] (.call (kF 24) [(.t 69)])), [], [0]⟩, ⟨(cLd 71 3 true 2), [], []⟩, ⟨(cQ 72 [70,71] (.call (kF 35) [(.t 70), (.t 71)])), [], [1,0,2]⟩, ⟨(cMv 68 72), [], [3,1,0,2]⟩, ⟨(cEx 73 68 0), [], [4,3,1,0,2]⟩, ⟨(cEx 74 68 1), [], [4,3,1,0,2]⟩, ⟨(cMv 11 73), [], [5,4,3,1,0,2]⟩, ⟨(cMv 12 74), [], [6,4,3,1,0,2,7,5]⟩]) (.keep [2,3,11,12] (.seq (.reg false [(cLd 76 2 true 6), (cLd 77 3 true 2), (cQ 78 [76,77] (.call (kF 33) [(.t 76), (.t 77)])), (cMv 75 78), (cEx 79 75 0), (cEx 80 75 1), (cMv 13 79), (cMv 14 80)]) (.keep [2,3,11,12,13,14] (.seq (.seq (.reg true [(cMv 81 12), (cMv 82 14), (cB 83 .neq 81 82), (cMv 84 83), (gMv 85 84 false 12), (gQ 86 84 false [85] (.bin .neq (.t 85) (kI 0))), (gMv 87 84 false 86), (gMv 88 87 false 13), (gQ 89 87 false [88] (.bin .eql (.t 88) (kI 0))), (gQ 90 84 false [87,89] (.pick (.t 87) (kB true) (.t 89))), (gMv 91 84 false 90), (gMv 92 91 true 11), (gQ 93 91 true [92] (.bin .neq (.t 92) (kI 0))), (gQ 94 84 false [91,93] (.pick (.t 91) (.t 93) (kB false))), (cQ 95 [84,94] (.pick (.t 84) (kB true) (.t 94)))]) (.keep [2,3,11,12,13,95] (.cond (.t 95) (.seq (.reg false [(cQ 4 [] (.mv (kB false)))]) .ret) .skip))) (.keep [2,3,11,12,13] (.seq (.seq (.reg true [(cMv 96 12), (cC 97 .neq 96 0), (cMv 98 97), (gMv 99 98 false 13), (gQ 100 98 false [99] (.bin .eql (.t 99) (kI 0))), (cQ 101 [98,100] (.pick (.t 98) (kB true) (.t 100)))]) (.keep [2,3,11,13,101] (.cond (.t 101) (.seq (.reg false [(cQ 102 [] (.call (kF 18) [])), (cMv 4 102)]) .ret) .skip))) (.keep [2,3,11,13] (.seq (.any true 0 [⟨(cLd 103 2 true 6), [], []⟩, ⟨(cMv 104 11), [], []⟩, ⟨(cQ 105 [103,104] (.call (kF 37) [(.t 103), (.t 104), (kI 0)])), [], [0,1]⟩, ⟨(cMv 106 105), [], [2,0,1]⟩, ⟨(gQ 107 106 true [2] (.ld true 6 (.t 2))), [], [3,2,0,1]⟩, ⟨(gMv 108 106 true 13), [], [3,2,0,1]⟩, ⟨(gQ 109 106 true [2] (.ld true 6 (.t 2))), [], [3,2,0,1]⟩, ⟨(gQ 110 106 true [109] (.call (kF 42) [(.t 109)])), [], [6,3,2,0,1]⟩, ⟨(gQ 111 106 true [3] (.ld true 2 (.t 3))), [], [3,2,0,1]⟩, ⟨(gMv 112 106 true 11), [], [3,2,0,1]⟩, ⟨(gQ 113 106 true [107,108,110,111,112] (.call (kF 41) [(.t 107), (kI 0), (.t 108), (kI 0), (.t 110), (.t 111), (.t 112)])), [], [4,3,2,0,1,5,7,6,8,9]⟩, ⟨(cQ 114 [106,113] (.pick (.t 106) (.t 113) (kB false))), [], [3,2,0,1,10,4,5,7,6,8,9]⟩, ⟨(cMv 115 114), [], [11,3,2,0,1,10,4,5,7,6,8,9]⟩, ⟨(gQ 116 115 true [] (.call (kF 18) [])), [], [12,11,3,2,0,1,10,4,5,7,6,8,9]⟩, ⟨(cQ 117 [115,116] (.pick (.t 115) (.t 116) (kB false))), [], [12,11,3,2,0,1,10,4,5,7,6,8,9,13]⟩, ⟨(cMv 4 117), [], [14,12,11,3,2,0,1,10,4,5,7,6,8,9,13]⟩]) .ret)))))))))))))))))))))
def pu8 : List Nat := [2,3]
def rs8 : List RV := [.t 4]
theorem cc8 : CCx Try.prog Try.f8 pu8 rc8 := by unfold CCx; kernel_rfl
theorem cb8 : CBx Try.f8 := by unfold CBx; kernel_rfl
theorem cs8 : CSx Try.prog Try.f8 rs8 := by unfold CSx; kernel_rfl
theorem cn8 : 2 ≤ Try.f8.ntmps := by decide
end Go.C06
set_option linter.unusedSimpArgs false
set_option linter.unusedVariables false
namespace Go.C06
open Go.Fam Go.Proofs
noncomputable def K7 : Gam := K6.ext 41 (fnG e41 d41 Ok41 Qfv .b)
theorem okK7 : GOk Try.prog K7 := okK6.ext (f := 41) (fun a w => Try.call41 a w) (Qaw fun x h => by
 obtain ⟨⟨c, a, m, i, l, w⟩, b⟩ := x
 obtain ⟨h1, h2, h3⟩ := h
 simp only at h2
 obtain ⟨m, rfl⟩ : ∃ k, m = k + 1 := ⟨m - 1, by omega⟩
 have hok : GOk Try.prog (G65 m) := okK4.ext (f := 65) (fun a w => Try.call65 a w) (Qaw fun x h => by
  obtain ⟨c, a, k, i, l, w⟩ := x
  obtain ⟨h4, h5⟩ := h
  simp only at h5
  subst h5
  exact W65 k c a i l w h4)
 exact W41 m hok c a i l w b ⟨h1, h2, h3⟩)
theorem k41 (c : Cane) (a : Int) (n i : Nat) (l : List Int) (w : Span) (b : Int) : K7 41 [.ag (Qa8 c), .i a, .i n, .i i, .sl 1 (l.map eI), .ag (Qai w), .i b] = (Ok41 (⟨c, a, n, i, l, w⟩, b), .b (Qfv (⟨c, a, n, i, l, w⟩, b))) :=
 (show K7 41 _ = fnG e41 d41 Ok41 Qfv .b (e41 (⟨c, a, n, i, l, w⟩, b)) from rfl).trans (Qb3 _ (Quy _))
theorem W39h (c : Cane) (w : Span) : Qcb Try.prog 39 [.ag (Qa8 c), .ag (Qai w)] [] fun r hp' => hp' = [] ∧ ∃ o, r = Qdb o ∧ Qdr c w o := by
 intro S w0 O cargs hmat hsz hrep
 refine (Qnf (W39 c w) hmat hsz (Qdf _ _ ?_ hrep)).mono ?_
 ·rfl
 ·rintro e w' ⟨cv, S', O', r, bs, he, ⟨⟨o, rfl, ho⟩, rfl⟩, hev, hm2, hrp⟩
  refine ⟨cv, S', O', _, _, he, ⟨rfl, o, rfl, ho⟩, hev, hm2, ?_⟩
  exact hrp
noncomputable def K8 : Gam := K7.extH 39 (hpG eCS (fun _ => []) (fun vs _ => dCS vs) (fun _ => True) fun a r hp' => hp' = [] ∧ ∃ o, r = Qdb o ∧ Qdr a.1 a.2 o)
theorem okK8 : GOk Try.prog K8 := okK7.extH (f := 39) (fun a w => Try.call39 a w) (Qn0 fun a _ => ⟨fun r hp' _ y hy => (by cases hy), W39h a.1 a.2⟩)
theorem k39 (c : Cane) (w : Span) : K8.h 39 [.ag (Qa8 c), .ag (Qai w)] [] = (True, fun r hp' => hp' = [] ∧ ∃ o, r = Qdb o ∧ Qdr c w o) :=
 (show K8.h 39 _ [] = hpG eCS (fun _ => []) (fun vs _ => dCS vs) (fun _ => True) (fun a r hp' => hp' = [] ∧ ∃ o, r = Qdb o ∧ Qdr a.1 a.2 o) (eCS (c, w)) ((fun _ => []) (c, w)) from rfl).trans (Qmz _ (Qjn _))
theorem Qp4 {c : Cane} (hC : OkC c) {w : Span} (hw : Qb9 w 540 = true) {l : List Int} (h6 : l.length ≤ 6) (hs : Sure c w l) (ht : Qa4 c ≠ []) : Qdp c l w = (1, 0) := by
 have e := Qtp hC hw ((Qmk hC l).2 ⟨h6, hs.1⟩)
 rw [if_neg ht] at e
 have hg : Qcm l w (Qa4 c) = (Qa4 c).length := (Qmx hC ht hs.1.in_ w).2 hs.2
 unfold Qdp
 rw [if_pos e]
 simp [fitK, hg]
theorem Qwi (c : Cane)  : K8 31 [.ag (Qa8 c)] = (True, .b (farP c)) := h31 c
theorem Qwl (c : Cane)  : K8 24 [.ag (Qa8 c)] = (fewB c, .ag (Qa8 c)) := k24 c
theorem Qwm (c : Cane) (w : Span)  : K8 32 [.ag (Qa8 c), .ag (Qai w)] = (True, .tp [.i (fewR c w).1, .i (fewR c w).2]) := k32 c w
theorem Qwn (c : Cane) (w : Span)  : K8 33 [.ag (Qa8 c), .ag (Qai w)] = (True, .tp [.i (Qbs c w).1, .i (Qbs c w).2.2]) := k33 c w
theorem Qwo (c : Cane) (w : Span)  : K8 35 [.ag (Qa8 c), .ag (Qai w)] = (True, .tp [.i (Qbs c w).2.1, .i (Qbs c w).2.2]) := k35 c w
theorem Qwp (c : Cane) (l : List Int) (w : Span)  : K8 40 [.ag (Qa8 c), .sl 1 (l.map eI), .ag (Qai w)] = (True, .tp [.i (Qdp c l w).1, .i (Qdp c l w).2]) := k40 c l w
theorem Qwj (c : Cane) (b i : Int)  : K8 37 [.ag (Qa8 c), .i b, .i i] = (Qd2 c i, .b (Qdw c b i)) := h37 c b i
theorem Qwk (c : Cane)  : K8 42 [.ag (Qa8 c)] = (OkC c, .sl 1 ((Qa4 c).map eI)) := h42 c
theorem Qkm  : K8 18 [] = (True, .b true) := h18
theorem k41' (c : Cane) (a : Int) (n i : Nat) (l : List Int) (w : Span) (b : Int) : K8 41 [.ag (Qa8 c), .i a, .i n, .i i, .sl 1 (l.map eI), .ag (Qai w), .i b] = (Ok41 (⟨c, a, n, i, l, w⟩, b), .b (Qfv (⟨c, a, n, i, l, w⟩, b))) := k41 c a n i l w b
set_option maxRecDepth 100000 in
set_option maxHeartbeats 8000000 in
theorem P8 (c : Cane) (w : Span) : Qad Try.prog 8 [.ag (Qa8 c), .ag (Qai w)] (.b true) := by
 refine Qac okK8 hmix Try.func8 cb8 cc8 cs8 cn8 ?_
 have g1 := Qwi c
 have g2 := Qwl c
 have g3 := k39 c w
 have g4 := Qwm c w
 have g5 := Qwn c w
 have g6 := Qwo c w
 unfold Qa8 at g1 g2 g3 g4 g5 g6
 unfold Qai at g3 g4 g5 g6
 by_cases hf : farP c = true
 ·simp only [rc8, rs8, g1, hf, Qkm, Qaa, Qab, Qaj, Qah, Qa7, Qaf, Qa6, Qa1, Fam.step, Qag, evO, opv, qv, ldV, Qav, V.cells, Qau, Qa9, Qa5, flat, Qa2, Qa0, Qa3, ↓reduceIte, Nat.reduceEqDiff, Nat.reduceAdd, Nat.reduceLT, Nat.reduceLeDiff, Qc, Qd, Qb, Qe, Qi, Qr, Qh, endQ, rvs, rv1, resV, vw_i, vw_b, Qay, Qax, zipA, Qf, Qj, Qa, and_self, implies_true, reduceCtorEq, Qai, Qa8]
 ·have hb : fewB c := by
   unfold farP farB at hf
   unfold fewB
   simp at hf
   omega
  simp only [rc8, rs8, g1, g2, g3, hf, hb, Qal, Qaa, Qbi, Qab, Qaj, Qbn, Qah, Qa7, Qsa, Qb5, Qaf, Qa6, Qa1, Fam.step, Qag, Qbo, Qb0, Qbd, ug, runX, eff, Qb4, fpR, fpQ, fpV, Qby, hits, evO, opv, qv, binV, ldV, lenV, Qav, V.cells, Qau, Qa9, Qa5, flat, Qcp, Qa2, Qa0, Qa3, ↓reduceIte, Nat.reduceEqDiff, Nat.reduceAdd, Nat.reduceLT, Nat.reduceLeDiff, Qc, Qd, Qv, Qu, Qb, Qe, Qi, Qr, Q0, Qx, Qh, Qw, Zg, Q1, Zh, Zp, endQ, rvs, rv1, resV, vw_i, vw_b, Qay, Qax, zipA, Qf, V.b.injEq, Qo, Qy, Xa, Zj, Zd, Qj, Z4, Q3, Q9, Qa, true_and, and_true, and_self, and_false, false_implies, implies_true, reduceCtorEq, Zy, Zl, beq_true, beq_false, imp_self, Qg, Zn, Qai, Qa8]
  rintro r hp' ⟨rfl, ⟨l, e⟩, rfl, hB⟩
  have hfew := Qkr hB
  simp only at hfew
  by_cases hs : stE c w [] = 0
  ·obtain ⟨hC, _, hw, _, _, ht, _⟩ := Qkg hs
   have g7 := Qwp c l w
   have g8 := fun b => Qwj c b 0
   have g9 := Qwk c
   have g10 := fun (n : Nat) (b : Int) => k41' c 0 n 0 (Qa4 c) w b
   unfold Qa8 at g7 g8 g9 g10
   unfold Qai at g7 g10
   simp only [Qz] at g10
   have hmo := hC.most (i := 0) (by unfold tame; omega)
   have hfit : e = 0 → Qdp c l w = (1, 0) := fun he => by
    unfold Qdr at hB
    rw [if_pos hs] at hB
    rcases hB with ⟨h1, h2, h3, _⟩ | ⟨h1, _⟩
    ·exact Qp4 hC hw h3 h2 ht
    ·simp only at h1; omega
   have hmeas : Qbs c w = (0, 0, 3) ∨ Qbs c w = (0, 0, 0) ∨ ∃ (n : Nat) (b : Int), 0 < n ∧ n ≤ 6 ∧ Qbs c w = ((n : Int), b, 0) ∧ Qdw c b 0 = true ∧ 1 ≤ b ∧ b ≤ 90 ∧ Qfv (⟨c, 0, n, 0, Qa4 c, w⟩, b) = true := by
    cases hmn : Qic c w with
    | none => left; unfold Qbs; rw [if_pos hs, hmn]
    | some n =>
     right
     obtain ⟨f1, f2⟩ := Qr4 hC ht hmn
     have e1 : Qbs c w = ((n : Int), Qe1 c w n, 0) := by unfold Qbs; rw [if_pos hs, hmn]
     by_cases hn : n = 0
     ·left; rw [e1, (f1 hn).2, hn]; rfl
     ·right
      obtain ⟨f3, f4⟩ := f2 hn
      have h6 : n ≤ 6 := by
       rw [Qid hC ht] at hmn
       have := (Qms hmn).1; omega
      have hml := Qh1 c 0
      refine ⟨n, Qe1 c w n, by omega, h6, e1, (Qdl hC _ _).2 f3, f3.1, by omega, ?_⟩
      unfold Qfv
      rw [Zo]
      intro k hk
      simp only [X3]
      exact f4 k hk
   have hlen := Qc9 c hC
   have h41 : ∀ (n : Nat) (b : Int), 0 < n → n ≤ 6 → 1 ≤ b → b ≤ 90 → Ok41 (⟨c, 0, n, 0, Qa4 c, w⟩, b) := fun n b h1 h2 h3 h4 => ⟨⟨hC, by show (0 : Int) ≤ 0 ∧ (0 : Int) ≤ 1000 * ((0 : Nat) : Int); omega, by show 0 + n ≤ 50; omega, by show (Qa4 c).length ≤ 1000; omega, fun k hk => (Qdy.1 hk).1⟩, h1, h3, h4⟩
   have hcase : fewR c w = (0, 3) ∨ ∃ n : Nat, fewR c w = ((n : Int), 0) := by
    cases hfn : fewN c w with
    | none => left; unfold fewR; rw [if_pos hs, hfn]
    | some n => right; exact ⟨n, by unfold fewR; rw [if_pos hs, hfn]⟩
   rcases hcase with e1 | ⟨n0, e1⟩ <;> rw [e1, Prod.mk.injEq] at hfew <;> obtain ⟨l0, rfl⟩ := hfew <;> simp only [forall_const, Int.reduceEq, false_implies] at hfit
   ·rcases hmeas with m1 | m1 | ⟨n, b, p0, n6, m1, mp, b1, b2, mg⟩
    ·simp only [Qdb, g4, g5, g6, e1, m1, l0, g7, Qkm, Qaq, Qa9, flat, Qcp, ↓reduceIte, Nat.reduceAdd, Nat.reduceLT, Int.reduceEq, Qb, Qe, Qk, Qs, Qp, vw_i, vw_b, Qay, Zt, Qf, Qo, Zd, Q3, Q9, Qa, Q7, decide_true, decide_false, decide_eq_true_eq, decide_eq_false_iff_not, true_and, and_true, and_self, forall_const, false_implies, implies_true, X5, Zx, Q2, Qh0, imp_self, Ql]
    ·simp only [Qdb, g4, g5, g6, e1, m1, l0, g7, Qkm, Qaq, Qa9, flat, Qcp, ↓reduceIte, Nat.reduceAdd, Nat.reduceLT, Int.reduceEq, Qb, Qe, Qk, Qs, Qp, vw_i, vw_b, Qay, Zt, Qf, Qo, Zd, Q3, Q9, Qa, Q7, decide_true, decide_false, decide_eq_true_eq, decide_eq_false_iff_not, true_and, and_true, and_self, forall_const, false_implies, implies_true, X5, Zx, Q2, Qh0, imp_self, Ql]
    ·have n1 : ¬ ((n : Int) = 0) := by omega
     have h41' := h41 n b p0 n6 b1 b2
     simp only [Qdb, g4, g5, g6, e1, m1, l0, g7, g8, g9, g10, hmo, mp, mg, n1, hC, h41', Qkm, Qaq, Qa9, Qa5, flat, Qcp, ↓reduceIte, Nat.reduceAdd, Nat.reduceLT, Int.reduceEq, Qc, Qd, Qb, Qe, Qk, Qs, Qp, vw_i, vw_b, Qay, Qax, Zt, Qf, Qo, Zd, Qj, Q3, Q9, Qa, decide_true, decide_false, decide_eq_true_eq, decide_eq_false_iff_not, true_and, and_true, and_self, forall_const, false_implies, implies_true, X5, Zx, Q2, Qh0, imp_self, Ql]
   ·rcases hmeas with m1 | m1 | ⟨n, b, p0, n6, m1, mp, b1, b2, mg⟩
    ·simp only [Qdb, g4, g5, g6, e1, m1, l0, hfit, g7, Qkm, Qaq, Qa9, flat, Qcp, ↓reduceIte, Nat.reduceAdd, Nat.reduceLT, Int.reduceEq, Qb, Qe, Qk, Qs, Qp, vw_i, vw_b, Qay, Qf, Qo, Zd, Q3, Q9, Qa, Q7, decide_true, decide_false, true_and, and_true, and_self, forall_const, false_implies, implies_true, imp_self, Ql]
    ·simp only [Qdb, g4, g5, g6, e1, m1, l0, hfit, g7, Qkm, Qaq, Qa9, flat, Qcp, ↓reduceIte, Nat.reduceAdd, Nat.reduceLT, Qb, Qe, Qk, Qs, Qp, vw_i, vw_b, Qay, Qf, Qo, Zd, Q3, Q9, Qa, Q7, decide_true, true_and, and_true, and_self, forall_const, false_implies, implies_true, imp_self, Ql]
    ·have n1 : ¬ ((n : Int) = 0) := by omega
     have h41' := h41 n b p0 n6 b1 b2
     simp only [Qdb, g4, g5, g6, e1, m1, l0, hfit, g7, g8, g9, g10, hmo, mp, mg, n1, hC, h41', Qkm, Qaq, Qa9, Qa5, flat, Qcp, ↓reduceIte, Nat.reduceAdd, Nat.reduceLT, Qc, Qd, Qb, Qe, Qk, Qs, Qp, vw_i, vw_b, Qay, Qax, Qf, Qo, Zd, Qj, Q3, Q9, Qa, Q7, decide_true, decide_false, and_true, and_self, forall_const, implies_true, imp_self, Ql]
  ·have e1 : fewR c w = (0, stE c w []) := by unfold fewR; rw [if_neg hs]
   have e2 : Qbs c w = (0, 0, stE c w []) := by unfold Qbs; rw [if_neg hs]
   rw [e1, Prod.mk.injEq] at hfew
   obtain ⟨l0, rfl⟩ := hfew
   simp only [Qdb, g4, g5, g6, e1, e2, hs, l0, Qkm, Qaq, Qa9, ↓reduceIte, Nat.reduceAdd, Nat.reduceLT, Qb, Qe, Qk, Qs, Qp, vw_i, vw_b, Qay, Zt, Qf, Qo, Zd, Q3, Q9, Qa, Q7, decide_true, decide_false, true_and, and_true, and_self, forall_const, false_implies, implies_true, imp_self, Ql]
end Go.C06
