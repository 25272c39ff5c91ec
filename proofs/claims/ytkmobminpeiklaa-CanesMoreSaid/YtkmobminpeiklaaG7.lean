import Derived.Test.YtkmobminpeiklaaG6
import Derived.Test.YtkmobminpeiklaaG3
import Derived.Test.YtkmobminpeiklaaChecked
set_option linter.all false
open List renaming length_cons → Qb, map_cons → Qc, take_succ_cons → Qd, map_nil → Qe, length_nil → Qf, drop_succ_cons → Qg, append_nil → Qh, length_map → Qi, getD_eq_getElem?_getD → Qk, headD_cons → Ql, getElem?_cons_zero → Qm, drop_zero → Qo, getElem?_cons_succ → Qq, replicate_zero → Qr, all_cons → Qs, take_nil → Qt, all_nil → Qu, take_zero → Qx, nil_append → Qy, getElem?_eq_getElem → Qz, cons_append → Q0, set_cons_zero → Q1, replicate_succ → Q4, set_cons_succ → Q5, drop_nil → Q8, length_append → Q9, flatten_nil → Za, flatten_cons → Zb, any_eq_true → Zh, getElem?_nil → Zj, length_pos_iff → Zm, getElem?_map → Zn, mem_of_getElem? → Zp, countP_eq_length → Zu, pairwise_iff_getElem → Zx, contains_nil → Zy, isEmpty_nil → Zz, range → Z0, all_eq_true → Z1, getElem?_eq_some_iff → Z2, exists_mem_of_ne_nil → Z3, ne_nil_of_mem → Z4, any_nil → Z5, getElem_mem → Z6, find?_eq_some_iff_getElem → Z7, eq_nil_of_length_eq_zero → Z8, mem_filter → Z9, countP_eq_zero → Xb, find?_eq_none → Xc, mem_of_find?_eq_some → Xd, getElem?_eq_none → Xh, mem_iff_getElem → Xj, getElem?_of_mem → Xl, getElem_range → Xm, countP_append → Xn, contains_cons → Xo, isEmpty_cons → Xq, mem_range'_1 → Xr, find?_some → Xt
open Nat renaming zero_add → Qj, le_refl → Zf, le_of_not_lt → Xf
open Bool renaming false_eq_true → Qa, or_false → Qn, and_self → Qp, and_true → Qv, true_eq_false → Q2, not_true → Q3, not_eq_true' → Q6, false_and → Q7, not_false → Zc, not_eq_false' → Zd, true_and → Ze, and_eq_true → Zg, and_false → Zl, not_not → Zr, decide_eq_true → Xa, false_or → Xe, not_eq_true → Xg, and_eq_false_iff → Xi, or_eq_false_iff → Xk, not_eq_false → Xp, eq_iff_iff → Xs
open Option renaming getD_some → Qw, map_some → Zo, getD_none → Zw
open Int renaming natCast_zero → Zi, le_refl → Zk, toNat_natCast → Zq, natCast_add → Zs, natCast_one → Zt, natCast_nonneg → Zv
set_option linter.unusedSimpArgs false
set_option linter.unusedVariables false
namespace Go.C06
open Go.Fam Go.Proofs
theorem Qma (a b : Int) : (ints a b).Pairwise (· < ·) := by
 rw [Zx]
 intro i j hi hj hij
 rw [Qfn] at hi hj
 have h1 := Qgk (lo := a) (hi := b) (k := i) hi
 have h2 := Qgk (lo := a) (hi := b) (k := j) hj
 rw [Z2] at h1 h2
 obtain ⟨_, h1⟩ := h1
 obtain ⟨_, h2⟩ := h2
 rw [h1, h2]; omega
theorem Qdh (c : Cane) : (Qa1 c).Pairwise (· < ·) := (Qma _ _).sublist List.filter_sublist
theorem Qit {l : List Int} (h : l.Pairwise (· < ·)) {k : Int} (hk : k ∈ l) : l.getD 0 0 ≤ k ∧ k ≤ l.getD (l.length - 1) 0 := by
 obtain ⟨i, hi, rfl⟩ := Xj.1 hk
 rw [Zx] at h
 simp only [Qk]
 rw [Qz (show 0 < l.length by omega), Qz (show l.length - 1 < l.length by omega)]
 simp only [Qw]
 constructor
 ·by_cases e : i = 0
  ·subst e; exact Zk _
  ·have := h 0 i (by omega) hi (by omega); omega
 ·by_cases e : i = l.length - 1
  ·subst e; exact Zk _
  ·have := h i (l.length - 1) hi (by omega) (by omega); omega
theorem Qjm {c : Cane} {k : Int} (hk : k ∈ Qa1 c) : trF c ≤ k ∧ k ≤ trL c := Qit (Qdh c) hk
theorem Qdi {k k' : Int} (hk : 0 ≤ k) (h : k ≤ k') : ∀ {l : List Int}, (∀ n ∈ l, 1 ≤ n ∧ n ≤ 90) → Qav l k' ≤ Qav l k := by
 intro l
 induction l with
 | nil => intro _; exact Zk _
 | cons n l ih =>
  intro hl
  have h1 := Qks (b := n) (by have := hl n (by simp); omega) hk h
  have h3 := ih fun m hm => hl m (by simp [hm])
  unfold Qav at h3 ⊢
  simp only [Qc, List.sum_cons]
  omega
theorem Qu5 {c : Cane} (ht : Qa1 c ≠ []) : trF c ∈ Qa1 c := by
 unfold trF
 have := Zm.2 ht
 rw [Qk, Qz this]
 exact Z6 _
theorem Qu6 {c : Cane} (ht : Qa1 c ≠ []) : trL c ∈ Qa1 c := by
 unfold trL
 have := Zm.2 ht
 rw [Qk, Qz (show (Qa1 c).length - 1 < (Qa1 c).length by omega)]
 exact Z6 _
theorem Qjt {c : Cane} (hc : OkC c) (ht : Qa1 c ≠ []) {l : List Int} (hl : ∀ n ∈ l, 1 ≤ n ∧ n ≤ 90) (w : Span) :
  Qc3 l w (Qa1 c) = (Qa1 c).length ↔ w.low ≤ Qav l (trL c) ∧ Qav l (trF c) ≤ w.high := by
 unfold Qc3
 rw [Zu]
 simp only [Qak, Zg, decide_eq_true_eq]
 constructor
 ·intro h
  exact ⟨(h _ (Qu6 ht)).1, (h _ (Qu5 ht)).2⟩
 ·intro h k hk
  have h1 := Qjm hk
  have h2 := Qcx hc hk
  have h3 := Qnj hc ht
  have h4 := Qdi (k := k) (k' := trL c) h2.1 h1.2 hl
  have h5 := Qdi (k := trF c) (k' := k) h3.1 h1.1 hl
  omega
def Qf3 (c : Cane) (ks : List Int) (w : Span) : Nat → List Int → Bool
 | 0, f => decide (Qc3 f w ks = ks.length)
 | n + 1, f => (ints 1 (Qbz c f.length)).any fun b => Qf3 c ks w n (f ++ [b])
theorem Qnr {c : Cane} (hc : OkC c) (ht : Qa1 c ≠ []) (w : Span) : ∀ (n : Nat) (f : List Int), Poss c f → (Qf3 c (Qa1 c) w n f = true ↔ ∃ m, m.length = n ∧ Sure c w (f ++ m)) := by
 intro n
 induction n with
 | zero =>
  intro f hf
  rw [Qf3, decide_eq_true_eq, Qjt hc ht hf.in_]
  constructor
  ·intro h; exact ⟨[], rfl, by rw [Qh]; exact ⟨hf, h⟩⟩
  ·rintro ⟨m, hm, hs⟩
   rw [Z8 hm, Qh] at hs
   exact hs.2
 | succ n ih =>
  intro f hf
  rw [Qf3, Zh]
  constructor
  ·rintro ⟨b, hb, h⟩
   rw [Qdx] at hb
   obtain ⟨m, hm, hs⟩ := (ih (f ++ [b]) (Qgq.2 ⟨hf, hb⟩)).1 h
   exact ⟨b :: m, by simp [hm], by simpa using hs⟩
  ·rintro ⟨m, hm, hs⟩
   cases m with
   | nil => simp at hm
   | cons b m =>
    have hp : Poss c (f ++ [b]) := by
     intro i hi
     have := hs.1 i (by simp at hi ⊢; omega)
     rw [show f ++ b :: m = (f ++ [b]) ++ m by simp, Qg4 hi] at this
     exact this
    refine ⟨b, Qdx.2 (Qgq.1 hp).2, (ih _ hp).2 ⟨m, by simpa using hm, by simpa using hs⟩⟩
theorem Qrn (c : Cane) : Poss c [] := fun i hi => absurd hi (Nat.not_lt_zero _)
theorem Qr6 {c : Cane} (hc : OkC c) (ht : Qa1 c ≠ []) (w : Span) : fewN c w = (Z0 7).find? fun n => Qf3 c (Qa1 c) w n [] := by
 have key : ∀ n, Qf3 c (Qa1 c) w n [] = true ↔ ∃ m, m.length = n ∧ Sure c w m := fun n => by simpa using Qnr hc ht w n [] (Qrn c)
 cases hf : (Z0 7).find? fun n => Qf3 c (Qa1 c) w n [] with
 | none =>
  rw [Qi6]
  intro l hl
  refine Nat.lt_of_not_le fun h6 => ?_
  rw [Xc] at hf
  exact hf l.length (by simp; omega) ((key _).2 ⟨l, rfl, hl⟩)
 | some n =>
  rw [Z7] at hf
  obtain ⟨h1, i, hi, he, hlt⟩ := hf
  simp only [List.length_range] at hi
  simp only [Xm] at he hlt
  subst he
  obtain ⟨m, hm, hs⟩ := (key _).1 h1
  refine Qge.2 ⟨by omega, ⟨m, hs, hm⟩, fun l hl => Xf fun h6 => ?_⟩
  have := hlt l.length h6
  rw [(key _).2 ⟨l, rfl, hl⟩] at this
  cases this
def exC : Cane := ⟨⟨180, 220⟩, [⟨50, ⟨10, 10⟩⟩], 0, 40, 10⟩
def exS : Box := ⟨2, [⟨10, 5⟩, ⟨20, 3⟩, ⟨5, 4⟩]⟩
theorem Qvm : OkC exC := (Qpx _).1 (by decide +kernel)
theorem Qns : Qa1 exC = (Z0 20).map fun (n : Nat) => (200 + n : Int) := by decide +kernel
theorem Qt6 : fewR exC ⟨31, 31⟩ = (2, 0) := by
 unfold fewR
 rw [if_pos (by decide +kernel), Qr6 Qvm (by rw [Qns]; decide)]
 have e : ((Z0 7).find? fun n => Qf3 exC (Qa1 exC) ⟨31, 31⟩ n []) = some 2 := by decide +kernel
 rw [e]; rfl
theorem Qmr : (Qbv exC ⟨31, 31⟩).1 = 2 ∧ (Qbv exC ⟨31, 31⟩).2.2 = 0 := by decide +kernel
theorem Qsc : stL exC ⟨0, 0⟩ [] = (Z0 20).map (fun (n : Nat) => (200 + n : Int)) ∧ stE exC ⟨0, 0⟩ [] = 0 := by decide +kernel
theorem Qoz : Qbu exC [39] = (⟨31, 32⟩, 0) := by decide +kernel
theorem Qp0 : Qet exS = (27, 0) := by decide +kernel
end Go.C06
set_option linter.unusedSimpArgs false
set_option linter.unusedVariables false
namespace Go.C06
open Go.Fam Go.Proofs
variable {Γ : Gam}
theorem W57 : Qad Try.prog 57 [] (.ag (Qa8 exC)) := by
 refine Qae Qo4 hmix Try.func57 cb57 cc57 cs57 cn57 ?_
 simp only [rc57, rs57, Qaa, Qab, Qac, Qa7, Qcf, putB, Qaf, Qa6, Qa2, Fam.step, Qag, Qbi, Qat, putB, nv, sv, evO, opv, qv, ldV, Qan, putAt, Qaz, Qb5, V.cells, Qas, Qb2, Qa9, Qa5, Qa3, Qar, Qa0, Qa4, ↓reduceIte, Nat.reduceEqDiff, Nat.reduceAdd, Nat.reduceMul, Nat.reduceLeDiff, Qc, Qe, Qs, Qu, Qb, Qf, Qg, Qo, Q8, Qd, Qx, Qt, Q0, Qy, Qh, Qm, Q1, Qr, Q4, endQ, rvs, rv1, resV, vw_i, Qb3, Qax, zipA, Qj, Qp, Qn, true_and, and_self, reduceCtorEq, not_false_eq_true, ne_eq, Qa8]
 rfl
theorem W58 : Qad Try.prog 58 [] (.ag (eBox exS)) := by
 refine Qae Qo4 hmix Try.func58 cb58 cc58 cs58 cn58 ?_
 simp only [rc58, rs58, Qaa, Qab, Qac, Qa7, putB, Qaf, Qa6, Qa2, Fam.step, Qag, Qbi, Qat, putB, nv, sv, evO, opv, qv, ldV, Qan, putAt, Qaz, Qb5, V.cells, Qas, Qb2, Qa9, Qa5, Qa3, Qar, Qa0, Qa4, ↓reduceIte, Nat.reduceEqDiff, Nat.reduceAdd, Nat.reduceMul, Nat.reduceLeDiff, Qc, Qe, Qs, Qu, Qb, Qf, Qg, Qo, Q8, Qd, Qx, Qt, Q0, Qy, Qh, Qm, Q1, Qr, Q4, endQ, rvs, rv1, resV, vw_i, Qb3, Qax, zipA, Qj, Qp, Qn, true_and, and_self, reduceCtorEq, not_false_eq_true, ne_eq, eBox]
 rfl
def cst (v : V) : List V → Prop × V | [] => (True, v) | _ => (False, .u)
theorem Qop {f : Nat} {v : V} (h : Qad Try.prog f [] v) (vs : List V) (h2 : (cst v vs).1) : Qad Try.prog f vs (cst v vs).2 := by
 unfold cst at h2 ⊢
 split at h2
 ·exact h
 ·exact h2.elim
noncomputable def H30 : Gam := ((((H29.ext 57 (cst (.ag (Qa8 exC)))).ext 58 (cst (.ag (eBox exS)))).ext 34 (fnG eCI dCI (fun a => OkC a.1) (fun a => isTB a.1 a.2) .b)).ext 21 (fnG eLI dLI (fun a => Qd8 a.1 ∧ tame 1000 a.2) (fun a => Qav a.1 a.2) .i)).ext 17 (fnG eCL dCL (fun a => OkC a.1) (fun a => areB a.1 a.2) .b)
theorem Qtn : GOk Try.prog H30 := by
 have k1 := Qo4.ext (f := 57) (r := cst (.ag (Qa8 exC))) (fun a w => Try.call57 a w) (Qop W57)
 have k2 := k1.ext (f := 58) (r := cst (.ag (eBox exS))) (fun a w => Try.call58 a w) (Qop W58)
 have k3 := k2.ext (f := 34) (fun a w => Try.call34 a w) (Qb6 (e := eCI) (d := dCI) (ok := fun a => OkC a.1) (g := fun a => isTB a.1 a.2) (eb := .b) fun a h => W34 a.1 a.2 h)
 have k4 := k3.ext (f := 21) (fun a w => Try.call21 a w) (Qb6 (e := eLI) (d := dLI) (ok := fun a => Qd8 a.1 ∧ tame 1000 a.2) (g := fun a => Qav a.1 a.2) (eb := .i) fun a h => W21 a.1 a.2 h)
 exact k4.ext (f := 17) (fun a w => Try.call17 a w) (Qb6 (e := eCL) (d := dCL) (ok := fun a => OkC a.1) (g := fun a => areB a.1 a.2) (eb := .b) fun a h => W17 a.1 a.2 h)
theorem h57 : H30 57 [] = (True, .ag (Qa8 exC)) := rfl
theorem h58 : H30 58 [] = (True, .ag (eBox exS)) := rfl
theorem h34 (c : Cane) (k : Int) : H30 34 [.ag (Qa8 c), .i k] = (OkC c, .b (isTB c k)) :=
 (show H30 34 _ = fnG eCI dCI (fun a => OkC a.1) (fun a => isTB a.1 a.2) .b (eCI (c, k)) from rfl).trans (Qba _ (Qt1 _))
theorem h21 (l : List Int) (k : Int) : H30 21 [.sl 1 (l.map eI), .i k] = (Qd8 l ∧ tame 1000 k, .i (Qav l k)) :=
 (show H30 21 _ = fnG eLI dLI (fun a => Qd8 a.1 ∧ tame 1000 a.2) (fun a => Qav a.1 a.2) .i (eLI (l, k)) from rfl).trans (Qba _ (Qvg _))
theorem h17 (c : Cane) (l : List Int) : H30 17 [.ag (Qa8 c), .sl 1 (l.map eI)] = (OkC c, .b (areB c l)) :=
 (show H30 17 _ = fnG eCL dCL (fun a => OkC a.1) (fun a => areB a.1 a.2) .b (eCL (c, l)) from rfl).trans (Qba _ (Qvd _))
theorem Qus (c : Cane)  : H30 19 [.ag (Qa8 c)] = (True, .tp [.sl 1 ((stL c ⟨0, 0⟩ []).map eI), .i (stE c ⟨0, 0⟩ [])]) := h19 c
theorem Qut (c : Cane) (l : List Int)  : H30 20 [.ag (Qa8 c), .sl 1 (l.map eI)] = (True, .tp [.ag (Qap (Qbu c l).1), .i (Qbu c l).2]) := h20 c l
theorem Quu (c : Cane) (w : Span)  : H30 25 [.ag (Qa8 c), .ag (Qap w)] = (True, .tp [.i (fewR c w).1, .i (fewR c w).2]) := h25 c w
theorem Quv (c : Cane) (w : Span)  : H30 26 [.ag (Qa8 c), .ag (Qap w)] = (True, .tp [.i (Qbv c w).1, .i (Qbv c w).2.2]) := h26 c w
theorem Quw (s : Box)  : H30 51 [.ag (eBox s)] = (True, .tp [.i (Qet s).1, .i (Qet s).2]) := h51 s
theorem eq23 : Qau Try.prog 23 2 := Qau.of (fs := _) (show Try.prog.underlying 23 = some (.struct (Try.prog.fieldsOf 23)) by kernel_rfl) (by kernel_rfl) (by kernel_rfl)
set_option maxRecDepth 100000 in
set_option maxHeartbeats 4000000 in
theorem W18 : Qad Try.prog 18 [] (.b true) := by
 refine Qae Qtn hmix Try.func18 cb18 cc18 cs18 cn18 ?_
 obtain ⟨c, hc⟩ : ∃ c, c = exC := ⟨_, rfl⟩
 obtain ⟨s, hs⟩ : ∃ s, s = exS := ⟨_, rfl⟩
 obtain ⟨L, hL⟩ : ∃ L : List Int, L = (Z0 20).map fun (n : Nat) => (200 + n : Int) := ⟨_, rfl⟩
 have g1 := Qus c
 have g2 := Qut c [39]
 have g3 := Quu c ⟨31, 31⟩
 have g4 := Quv c ⟨31, 31⟩
 have g5 := Quw s
 have g6 := h57
 have g7 := h58
 rw [hc, Qsc.1, Qsc.2, ← hL, ← hc] at g1
 rw [hc, Qoz, ← hc] at g2
 rw [hc, Qt6, ← hc] at g3
 rw [hc, Qmr.1, Qmr.2, ← hc] at g4
 rw [hs, Qp0, ← hs] at g5
 rw [← hc] at g6
 rw [← hs] at g7
 have l1 : (L.length : Int) = 20 := by rw [hL]; rfl
 have l2 : L[0]? = some 200 := by rw [hL]; rfl
 clear hL hc hs
 unfold Qa8 at g1 g2 g3 g4 g6
 unfold eBox at g5 g7
 simp only [Qc, Qe, Qap, eI] at g1 g2 g3 g4 g5 g6 g7
 simp only [rc18, rs18, g1, g2, g3, g4, g5, g6, g7, l1, l2, Qaa, Qab, Qac, Qa7, Qcf, putB, Qaf, Qa6, Qa2, Fam.step, Qag, Qbi, Qbd, Qat, Qb7, ug, putB, nv, sv, evO, opv, qv, Qam, binV, ldV, iadV, lenV, Qay, Qan, putAt, Qaz, Qb5, V.cells, Qas, Qb2, Qck, Qa9, Qa5, flat, Qcc, Qa3, Qar, Qa0, Qa4, ↓reduceIte, Nat.reduceEqDiff, Nat.reduceAdd, Nat.reduceMul, Nat.reduceLT, Nat.reduceLeDiff, Int.toNat_zero, Int.reduceLT, Int.reduceLE, Qc, Qe, Qs, Qu, Qb, Qf, Qg, Qo, Q8, Qd, Qx, Qt, Ql, Q0, Qy, Qh, Qm, Qq, Qw, Q1, Q5, Qr, Q4, endQ, rvs, rv1, resV, vw_i, vw_b, Qb3, Qax, zipA, beq_self_eq_true, Qj, V.b.injEq, Qp, Qv, Zl, Qn, Qa, Q2, decide_true, true_and, and_true, and_self, forall_const, implies_true, reduceCtorEq, not_false_eq_true, ne_eq, Zo, beq_true, Qe2, Xa, imp_self, Qi, Qk, Zn, eI]
 exact ⟨eq23, rfl⟩
theorem W71 (c : Cane) (h : OkC c) : Qad Try.prog 71 [.ag (Qa8 c)] (.sl 1 ((Qa1 c).map eI)) := by
 refine Qae Qtn hmix Try.func71 cb71 cc71 cs71 cn71 ?_
 have k1 := h.low
 have k2 := h.le
 have k3 := h.high
 have k4 := h.spread
 simp only [rc71, rs71, Qaa, Qab, Qai, Qa7, Qqg, Qaf, Qa6, Qa2, Fam.step, Qag, evO, opv, qv, ldV, V.cells, Qas, Qa9, Qa5, Qa3, Qa0, Qa4, ↓reduceIte, Nat.reduceEqDiff, Nat.reduceAdd, Nat.reduceLeDiff, Qc, Qe, Qb, Qf, Qo, Ql, Qy, vw_i, Qb3, Qax, zipA, Qj, Qn, Qa, true_and, and_self, Qa8]
 obtain ⟨T, hT⟩ : ∃ T : Nat → List Int, T = fun i => ((ints c.spring.low c.spring.high).take i).filter (Qdt c) := ⟨_, rfl⟩
 have hlen : ∀ i, (T i).length ≤ 41 := fun i => by
  rw [hT]
  refine Nat.le_trans (List.length_filter_le _ _) ?_
  rw [List.length_take, Qfn]; omega
 refine Qcp (c.spring.high + 1 - c.spring.low).toNat (fun i => ⟨lkp [(1, .pa (Qa8 c)), (3, .rf 0 (T i).length 0 (T i).length 1), (4, .i (c.spring.low + i))], [.cells (T i).length ((T i).map V.i)]⟩) ?_ ?_ ?_
 ·have h0 : T 0 = [] := by rw [hT]; rfl
  simp only [Zi, Int.add_zero, h0, kp, Qa0, Qa4, ↓reduceIte, Nat.reduceEqDiff, Qc, Qe, Qf, Qa8]
 ·intro i hi
  have hx := Qgk hi
  have hlt : c.spring.low + (i : Int) ≤ c.spring.high := by omega
  have h3 : inI (c.spring.low + (i : Int) + 1) := by unfold inI; omega
  have g1 := h34 c (c.spring.low + i)
  unfold Qa8 at g1
  have hw : isTB c (c.spring.low + i) = Qdt c (c.spring.low + i) := by
   have : Qak (c.spring.low + i) c.spring.low c.spring.high = true := by simp only [Qak, Zg, decide_eq_true_eq]; omega
   simp [isTB, this]
  have hs : T (i + 1) = if Qdt c (c.spring.low + i) = true then T i ++ [c.spring.low + i] else T i := by
   rw [hT]
   simp only [Qbt hx, List.filter_append, List.filter_cons, List.filter_nil]
   split <;> simp
  have hl1 := hlen i
  have hl2 : ((T i).map V.i).length = (T i).length := by simp
  have hfl : Qc1 ((T i).length + 1) := by unfold Qc1; omega
  have happ : (T i).map V.i ++ [V.i (c.spring.low + i)] = (T i ++ [c.spring.low + (i : Int)]).map V.i := by simp
  simp only [hlt, g1, h, hw, Qal, Qaa, Qab, Qah, Qc8, Qai, Qa7, Qcf, putB, Qaf, Qaq, Qa6, Qa2, Fam.step, Qag, Qbi, Qat, putB, nv, sv, Qc9, evO, opv, qv, binV, ldV, Qay, Qan, putAt, Qaz, Qb5, V.cells, Qas, Qb2, Qa9, Qa5, flat, kp, Qa3, Qa0, Qa4, ↓reduceIte, Nat.reduceEqDiff, Nat.reduceAdd, Nat.reduceMul, Nat.reduceLT, Nat.reduceLeDiff, Qc, Qe, Qs, Qu, Qb, Qf, Qg, Qo, Qd, Qx, Qt, Ql, Q0, Qy, Qh, Qm, Q1, Qr, Q4, vw_i, Qb3, Qax, Qj, Qp, Qn, Qa, decide_true, true_and, and_self, implies_true, reduceCtorEq, not_false_eq_true, ne_eq, Qi, Xg, Qa8]
  refine ⟨fun e => ?_, fun e => ?_⟩
  ·rw [if_pos e] at hs
   simp only [hs, hfl, happ, h3, Nat.mul_one, Zs, Zt, Zb, Za, Q9, Qb, Qf, Qj, Qb, Qf, Qh, Qj, true_and, and_self]
   rw [Int.add_assoc]
  ·rw [if_neg (by simp [e])] at hs
   simp only [hs, h3, Zs, Zt, true_and]
   rw [Int.add_assoc]
 ·have hgt : ¬ (c.spring.low + ((c.spring.high + 1 - c.spring.low).toNat : Int) ≤ c.spring.high) := by omega
  have hE : T (c.spring.high + 1 - c.spring.low).toNat = Qa1 c := by
   rw [hT]
   simp only
   rw [List.take_of_length_le (by rw [Qfn]; omega)]; rfl
  simp only [hgt, hE, Nat.mul_one, Zf, Qon, vw_I, Qaa, Qab, Qah, Qbb, Qac, Qa7, Qaf, Qaq, Qa6, Qa2, Fam.step, Qag, evO, opv, qv, binV, ldV, Qa3, Qa0, Qa4, ↓reduceIte, Nat.reduceEqDiff, Nat.reduceAdd, Nat.reduceLeDiff, Qc, Qe, Qb, Qf, Qg, Qo, Ql, Qm, endQ, rvs, rv1, resV, Qdd, Qj, Qa, decide_false, and_self, Qi, Qa8]
noncomputable def H31 : Gam := (H30.ext 18 (cst (.b true))).ext 71 (fnG eC1 dC1 OkC Qa1 fun l => .sl 1 (l.map eI))
theorem Qto : GOk Try.prog H31 := (Qtn.ext (f := 18) (r := cst (.b true)) (fun a w => Try.call18 a w) (Qop W18)).ext (f := 71) (fun a w => Try.call71 a w) (Qb6 (e := eC1) (d := dC1) (ok := OkC) (g := Qa1) (eb := fun l => .sl 1 (l.map eI)) fun c h => W71 c h)
theorem h18 : H31 18 [] = (True, .b true) := rfl
theorem h71 (c : Cane) : H31 71 [.ag (Qa8 c)] = (OkC c, .sl 1 ((Qa1 c).map eI)) := (show H31 71 _ = fnG eC1 dC1 OkC Qa1 (fun l => .sl 1 (l.map eI)) (eC1 c) from rfl).trans (Qba _ (Qi3 _))
theorem Quz (n lo hi : Int)  : H31 56 [.i n, .i lo, .i hi] = (True, .b (Qak n lo hi)) := h56 n lo hi
theorem Quy (c : Cane) (b i : Int)  : H31 37 [.ag (Qa8 c), .i b, .i i] = (Qdq c i, .b (Qha c b i)) := h37 c b i
theorem Qux (c : Cane)  : H31 16 [.ag (Qa8 c)] = (True, .i (Qbx c)) := h16 c
theorem Qv0 (w : Span)  : H31 89 [.ag (Qap w)] = (True, .b (Qb1 w 540)) := h89 w
theorem W42 (c : Cane) (h : OkC c) : Qad Try.prog 42 [.ag (Qa8 c)] (.sl 1 ((Qa1 c).map eI)) := by
 refine Qae Qto hmix Try.func42 cb42 cc42 cs42 cn42 ?_
 have g1 := h71 c
 unfold Qa8 at g1
 simp only [rc42, rs42, g1, h, Qaa, Qab, Qac, Qa7, Qaf, Qa6, Qa2, Fam.step, Qag, evO, opv, qv, ldV, Qay, V.cells, Qas, Qa9, Qa5, flat, Qa3, Qa0, Qa4, ↓reduceIte, Nat.reduceEqDiff, Nat.reduceAdd, Nat.reduceLT, Nat.reduceLeDiff, Qc, Qe, Qb, Qf, Qd, Qt, Qh, endQ, rvs, rv1, resV, vw_i, Qb3, Qax, zipA, Qj, Qn, Qa, and_self, imp_self, Qa8]
theorem Qlo {c : Cane} (h : OkC c) (b : Int) (i : Nat) : Qha c b i = true ↔ 1 ≤ b ∧ b ≤ Qbz c i := by
 have h1 := h.limit
 have h2 := h.tire
 have h3 : 0 ≤ c.tire * (i : Int) := Int.mul_nonneg h2.1 (by omega)
 simp only [Qha, Qbz, Zg, decide_eq_true_eq]
 omega
theorem Qfj {c : Cane} (h : OkC c) (l : List Int) : areB c l = true ↔ l.length ≤ 6 ∧ Poss c l := by
 unfold areB Poss
 simp only [Zg, decide_eq_true_eq, Z1, List.mem_range, Qlo h]
theorem W62 (c : Cane) (l : List Int) (w : Span) : Qad Try.prog 62 [.ag (Qa8 c), .sl 1 (l.map eI), .ag (Qap w)] (.tp [.sl 1 ((stL c w l).map eI), .i (stE c w l)]) := by
 refine Qae Qto hmix Try.func62 cb62 cc62 cs62 cn62 ?_
 have g1 := Qux c
 have g2 := Qv0 w
 have g4 := h71 c
 unfold Qa8 at g1 g4
 unfold Qap at g2
 simp only [rc62, rs62, g1, Qal, Qaa, Qab, Qah, Qc8, Qai, Qac, Qa7, Qaf, Qa6, Qa2, Fam.step, Qag, Qbd, Qb7, ug, evO, opv, qv, binV, ldV, lenV, Qay, V.cells, Qas, Qa9, Qa5, flat, Qa3, Qa0, Qa4, ↓reduceIte, Nat.reduceEqDiff, Nat.reduceAdd, Nat.reduceLT, Nat.reduceLeDiff, Qc, Qe, Qs, Qu, Qb, Qf, Qd, Qt, Qh, Zj, endQ, rvs, rv1, resV, vw_i, vw_z, Qb3, Qax, Qd9, zipA, Qj, Qp, Qv, Qn, Qa, decide_eq_true_eq, decide_eq_false_iff_not, true_and, and_true, and_self, false_implies, implies_true, reduceCtorEq, beq_false, Q6, imp_self, Qi, Xg, Classical.not_not, Qap, Qa8]
 refine ⟨fun h => ?_, fun h => ?_⟩
 ·have e : stE c w l = Qbx c := by unfold stE; rw [if_pos h]
  have e2 : stL c w l = [] := by unfold stL; rw [e, if_neg h]
  simp only [e, e2, Qe]
 ·have hC := Qeg.1 h
  simp only [g2, Qam, decide_eq_true_eq, true_and, and_true, Qdv, imp_self]
  refine ⟨fun hb => ?_, fun hb => ?_⟩
  ·have e : stE c w l = 1 := by
    unfold stE
    rw [if_neg (by simp [h]), if_pos]
    by_cases h1 : Qb1 w 540 = true
    ·left
     simp [h1] at hb
     omega
    ·right; left; simpa using h1
   have e2 : stL c w l = [] := by unfold stL; rw [e]; rfl
   simp only [e, e2, Qe]
  ·have hl6 : l.length ≤ 6 ∧ Qb1 w 540 = true := by
    simp only [Xk, decide_eq_false_iff_not, Zd] at hb
    exact ⟨by omega, hb.2⟩
   refine Qcu l.length (fun i => ⟨lkp [(1, .sl 1 (l.map eI)), (3, .pa (Qa8 c)), (9, .i i)], []⟩) (fun i => ∀ (j : Nat) n, j < i → l[j]? = some n → Qak n 1 90 = true) ?_ ?_ ?_ ?_
   ·simp only [Zi, kp, Qa0, Qa4, ↓reduceIte, Nat.reduceEqDiff, Qc, Qe, Qa8]
   ·intro j n hj; omega
   ·intro i hi hcr
    obtain ⟨n, hn⟩ : ∃ n, l[i]? = some n := ⟨_, Qz hi⟩
    have hlt : (i : Int) < l.length := by omega
    have h4 : inI ((i : Int) + 1) := by unfold inI; omega
    simp only [hn, hlt, Quz, h4, Zs, Zt, Qal, Qaa, Qab, Qah, Qc8, Qai, Qac, Qa7, Qaf, Qaq, Qa6, Qa2, Fam.step, Qag, evO, opv, qv, binV, ldV, iadV, lenV, Qay, Qa9, Qa5, flat, kp, Qa3, Qa0, Qa4, ↓reduceIte, Nat.reduceEqDiff, Nat.reduceLT, Nat.reduceLeDiff, Qc, Qe, Qb, Qf, Ql, Qh, Zj, Qw, endQ, rvs, rv1, resV, vw_i, vw_z, Qd9, Zv, Qj, Qn, Qa, decide_true, true_and, and_true, and_self, implies_true, Zo, Q6, Qi, Zq, Qk, Zn, Xp, Qa8, eI]
    refine ⟨fun hw => ?_, fun hw => ?_⟩
    ·have e : stE c w l = 1 := by
      unfold stE
      rw [if_neg (by simp [h]), if_pos]
      right; right
      rw [Zh]
      exact ⟨n, Zp hn, by simpa using hw⟩
     have e2 : stL c w l = [] := by unfold stL; rw [e]; rfl
     simp only [e, e2, Qe]
    ·intro j m hj hm
     by_cases hji : j < i
     ·exact hcr j m hji hm
     ·have : j = i := by omega
      subst this
      rw [hn] at hm; cases hm
      simpa using hw
   ·intro hcr
    have h77 : ¬ ((l.length : Int) < l.length) := by omega
    have hns : ¬ (6 < l.length ∨ Qb1 w 540 = false ∨ (l.any fun n => !Qak n 1 90) = true) := by
     rintro (h1 | h1 | h1)
     ·omega
     ·rw [hl6.2] at h1; cases h1
     ·rw [Zh] at h1
      obtain ⟨n, hn, hn2⟩ := h1
      obtain ⟨j, hj⟩ := Xl hn
      rw [hcr j n (Qao hj) hj] at hn2
      cases hn2
    simp only [h77, Qaa, Qab, Qah, Qai, Qbb, Qa7, Qaf, Qaq, Qa6, Qa2, Fam.step, Qag, evO, opv, qv, binV, lenV, Qa3, Qa0, Qa4, ↓reduceIte, Nat.reduceEqDiff, Qc, Qe, Qa, decide_false, true_and, Qi, Qa8]
    refine Qcu l.length (fun i => ⟨lkp [(1, .sl 1 (l.map eI)), (3, .pa (Qa8 c)), (10, .i i)], []⟩) (fun i => ∀ j : Nat, j < i → ¬ Qbz c j < l.getD j 0) ?_ ?_ ?_ ?_
    ·simp only [Zi, kp, Qa0, Qa4, ↓reduceIte, Nat.reduceEqDiff, Qc, Qe, Qa8]
    ·intro j hj; omega
    ·intro i hi hc2
     obtain ⟨n, hn⟩ : ∃ n, l[i]? = some n := ⟨_, Qz hi⟩
     have hd : l.getD i 0 = n := by rw [Qk, hn]; rfl
     have hlt : (i : Int) < l.length := by omega
     have h4 : inI ((i : Int) + 1) := by unfold inI; omega
     have g5 := Quy c n i
     unfold Qa8 at g5
     have hm := hC.most (i := i) (by unfold tame; omega)
     have hw := hcr i n hi hn
     have hp := Qlo hC n i
     simp only [Qak, Zg, decide_eq_true_eq] at hw
     simp only [hn, hlt, g5, hm, h4, Zs, Zt, Qal, Qaa, Qbo, Qab, Qah, Qc8, Qai, Qac, Qa7, Qb9, Qaf, Qaq, Qa6, Qa2, Fam.step, Qag, runX, eff, Qb8, fpR, fpQ, fpV, Qc5, hits, evO, opv, qv, binV, ldV, iadV, lenV, Qay, Qa9, Qa5, flat, kp, Qa3, Qa0, Qa4, ↓reduceIte, Nat.reduceEqDiff, Nat.reduceAdd, Nat.reduceLT, Nat.reduceLeDiff, Qc, Qe, Qu, Qb, Qf, Qd, Qt, Ql, Q0, Qy, Qh, Zj, Qw, Zw, Qr, Zz, endQ, rvs, rv1, resV, vw_i, vw_z, Qb3, Qax, Qd9, Zv, Qj, Qp, Qv, Q7, Qn, Q3, Zc, Qa, decide_true, true_and, and_true, and_self, implies_true, Zo, Z5, Zy, Q6, Qi, Zq, Qk, Zn, Xp, Qa8, eI]
     refine ⟨fun hq => ?_, fun hq => ?_⟩
     ·have e0 : Qf1 c l = true := by
       unfold Qf1
       rw [Zh]
       refine ⟨i, by simpa using hi, ?_⟩
       rw [hd, decide_eq_true_eq]
       have : ¬ Qha c n i = true := by simpa using hq
       rw [hp] at this
       omega
      have e : stE c w l = 61 := by unfold stE; rw [if_neg (by simp [h]), if_neg hns, if_pos e0]
      have e2 : stL c w l = [] := by unfold stL; rw [e]; rfl
      simp only [e, e2, Qe]
     ·intro j hj
      by_cases hji : j < i
      ·rw [← Qk]; exact hc2 j hji
      ·have : j = i := by omega
       subst this
       rw [← Qk, hd]
       have := hp.1 (by simpa using hq)
       omega
    ·intro hc2
     have e0 : ¬ Qf1 c l = true := by
      unfold Qf1
      rw [Zh]
      rintro ⟨i, hi, hi2⟩
      exact hc2 i (by simpa using hi) (by simpa using hi2)
     simp only [h77, g4, hC, Qal, Qaa, Qab, Qah, Qc8, Qbb, Qac, Qa7, Qaf, Qaq, Qa6, Qa2, Fam.step, Qag, evO, opv, qv, binV, ldV, lenV, Qay, Qa9, Qa5, flat, Qa3, Qa0, Qa4, ↓reduceIte, Nat.reduceEqDiff, Nat.reduceAdd, Nat.reduceLT, Nat.reduceLeDiff, Qc, Qe, Qb, Qf, Qd, Qt, Qh, Zj, endQ, rvs, rv1, resV, vw_i, vw_z, Qb3, Qax, Qd9, Qj, Qn, Qa, decide_false, decide_eq_true_eq, true_and, and_self, imp_self, Qi, Qa8]
     refine ⟨fun ht => ?_, fun ht => ?_⟩
     ·have ht : Qa1 c = [] := Z8 (by omega)
      have e : stE c w l = 3 := by unfold stE; rw [if_neg (by simp [h]), if_neg hns, if_neg e0, if_pos ht]
      have e2 : stL c w l = [] := by unfold stL; rw [e]; rfl
      simp only [e, e2, Qe]
     ·have ht : ¬ Qa1 c = [] := fun e => by rw [e] at ht; simp at ht
      have e : stE c w l = 0 := by unfold stE; rw [if_neg (by simp [h]), if_neg hns, if_neg e0, if_neg ht]
      have e2 : stL c w l = Qa1 c := by unfold stL; rw [if_pos e]
      simp only [e, e2]
end Go.C06
set_option linter.unusedSimpArgs false
set_option linter.unusedVariables false
namespace Go.C06
open Go.Fam Go.Proofs
variable {Γ : Gam}
noncomputable def H32 : Gam := (H31.ext 42 (fnG eC1 dC1 OkC Qa1 fun l => .sl 1 (l.map eI))).ext 62 (fnG eCLS dCLS (fun _ => True) (fun a => (stL a.1 a.2.2 a.2.1, stE a.1 a.2.2 a.2.1)) fun r => .tp [.sl 1 (r.1.map eI), .i r.2])
theorem Qtp : GOk Try.prog H32 := (Qto.ext (f := 42) (fun a w => Try.call42 a w) (Qb6 (e := eC1) (d := dC1) (ok := OkC) (g := Qa1) (eb := fun l => .sl 1 (l.map eI)) fun c h => W42 c h)).ext (f := 62) (fun a w => Try.call62 a w)
 (Qb6 (e := eCLS) (d := dCLS) (ok := fun _ => True) (g := fun a => (stL a.1 a.2.2 a.2.1, stE a.1 a.2.2 a.2.1)) (eb := fun r => .tp [.sl 1 (r.1.map eI), .i r.2]) fun a _ => W62 a.1 a.2.1 a.2.2)
theorem h42 (c : Cane) : H32 42 [.ag (Qa8 c)] = (OkC c, .sl 1 ((Qa1 c).map eI)) := (show H32 42 _ = fnG eC1 dC1 OkC Qa1 (fun l => .sl 1 (l.map eI)) (eC1 c) from rfl).trans (Qba _ (Qi3 _))
theorem h62 (c : Cane) (l : List Int) (w : Span) : H32 62 [.ag (Qa8 c), .sl 1 (l.map eI), .ag (Qap w)] = (True, .tp [.sl 1 ((stL c w l).map eI), .i (stE c w l)]) :=
 (show H32 62 _ = fnG eCLS dCLS (fun _ => True) (fun a => (stL a.1 a.2.2 a.2.1, stE a.1 a.2.2 a.2.1)) (fun r => .tp [.sl 1 (r.1.map eI), .i r.2]) (eCLS (c, l, w)) from rfl).trans (Qba _ (Qsa _))
theorem Qv2 (n lo hi : Int)  : H32 56 [.i n, .i lo, .i hi] = (True, .b (Qak n lo hi)) := h56 n lo hi
theorem Qv1 (l : List Int) (k : Int)  : H32 21 [.sl 1 (l.map eI), .i k] = (Qd8 l ∧ tame 1000 k, .i (Qav l k)) := h21 l k
theorem W27 (c : Cane) : Qad Try.prog 27 [.ag (Qa8 c)] (.tp [.sl 1 ((stL c ⟨0, 0⟩ []).map eI), .i (stE c ⟨0, 0⟩ [])]) := by
 refine Qae Qtp hmix Try.func27 cb27 cc27 cs27 cn27 ?_
 have g1 := h62 c [] ⟨0, 0⟩
 unfold Qa8 Qap at g1
 simp only [Qe] at g1
 simp only [rc27, rs27, g1, Qaa, Qab, Qac, Qa7, Qaf, Qa6, Qa2, Fam.step, Qag, evO, opv, qv, ldV, Qay, Qan, Qaz, V.cells, Qas, Qa9, Qa5, flat, Qcc, Qa3, Qa0, Qa4, ↓reduceIte, Nat.reduceEqDiff, Nat.reduceAdd, Nat.reduceLT, Nat.reduceLeDiff, Qc, Qe, Qb, Qf, Qd, Qt, Qh, Qm, Qq, Zj, Qw, endQ, rvs, rv1, resV, vw_i, vw_z, Qb3, Qax, Qd9, zipA, Qj, Qp, Qv, Qn, Qa, and_self, imp_self, Qa8]
theorem W70 (ks l : List Int) (w : Span) (h : Qd8 l ∧ ks.length ≤ 1000 ∧ ∀ k ∈ ks, tame 1000 k) : Qad Try.prog 70 [.sl 1 (ks.map eI), .sl 1 (l.map eI), .ag (Qap w)] (.i (Qc3 l w ks)) := by
 refine Qae Qtp hmix Try.func70 cb70 cc70 cs70 cn70 ?_
 simp only [rc70, rs70, Qaa, Qab, Qai, Qa7, Qaf, Qa6, Qa2, Fam.step, Qag, evO, opv, qv, V.cells, Qas, Qa9, Qa5, Qa3, Qa0, Qa4, ↓reduceIte, Nat.reduceEqDiff, Nat.reduceAdd, Qc, Qe, vw_i, Qax, zipA, Qj, Qn, true_and, and_self, reduceCtorEq, Qap]
 refine Qcp ks.length (fun i => ⟨lkp [(0, .sl 1 (ks.map eI)), (1, .sl 1 (l.map eI)), (5, .pa (Qap w)), (7, .i (Qc3 l w (ks.take i))), (8, .i i)], []⟩) ?_ ?_ ?_
 ·simp only [Zi, Qc3, List.countP_nil, kp, Qa0, Qa4, ↓reduceIte, Nat.reduceEqDiff, Qc, Qe, Qx, reduceCtorEq, Qap]
 ·intro i hi
  obtain ⟨k, hk⟩ : ∃ k, ks[i]? = some k := ⟨_, Qz hi⟩
  have hlt : (i : Int) < ks.length := by omega
  have t1 := h.2.2 k (Zp hk)
  have hks := h.2.1
  have hg : Qc3 l w (ks.take i) ≤ i := Nat.le_trans List.countP_le_length (by simp; omega)
  have h4 : inI ((i : Int) + 1) ∧ inI ((Qc3 l w (ks.take i) : Int) + 1) := by unfold inI; omega
  have hct : ∀ q : Bool, Qak (Qav l k) w.low w.high = q → (Qc3 l w (ks.take (i + 1)) : Int) = Qc3 l w (ks.take i) + (if q = true then 1 else 0) := by
   rintro q rfl
   unfold Qc3
   rw [Qbt hk, Xn, List.countP_singleton]
   split <;> simp
  simp only [hk, hlt, Qv1, h.1, t1, Qv2, Zs, Zt, Qal, Qaa, Qbo, Qab, Qah, Qc8, Qai, Qa7, Qb9, Qaf, Qaq, Qa6, Qa2, Fam.step, Qag, runX, eff, Qb8, fpR, fpQ, fpV, Qc5, hits, evO, opv, qv, binV, ldV, iadV, lenV, Qay, Qa9, Qa5, flat, kp, Qa3, Qa0, Qa4, ↓reduceIte, Nat.reduceEqDiff, Nat.reduceAdd, Nat.reduceLT, Nat.reduceLeDiff, Qc, Qe, Qu, Qb, Qf, Qg, Qo, Ql, Q0, Qy, Qh, Zj, Qw, Zw, Qr, Zz, vw_i, Qb3, Zv, Qj, Qp, Qv, Q7, Qn, Q3, Zc, Qa, decide_true, true_and, and_self, implies_true, reduceCtorEq, Zo, Z5, Zy, Qi, Zq, Qk, Zn, Xg, Qap, eI]
  refine ⟨fun e => ?_, fun e => ?_⟩
  ·simp only [h4, hct true e, ↓reduceIte, and_self]
  ·simp only [h4, hct false e, Int.add_zero, ↓reduceIte, Qa, and_self]
 ·simp only [List.take_length, Qaa, Qab, Qah, Qbb, Qac, Qa7, Qaf, Qaq, Qa6, Qa2, Fam.step, Qag, evO, opv, qv, binV, lenV, Qa3, Qa0, Qa4, ↓reduceIte, Nat.reduceEqDiff, Qc, Qe, endQ, rvs, rv1, resV, vw_i, Int.lt_irrefl, Qa, decide_false, and_self, reduceCtorEq, Qi, Qap]
def Qll (a : List Int × List Int × Span) : Prop := Qd8 a.2.1 ∧ a.1.length ≤ 1000 ∧ ∀ k ∈ a.1, tame 1000 k
def eLLS (a : List Int × List Int × Span) : List V := [.sl 1 (a.1.map eI), .sl 1 (a.2.1.map eI), .ag (Qap a.2.2)]
def dLLS : List V → List Int × List Int × Span | [.sl _ k, .sl _ l, .ag w] => (k.map dI, l.map dI, Qev w) | _ => ([], [], Qev [])
theorem Qvh (a : List Int × List Int × Span) : dLLS (eLLS a) = a := by obtain ⟨k, l, w⟩ := a; simp [dLLS, eLLS, Function.comp_def, Qix, Qf2]
noncomputable def H33 : Gam := H32.ext 70 (fnG eLLS dLLS Qll (fun a => (Qc3 a.2.1 a.2.2 a.1 : Int)) .i)
theorem Qhq : GOk Try.prog H33 := Qtp.ext (f := 70) (fun a w => Try.call70 a w) (Qb6 (e := eLLS) (d := dLLS) (ok := Qll) (g := fun a => (Qc3 a.2.1 a.2.2 a.1 : Int)) (eb := .i) fun a h => W70 a.1 a.2.1 a.2.2 h)
theorem h70 (ks l : List Int) (w : Span) : H33 70 [.sl 1 (ks.map eI), .sl 1 (l.map eI), .ag (Qap w)] = (Qll (ks, l, w), .i (Qc3 l w ks)) :=
 (show H33 70 _ = fnG eLLS dLLS Qll (fun a => (Qc3 a.2.1 a.2.2 a.1 : Int)) .i (eLLS (ks, l, w)) from rfl).trans (Qba _ (Qvh _))
theorem Qs6 (c : Cane) (l : List Int) (w : Span)  : H33 62 [.ag (Qa8 c), .sl 1 (l.map eI), .ag (Qap w)] = (True, .tp [.sl 1 ((stL c w l).map eI), .i (stE c w l)]) := h62 c l w
theorem Qs5 (l : List Int) (k : Int)  : H33 21 [.sl 1 (l.map eI), .i k] = (Qd8 l ∧ tame 1000 k, .i (Qav l k)) := h21 l k
theorem Qv4 (c : Cane)  : H33 16 [.ag (Qa8 c)] = (True, .i (Qbx c)) := h16 c
theorem Qv3 (c : Cane)  : H33 15 [.ag (Qa8 c)] = (True, .b (farB c)) := h15 c
theorem W40 (c : Cane) (l : List Int) (w : Span) : Qad Try.prog 40 [.ag (Qa8 c), .sl 1 (l.map eI), .ag (Qap w)] (.tp [.i (Qbp c l w).1, .i (Qbp c l w).2]) := by
 refine Qae Qhq hmix Try.func40 cb40 cc40 cs40 cn40 ?_
 have g1 := Qs6 c l w
 have g2 := h70 (stL c w l) l w
 unfold Qa8 Qap at g1
 unfold Qap at g2
 simp only [rc40, rs40, g1, g2, Qal, Qaa, Qab, Qah, Qc8, Qai, Qac, Qa7, Qaf, Qaq, Qa6, Qa2, Fam.step, Qag, evO, opv, qv, binV, ldV, lenV, Qay, V.cells, Qas, Qa9, Qa5, flat, Qcc, Qa3, Qa0, Qa4, ↓reduceIte, Nat.reduceEqDiff, Nat.reduceAdd, Nat.reduceLT, Nat.reduceLeDiff, Qc, Qe, Qb, Qf, Qd, Qt, Qh, Qm, Qq, Zj, Qw, endQ, rvs, rv1, resV, vw_i, Qb3, Qax, Qd9, zipA, Qj, Qp, Qv, Qn, Qa, decide_eq_true_eq, decide_eq_false_iff_not, true_and, and_true, and_self, implies_true, reduceCtorEq, Q6, imp_self, Qi, Classical.not_not, Qap, Qa8]
 refine ⟨fun h => ?_, fun h => ?_⟩
 ·simp only [Qbp, if_neg h]
 ·obtain ⟨h1, h2, h3, h4, h5, h6, h7⟩ := Qoa h
  have hlen := Qd6 c h1
  have hs : Qd8 l := ⟨by omega, fun n hn => by have := h4 n hn; unfold tame; omega⟩
  have hm : Qll (stL c w l, l, w) := ⟨hs, by rw [h7]; show (Qa1 c).length ≤ 1000; omega, fun k hk => by rw [h7] at hk; have := Qcx h1 hk; unfold tame; omega⟩
  rw [h7] at hm
  simp only [hm, h7, Qbp, h, fitK, ↓reduceIte, true_and]
  refine ⟨fun e => ?_, fun e => ?_⟩
  ·have e : Qc3 l w (Qa1 c) = (Qa1 c).length := by omega
   simp only [e, ↓reduceIte]
  ·have e : ¬ Qc3 l w (Qa1 c) = (Qa1 c).length := by omega
   simp only [e, ↓reduceIte]
   refine ⟨fun e2 => ?_, fun e2 => ?_⟩
   ·have e2 : Qc3 l w (Qa1 c) = 0 := by omega
    simp only [e2, ↓reduceIte]
   ·have e2 : ¬ Qc3 l w (Qa1 c) = 0 := by omega
    simp only [e2, ↓reduceIte]
theorem W46 (c : Cane) (l : List Int) : Qad Try.prog 46 [.ag (Qa8 c), .sl 1 (l.map eI)] (.tp [.ag (Qap (Qbu c l).1), .i (Qbu c l).2]) := by
 refine Qae Qhq hmix Try.func46 cb46 cc46 cs46 cn46 ?_
 have g1 := Qs6 c l ⟨0, 0⟩
 unfold Qa8 Qap at g1
 simp only [rc46, rs46, g1, Qal, Qaa, Qbo, Qab, Qah, Qc8, Qai, Qac, Qa7, Qb9, optL, putB, Qaf, Qa6, Qa2, Fam.step, Qag, Qbi, Qat, runX, eff, Qb8, fpR, fpQ, fpV, Qc5, hits, putB, nv, sv, evO, opv, qv, binV, ldV, iadV, Qay, Qan, putAt, Qaz, V.cells, Qas, Qb2, Qa9, Qa5, flat, Qcc, Qa3, Qar, Qa0, Qa4, ↓reduceIte, Nat.reduceEqDiff, Nat.reduceAdd, Nat.reduceLT, Nat.reduceLeDiff, Int.toNat_zero, Int.reduceLE, Qc, Qe, Qs, Qu, Qb, Qf, Qg, Qo, Q8, Qd, Qx, Qt, Q0, Qy, Qh, Qm, Qq, Zj, Qw, Zw, Q1, Q5, Qr, Q4, Zz, Xq, endQ, rvs, rv1, resV, vw_i, Qb3, Qax, Qd9, zipA, Qj, Nat.add_zero, Qp, Qv, Ze, Q7, Qn, Xe, Q3, Zc, Qa, decide_eq_false_iff_not, true_and, and_true, and_self, reduceCtorEq, List.any_cons, Z5, Xo, Zy, Q6, imp_self, Qi, Qk, Zn, Classical.not_not, Qap, Qa8]
 refine ⟨fun h => ?_, fun h => ?_⟩
 ·simp only [Qbu, if_neg h]
 ·obtain ⟨h1, h2, h3, h4, h5, h6, h7⟩ := Qoa h
  have hlen := Qd6 c h1
  have hpos : 0 < (Qa1 c).length := Zm.2 h6
  obtain ⟨b, hb⟩ : ∃ b, (Qa1 c)[0]? = some b := ⟨_, Qz hpos⟩
  have hb2 := Qcx h1 (Zp hb)
  have hs : Qd8 l := ⟨by omega, fun n hn => by have := h4 n hn; unfold tame; omega⟩
  have i3 : (0 : Int) < (Qa1 c).length := by omega
  have t2 : tame 1000 b := by unfold tame; omega
  have hlow : ∀ i : Nat, i < (Qa1 c).length → ∃ k, (Qa1 c)[i]? = some k ∧ (Qa1 c).getD i 0 = k ∧ tame 1000 k ∧ Qav l k ≤ Qav l b ∧ Qav l k ≤ Qav l ((Qa1 c).getD (i - 1) 0) := by
   intro i hi
   obtain ⟨k, hk⟩ : ∃ k, (Qa1 c)[i]? = some k := ⟨_, Qz hi⟩
   have hk2 := Qcx h1 (Zp hk)
   have hd : (Qa1 c).getD i 0 = k := by rw [Qk, hk]; rfl
   have e0 : (Qa1 c).getD 0 0 = b := by rw [Qk, hb]; rfl
   have hends := Qit (Qdh c) (Zp hk)
   rw [e0] at hends
   refine ⟨k, hk, hd, by unfold tame; omega, Qdi hb2.1 hends.1 h4, ?_⟩
   by_cases hi0 : i = 0
   ·subst hi0
    rw [Nat.zero_sub, hd]; exact Zk _
   ·have hp := Zx.1 (Qdh c) (i - 1) i (by omega) hi (by omega)
    obtain ⟨k', hk'⟩ : ∃ k, (Qa1 c)[i - 1]? = some k := ⟨_, Qz (by omega)⟩
    have hd' : (Qa1 c).getD (i - 1) 0 = k' := by rw [Qk, hk']; rfl
    have hk2' := Qcx h1 (Zp hk')
    rw [(Z2.1 hk).2, (Z2.1 hk').2] at hp
    rw [hd']
    exact Qdi hk2'.1 (by omega) h4
  simp only [h7, i3, hb, Qs5, hs, t2, Qb2, Qa9, flat, Nat.reduceAdd, Nat.reduceLeDiff, Qs, Qu, Qb, Qf, Qg, Qo, Q8, Qd, Qx, Ql, Q0, Qy, Qh, Qw, vw_i, Qj, Qp, Qa, true_and, and_self, implies_true, Zo, eI]
  refine ⟨?_, ?_⟩
  ·simp [Qw9, Qo5]
  refine Qcp (Qa1 c).length (fun i => ⟨lkp [(1, .sl 1 (l.map eI)), (4, .ad 0 0 0), (6, .sl 1 ((Qa1 c).map eI)), (8, .ad 1 0 0), (9, .i i)], [.cells 0 [.i 0, .i 0], .cells 0 [.i (Qav l ((Qa1 c).getD (i - 1) 0)), .i (Qav l b)]]⟩) ?_ ?_ ?_
  ·have e0 : (Qa1 c).getD 0 0 = b := by rw [Qk, hb]; rfl
   simp only [Zi, Nat.zero_sub, e0, kp, Qa0, Qa4, ↓reduceIte, Nat.reduceEqDiff, Qc, Qe]
  ·intro i hi
   obtain ⟨k, hk, hd, tk, a1, a2⟩ := hlow i hi
   have hlt : (i : Int) < (Qa1 c).length := by omega
   have h5 : inI ((i : Int) + 1) := by unfold inI; omega
   have m1 : min (Qav l ((Qa1 c).getD (i - 1) 0)) (Qav l k) = Qav l k := by omega
   have m2 : max (Qav l b) (Qav l k) = Qav l b := by omega
   have hk2 : (Qa1 c)[i + 1 - 1]?.getD 0 = k := by rw [Nat.add_sub_cancel, hk]; rfl
   rw [Qk] at m1
   simp only [hk, hlt, Qs5, hs, tk, h5, Zs, Zt, m1, m2, hk2, Qal, Qaa, Qbo, Qab, Qah, Qai, Qa7, Qb9, optL, Qaf, Qaq, Qa6, Qa2, Fam.step, Qag, Qat, runX, eff, Qb8, fpR, fpQ, fpV, Qc5, hits, nv, sv, evO, opv, qv, binV, ldV, iadV, lenV, curG, Qay, Qan, putAt, Qaz, V.cells, Qas, Qb2, Qa9, Qa5, flat, kp, Qa3, Qar, Qa0, Qa4, ↓reduceIte, Nat.reduceEqDiff, Nat.reduceAdd, Nat.reduceLT, Nat.reduceLeDiff, Qc, Qe, Qs, Qu, Qb, Qf, Qg, Qo, Q8, Qd, Qx, Ql, Q0, Qy, Qh, Qm, Qq, Zj, Qw, Zw, Q1, Q5, Qr, Zz, Xq, vw_i, Qb3, Zv, beq_self_eq_true, Qj, Nat.add_zero, Qp, Qv, Ze, Q7, Qn, Xe, Q3, Zc, Qa, decide_true, and_self, implies_true, Zo, List.any_cons, Z5, Xo, Zy, Qi, Zq, Qk, Zn, eI]
  ·have h77 : ¬ (((Qa1 c).length : Int) < (Qa1 c).length) := by omega
   have hb0 : (Qa1 c)[0]?.getD 0 = b := by rw [hb]; rfl
   simp only [h77, Qbu, h, Qj5, hb0, Qaa, Qab, Qah, Qbb, Qac, Qa7, putB, Qaf, Qaq, Qa6, Qa2, Fam.step, Qag, Qbi, Qat, putB, nv, sv, evO, opv, qv, binV, ldV, lenV, putAt, V.cells, Qas, Qb2, Qa3, Qar, Qa0, Qa4, ↓reduceIte, Nat.reduceEqDiff, Nat.reduceAdd, Nat.reduceLeDiff, Qc, Qe, Qs, Qu, Qb, Qf, Qg, Qo, Q8, Qd, Qx, Qt, Qy, Qh, Qm, Qq, Q1, endQ, rvs, rv1, resV, vw_i, Qax, Qd9, Qj, Qp, Qa, decide_false, and_self, Qi, Qk]
theorem eq61 : Qau Try.prog 61 3 := Qau.of (fs := _) (show Try.prog.underlying 61 = some (.struct (Try.prog.fieldsOf 61)) by kernel_rfl) (by kernel_rfl) (by kernel_rfl)
theorem W24 (c : Cane) (h : c.bents.length ≤ 1000000) : Qad Try.prog 24 [.ag (Qa8 c)] (.ag (Qa8 c)) := by
 refine Qae Qhq hmix Try.func24 cb24 cc24 cs24 cn24 ?_
 have hfl : Qc1 c.bents.length := by unfold Qc1; omega
 have k1 : Qcy 3 ((c.bents.map eBent).flatten) 0 c.bents.length = c.bents.map eBent := Qfk (e := eBent) (k := 3) (fun _ => rfl) c.bents
 have k2 : ((c.bents.map eBent).flatten).length = c.bents.length * 3 := Qhv (e := eBent) (k := 3) (fun _ => rfl) c.bents
 have k3 : ∀ (hp : List Blk), (c.bents.map eBent).map (fun r => r.map (vw hp 6)) = c.bents.map eBent := fun hp => Qg6 (e := eBent) hp 6 (fun _ => rfl) c.bents
 simp only [rc24, rs24, Za, Qy, hfl, k1, k2, k3, Zf, Qaa, Qab, Qac, Qa7, putB, Qaf, Qa6, Qa2, Fam.step, Qag, Qbi, Qat, putB, nv, sv, Qc9, evO, opv, qv, ldV, curG, Qan, putAt, Qaz, Qb5, V.cells, Qas, Qb2, Qa9, Qa5, Qa3, Qar, Qa0, Qa4, ↓reduceIte, Nat.reduceEqDiff, Nat.reduceAdd, Nat.reduceMul, Nat.reduceLeDiff, Qc, Qe, Qs, Qu, Qb, Qf, Qg, Qo, Q8, Qd, Qx, Qt, Ql, Q0, Qy, Qh, Qm, Qq, Q1, Q5, Qr, endQ, rvs, rv1, resV, vw_i, Qb3, Qax, Qdd, zipA, beq_self_eq_true, Qj, Qp, Qn, Qa, and_self, Qi, Qa8]
theorem W29 (l m : List Int) (h : l.length ≤ 1000000) : Qad Try.prog 29 [.sl 1 (l.map eI), .sl 1 (m.map eI)] (.b (decide (l = m))) := by
 refine Qae Qhq hmix Try.func29 cb29 cc29 cs29 cn29 ?_
 simp only [rc29, rs29, Qal, Qaa, Qab, Qah, Qc8, Qai, Qac, Qa7, Qaf, Qa6, Qa2, Fam.step, Qag, evO, opv, qv, binV, lenV, Qa3, Qa0, Qa4, ↓reduceIte, Nat.reduceEqDiff, Qc, Qe, endQ, rvs, rv1, resV, vw_b, zipA, Qj, V.b.injEq, decide_eq_false_iff_not, true_and, and_self, reduceCtorEq, Q6, Qi, Classical.not_not]
 refine ⟨fun h1 => ?_, fun h1 => ?_⟩
 ·have : ¬ l = m := fun e => by rw [e] at h1; omega
  simp only [this, decide_false]
 ·have hlm : l.length = m.length := by omega
  refine Qcu l.length (fun i => ⟨lkp [(0, .sl 1 (l.map eI)), (1, .sl 1 (m.map eI)), (5, .i i)], []⟩) (fun i => ∀ j : Nat, j < i → l[j]? = m[j]?) ?_ ?_ ?_ ?_
  ·simp only [Zi, kp, Qa0, Qa4, ↓reduceIte, Nat.reduceEqDiff, Qc, Qe, reduceCtorEq]
  ·intro j hj; omega
  ·intro i hi hc
   obtain ⟨n, hn⟩ : ∃ n, l[i]? = some n := ⟨_, Qz hi⟩
   obtain ⟨n', hn'⟩ : ∃ n, m[i]? = some n := ⟨_, Qz (by omega)⟩
   have hlt : (i : Int) < l.length := by omega
   have hlt' : (i : Int) < m.length := by omega
   have h4 : inI ((i : Int) + 1) := by unfold inI; omega
   simp only [hn, hn', hlt, hlt', h4, Zs, Zt, Qal, Qaa, Qbo, Qab, Qah, Qc8, Qai, Qac, Qa7, Qb9, Qaf, Qaq, Qa6, Qa2, Fam.step, Qag, runX, eff, Qb8, fpR, fpQ, fpV, Qc5, hits, evO, opv, qv, binV, ldV, iadV, lenV, kp, Qa3, Qa0, Qa4, ↓reduceIte, Nat.reduceEqDiff, Nat.reduceLeDiff, Qc, Qe, Qu, Qb, Qf, Ql, Q0, Qy, Qh, Zj, Qw, Zw, Qr, Zz, endQ, rvs, rv1, resV, vw_b, Zv, Qj, V.b.injEq, Qp, Qv, Q7, Qn, Q3, Zc, Qa, decide_true, decide_eq_false_iff_not, true_and, and_true, and_self, reduceCtorEq, Zo, Z5, Zy, Q6, Qi, Zq, Qk, Zn, Classical.not_not, eI]
   refine ⟨fun hne => ?_, fun he => ?_⟩
   ·have : ¬ l = m := fun e => by rw [e, hn'] at hn; cases hn; exact hne rfl
    simp only [this, decide_false]
   ·intro j hj
    by_cases hji : j < i
    ·exact hc j hji
    ·have : j = i := by omega
     subst this
     rw [hn, hn', he]
  ·intro hc
   have h77 : ¬ ((l.length : Int) < l.length) := by omega
   have : l = m := List.ext_getElem? fun j => by
    by_cases hj : j < l.length
    ·exact hc j hj
    ·rw [Xh (by omega), Xh (by omega)]
   simp only [this, Qaa, Qab, Qah, Qbb, Qac, Qa7, Qaf, Qaq, Qa6, Qa2, Fam.step, Qag, evO, opv, qv, binV, lenV, Qa3, Qa0, Qa4, ↓reduceIte, Nat.reduceEqDiff, Qc, Qe, endQ, rvs, rv1, resV, vw_b, Int.lt_irrefl, Qa, decide_true, decide_false, and_self, reduceCtorEq, Qi]
theorem W30 (c : Cane) (h : c.bents.length ≤ 1000000) : Qad Try.prog 30 [.ag (Qa8 c), .ag (Qa8 c)] (.b true) := by
 refine Qae Qhq hmix Try.func30 cb30 cc30 cs30 cn30 ?_
 simp only [rc30, rs30, eq23, Qal, Qaa, Qab, Qah, Qai, Qa7, Qaf, Qa6, Qa2, Fam.step, Qag, Qbd, Qb7, ug, evO, opv, qv, Qam, binV, ldV, lenV, V.cells, Qas, Qck, Qa9, Qa5, Qa3, Qa0, Qa4, ↓reduceIte, Nat.reduceEqDiff, Nat.reduceAdd, Nat.reduceLeDiff, Qc, Qe, Qs, Qu, Qb, Qf, Qg, Qo, Qd, Qx, Ql, vw_i, Qb3, Qax, zipA, beq_self_eq_true, Qj, Qp, Qn, Q3, Qa, decide_true, true_and, and_self, forall_const, implies_true, reduceCtorEq, Zo, Bool.xor_self, Qi, Qa8]
 refine Qcp c.bents.length (fun i => ⟨lkp [(2, .pa (Qa8 c)), (3, .pa (Qa8 c)), (5, .i i)], []⟩) ?_ ?_ ?_
 ·simp only [Zi, kp, Qa0, Qa4, ↓reduceIte, Nat.reduceEqDiff, Qc, Qe, Qa8]
 ·intro i hi
  obtain ⟨b, hb⟩ : ∃ b, c.bents[i]? = some b := ⟨_, Qz hi⟩
  have hlt : (i : Int) < c.bents.length := by omega
  have h4 : inI ((i : Int) + 1) := by unfold inI; omega
  simp only [hb, hlt, h4, eq61, Zs, Zt, Qal, Qaa, Qbo, Qab, Qah, Qai, Qa7, Qb9, Qaf, Qaq, Qa6, Qa2, Fam.step, Qag, runX, eff, Qb8, fpR, fpQ, fpV, Qc5, hits, evO, opv, qv, binV, ldV, iadV, lenV, Qck, kp, Qa3, Qa0, Qa4, ↓reduceIte, Nat.reduceEqDiff, Nat.reduceAdd, Nat.reduceLeDiff, Qc, Qe, Qu, Qb, Qf, Qg, Qo, Qd, Qt, Ql, Q0, Qy, Qh, Zj, Qw, Zw, Qr, Zz, Zv, Qj, Qp, Qv, Q7, Qn, Q3, Zc, Qa, decide_true, and_self, Zo, Z5, Zy, Bool.xor_self, Qi, Zq, Qk, Zn, eBent, Qa8]
 ·have h77 : ¬ ((c.bents.length : Int) < c.bents.length) := by omega
  simp only [h77, Qaa, Qab, Qah, Qbb, Qac, Qa7, Qaf, Qaq, Qa6, Qa2, Fam.step, Qag, evO, opv, qv, binV, ldV, lenV, Qa3, Qa0, Qa4, ↓reduceIte, Nat.reduceEqDiff, Nat.reduceAdd, Nat.reduceLeDiff, Qc, Qe, Qb, Qf, Qg, Qo, Ql, endQ, rvs, rv1, resV, vw_b, Qj, Qa, decide_false, and_self, Qi, Qa8]
def farP (c : Cane) : Bool := farB c || (decide (Qbx c = 0) && (decide ((3 : Int) < c.limit) && (decide ((14 : Int) < c.limit) || decide (4 * c.tire < c.limit))))
theorem W31 (c : Cane) : Qad Try.prog 31 [.ag (Qa8 c)] (.b (farP c)) := by
 refine Qae Qhq hmix Try.func31 cb31 cc31 cs31 cn31 ?_
 have g1 := Qv3 c
 have g2 := Qv4 c
 unfold Qa8 at g1 g2
 by_cases hf : farB c = true
 ·simp only [rc31, rs31, g1, g2, hf, farP, Qaa, Qab, Qac, Qa7, Qaf, Qa6, Qa2, Fam.step, Qag, Qbd, Qb7, ug, evO, opv, qv, Qam, binV, ldV, Qay, V.cells, Qas, Qa9, Qa5, flat, Qa3, Qa0, Qa4, ↓reduceIte, Nat.reduceEqDiff, Nat.reduceAdd, Nat.reduceLT, Nat.reduceLeDiff, Qc, Qe, Qs, Qu, Qb, Qf, Qg, Qo, Qd, Qt, Ql, Qh, endQ, rvs, rv1, resV, vw_i, vw_b, Qb3, Qax, zipA, Qj, Qp, Qv, Q7, Qn, Bool.true_or, Q3, Qa, Q2, decide_eq_true_eq, decide_eq_false_iff_not, true_and, and_true, and_self, false_and, forall_const, implies_true, beq_true, beq_false, Qe2, Qdv, Xa, imp_self, Qa8]
 ·by_cases he : Qbx c = 0
  ·have hC := Qeg.1 he
   have ht := hC.tire
   have hi : inI (4 * c.tire) := by unfold inI; omega
   by_cases h3 : (3 : Int) < c.limit <;> by_cases h14 : (14 : Int) < c.limit <;> simp only [rc31, rs31, g1, g2, hf, he, hi, farP, h3, h14, Qaa, Qab, Qac, Qa7, Qaf, Qa6, Qa2, Fam.step, Qag, Qbd, Qb7, ug, evO, opv, qv, Qam, binV, ldV, Qay, V.cells, Qas, Qa9, Qa5, flat, Qa3, Qa0, Qa4, ↓reduceIte, Nat.reduceEqDiff, Nat.reduceAdd, Nat.reduceLT, Nat.reduceLeDiff, Qc, Qe, Qs, Qu, Qb, Qf, Qg, Qo, Qd, Qt, Ql, Qh, endQ, rvs, rv1, resV, vw_i, vw_b, Qb3, Qax, zipA, beq_self_eq_true, Qj, Qp, Qv, Ze, Q7, Zl, Qn, Xe, Bool.or_true, Bool.true_or, Q3, Qa, Q2, decide_true, decide_false, and_true, and_self, and_false, forall_const, implies_true, beq_true, beq_false, imp_self, Qa8]
  ·simp only [rc31, rs31, g1, g2, hf, he, farP, Qaa, Qab, Qac, Qa7, Qaf, Qa6, Qa2, Fam.step, Qag, Qbd, Qb7, ug, evO, opv, qv, Qam, binV, ldV, Qay, V.cells, Qas, Qa9, Qa5, flat, Qa3, Qa0, Qa4, ↓reduceIte, Nat.reduceEqDiff, Nat.reduceAdd, Nat.reduceLT, Nat.reduceLeDiff, Qc, Qe, Qs, Qu, Qb, Qf, Qg, Qo, Qd, Qt, Ql, Qh, endQ, rvs, rv1, resV, vw_i, vw_b, Qb3, Qax, zipA, beq_self_eq_true, Qj, Qp, Qv, Q7, Zl, Qn, Qa, decide_false, decide_eq_true_eq, decide_eq_false_iff_not, true_and, and_true, and_self, false_and, forall_const, implies_true, beq_true, beq_false, Qdv, imp_self, Qa8]
def Qfz (c : Cane) : Bool := !farP c && decide (Qbx c = 0)
noncomputable def H34 : Gam := H33.ext 31 (fnG eC1 dC1 (fun _ => True) farP .b)
theorem Qw6 : GOk Try.prog H34 := Qhq.ext (f := 31) (fun a w => Try.call31 a w) (Qb6 fun c _ => W31 c)
theorem h31 (c : Cane) : H34 31 [.ag (Qa8 c)] = (True, .b (farP c)) := (show H34 31 _ = fnG eC1 dC1 (fun _ => True) farP .b (eC1 c) from rfl).trans (Qba _ (Qi3 _))
theorem Qv5 (c : Cane)  : H34 16 [.ag (Qa8 c)] = (True, .i (Qbx c)) := h16 c
theorem W22 (c : Cane) : Qad Try.prog 22 [.ag (Qa8 c)] (.b (Qfz c)) := by
 refine Qae Qw6 hmix Try.func22 cb22 cc22 cs22 cn22 ?_
 have g1 := Qv5 c
 have g2 := h31 c
 unfold Qa8 at g1 g2
 simp only [rc22, rs22, g1, g2, Qaa, Qab, Qac, Qa7, Qaf, Qa6, Qa2, Fam.step, Qag, Qbd, Qb7, ug, evO, opv, qv, Qam, binV, ldV, Qay, V.cells, Qas, Qa9, Qa5, flat, Qa3, Qa0, Qa4, ↓reduceIte, Nat.reduceEqDiff, Nat.reduceAdd, Nat.reduceLT, Nat.reduceLeDiff, Qc, Qe, Qs, Qu, Qb, Qf, Qd, Qt, Qh, endQ, rvs, rv1, resV, vw_i, vw_b, Qb3, Qax, zipA, Qj, V.b.injEq, Qp, Qv, Qn, Qa, true_and, and_true, and_self, implies_true, beq_true, Zd, Q6, Qe2, Bool.decide_eq_false, imp_self, Qa8]
 by_cases hf : farP c = true <;> simp [hf, Qfz]
theorem W23 (w : Span) : Qad Try.prog 23 [.ag (Qap w)] (.b (Qb1 w 540)) := by
 refine Qae Qhq hmix Try.func23 cb23 cc23 cs23 cn23 ?_
 simp only [rc23, rs23, Qaa, Qab, Qac, Qa7, Qaf, Qa6, Qa2, Fam.step, Qag, Qbd, Qb7, ug, evO, opv, qv, Qam, binV, ldV, V.cells, Qas, Qa9, Qa5, Qa3, Qa0, Qa4, ↓reduceIte, Nat.reduceEqDiff, Nat.reduceAdd, Nat.reduceLeDiff, Qc, Qe, Qs, Qu, Qb, Qf, Qg, Qo, Ql, endQ, rvs, rv1, resV, vw_i, vw_b, Qax, zipA, Qj, V.b.injEq, Qp, Qv, Qn, Qa, decide_eq_true_eq, decide_eq_false_iff_not, true_and, and_true, and_self, implies_true, beq_true, Qe2, Xa, imp_self, Qap]
 by_cases h : 0 ≤ w.low <;> by_cases h2 : w.low ≤ w.high <;> simp [h, h2, Qb1, Qak]
theorem W36 (w : Span) (n : Int) : Qad Try.prog 36 [.ag (Qap w), .i n] (.b (Qak n w.low w.high)) := by
 refine Qae Qhq hmix Try.func36 cb36 cc36 cs36 cn36 ?_
 simp only [rc36, rs36, Qaa, Qab, Qac, Qa7, Qaf, Qa6, Qa2, Fam.step, Qag, Qbd, Qb7, ug, evO, opv, qv, Qam, binV, ldV, V.cells, Qas, Qa9, Qa5, Qa3, Qa0, Qa4, ↓reduceIte, Nat.reduceEqDiff, Nat.reduceAdd, Nat.reduceLeDiff, Qc, Qe, Qs, Qu, Qb, Qf, Qg, Qo, Ql, endQ, rvs, rv1, resV, vw_i, vw_b, Qax, zipA, Qj, V.b.injEq, Qp, Qv, Qn, Qa, decide_eq_true_eq, decide_eq_false_iff_not, true_and, and_true, and_self, implies_true, reduceCtorEq, beq_true, Qe2, imp_self, Qap]
 by_cases h : w.low ≤ n <;> simp [h, Qak]
def Qg1 (a b : Span) : Bool := decide (a.low ≤ b.low) && decide (b.high ≤ a.high)
theorem W45 (a b : Span) : Qad Try.prog 45 [.ag (Qap a), .ag (Qap b)] (.b (Qg1 a b)) := by
 refine Qae Qhq hmix Try.func45 cb45 cc45 cs45 cn45 ?_
 simp only [rc45, rs45, Qaa, Qab, Qac, Qa7, Qaf, Qa6, Qa2, Fam.step, Qag, Qbd, Qb7, ug, evO, opv, qv, Qam, binV, ldV, V.cells, Qas, Qa9, Qa5, Qa3, Qa0, Qa4, ↓reduceIte, Nat.reduceEqDiff, Nat.reduceAdd, Nat.reduceLeDiff, Qc, Qe, Qs, Qu, Qb, Qf, Qg, Qo, Ql, endQ, rvs, rv1, resV, vw_i, vw_b, Qax, zipA, Qj, V.b.injEq, Qp, Qv, Qn, Qa, decide_eq_true_eq, decide_eq_false_iff_not, true_and, and_true, and_self, implies_true, reduceCtorEq, beq_true, Qe2, imp_self, Qap]
 by_cases h : a.low ≤ b.low <;> simp [h, Qg1]
theorem W44 (l : List Int) (n : Int) (h : l.length ≤ 1000000) : Qad Try.prog 44 [.sl 1 (l.map eI), .i n] (.b (decide (n ∈ l))) := by
 refine Qae Qhq hmix Try.func44 cb44 cc44 cs44 cn44 ?_
 simp only [rc44, rs44, Qaa, Qab, Qai, Qa7, Qaf, Qa6, Qa2, Fam.step, Qag, evO, opv, qv, Qa3, Qa0, Qa4, ↓reduceIte, Nat.reduceEqDiff, Qc, Qe, zipA, Qj, true_and, reduceCtorEq]
 refine Qcu l.length (fun i => ⟨lkp [(0, .sl 1 (l.map eI)), (1, .i n), (5, .i i)], []⟩) (fun i => ∀ j : Nat, j < i → ¬ l[j]? = some n) ?_ ?_ ?_ ?_
 ·simp only [Zi, kp, Qa0, Qa4, ↓reduceIte, Nat.reduceEqDiff, Qc, Qe, reduceCtorEq]
 ·intro j hj; omega
 ·intro i hi hc
  obtain ⟨x, hx⟩ : ∃ n, l[i]? = some n := ⟨_, Qz hi⟩
  have hlt : (i : Int) < l.length := by omega
  have h4 : inI ((i : Int) + 1) := by unfold inI; omega
  simp only [hx, hlt, h4, Zs, Zt, Qal, Qaa, Qab, Qah, Qc8, Qai, Qac, Qa7, Qaf, Qaq, Qa6, Qa2, Fam.step, Qag, evO, opv, qv, binV, ldV, iadV, lenV, kp, Qa3, Qa0, Qa4, ↓reduceIte, Nat.reduceEqDiff, Nat.reduceLeDiff, Qc, Qe, Qb, Qf, Ql, Qw, endQ, rvs, rv1, resV, vw_b, Zv, Qj, V.b.injEq, Qa, decide_true, decide_eq_true_eq, true_and, and_true, and_self, reduceCtorEq, Zo, Qi, Zq, Qk, Zn, eI]
  refine ⟨fun he => ?_, fun he => ?_⟩
  ·have : n ∈ l := by rw [← he]; exact Zp hx
   simp only [this, decide_true]
  ·intro j hj
   by_cases hji : j < i
   ·exact hc j hji
   ·have : j = i := by omega
    subst this
    rw [hx]
    simpa using he
 ·intro hc
  have h77 : ¬ ((l.length : Int) < l.length) := by omega
  have : ¬ n ∈ l := fun hn => by
   obtain ⟨j, hj⟩ := Xl hn
   exact hc j (Qao hj) hj
  simp only [h77, this, Qaa, Qab, Qah, Qbb, Qac, Qa7, Qaf, Qaq, Qa6, Qa2, Fam.step, Qag, evO, opv, qv, binV, lenV, Qa3, Qa0, Qa4, ↓reduceIte, Nat.reduceEqDiff, Qc, Qe, endQ, rvs, rv1, resV, vw_b, Qa, decide_false, and_self, reduceCtorEq, Qi]
end Go.C06
set_option maxRecDepth 8000
namespace Go.C06
open Go.Fam Go.Proofs
end Go.C06
set_option linter.unusedSimpArgs false
set_option linter.unusedVariables false
namespace Go.C06
open Go.Fam Go.Proofs
def fewB (c : Cane) : Prop := c.bents.length ≤ 1000000
def eCC (a : Cane × Cane) : List V := [.ag (Qa8 a.1), .ag (Qa8 a.2)]
def dCC : List V → Cane × Cane | [.ag s, .ag n] => (Qcs s, Qcs n) | _ => (Qcs [], Qcs [])
def eLL (a : List Int × List Int) : List V := [.sl 1 (a.1.map eI), .sl 1 (a.2.map eI)]
def dLL : List V → List Int × List Int | [.sl _ l, .sl _ m] => (l.map dI, m.map dI) | _ => ([], [])
def eWW (a : Span × Span) : List V := [.ag (Qap a.1), .ag (Qap a.2)]
def dWW : List V → Span × Span | [.ag s, .ag n] => (Qev s, Qev n) | _ => (Qev [], Qev [])
theorem Qx8 (a : Span × Span) : dWW (eWW a) = a := by obtain ⟨k, l⟩ := a; simp [dWW, eWW, Qf2]
noncomputable def K1 : Gam := (((H34.ext 24 (fnG eC1 dC1 fewB (fun c => c) fun c => .ag (Qa8 c))).ext 29 (fnG eLL dLL (fun a => a.1.length ≤ 1000000) (fun a => decide (a.1 = a.2)) .b)).ext 30 (fnG eCC dCC (fun a => a.1 = a.2 ∧ fewB a.1) (fun _ => true) .b)).ext 27 (fnG eC1 dC1 (fun _ => True) (fun c => (stL c ⟨0, 0⟩ [], stE c ⟨0, 0⟩ [])) fun r => .tp [.sl 1 (r.1.map eI), .i r.2])
theorem okK1 : GOk Try.prog K1 := by
 have k1 := Qw6.ext (f := 24) (fun a w => Try.call24 a w) (Qb6 (e := eC1) (d := dC1) (ok := fewB) (g := fun c => c) (eb := fun c => .ag (Qa8 c)) fun c h => W24 c h)
 have k2 := k1.ext (f := 29) (fun a w => Try.call29 a w) (Qb6 (e := eLL) (d := dLL) (ok := fun a => a.1.length ≤ 1000000) (g := fun a => decide (a.1 = a.2)) (eb := .b) fun a h => W29 a.1 a.2 h)
 have k3 := k2.ext (f := 30) (fun a w => Try.call30 a w) (Qb6 (e := eCC) (d := dCC) (ok := fun a => a.1 = a.2 ∧ fewB a.1) (g := fun _ => true) (eb := .b) fun a h => by
  obtain ⟨c, d⟩ := a
  obtain ⟨h1, h2⟩ := h
  simp only at h1 h2
  subst h1
  exact W30 c h2)
 exact k3.ext (f := 27) (fun a w => Try.call27 a w) (Qb6 (e := eC1) (d := dC1) (ok := fun _ => True) (g := fun c => (stL c ⟨0, 0⟩ [], stE c ⟨0, 0⟩ [])) (eb := fun r => .tp [.sl 1 (r.1.map eI), .i r.2]) fun a _ => W27 a)
noncomputable def K2 : Gam := ((((((K1.ext 40 (fnG eCLS dCLS (fun _ => True) (fun a => Qbp a.1 a.2.1 a.2.2) fun r => .tp [.i r.1, .i r.2])).ext 46 (fnG eCL dCL (fun _ => True) (fun a => Qbu a.1 a.2) fun r => .tp [.ag (Qap r.1), .i r.2])).ext 22 (fnG eC1 dC1 (fun _ => True) Qfz .b)).ext 23 (fnG eW1 dW1 (fun _ => True) (fun w => Qb1 w 540) .b)).ext 36 (fnG eSI dSI (fun _ => True) (fun a => Qak a.2 a.1.low a.1.high) .b)).ext 45 (fnG eWW dWW (fun _ => True) (fun a => Qg1 a.1 a.2) .b)).ext 44 (fnG eLI dLI (fun a => a.1.length ≤ 1000000) (fun a => decide (a.2 ∈ a.1)) .b)
theorem okK2 : GOk Try.prog K2 := by
 have k1 := okK1.ext (f := 40) (fun a w => Try.call40 a w) (Qb6 (e := eCLS) (d := dCLS) (ok := fun _ => True) (g := fun a => Qbp a.1 a.2.1 a.2.2) (eb := fun r => .tp [.i r.1, .i r.2]) fun a _ => W40 a.1 a.2.1 a.2.2)
 have k2 := k1.ext (f := 46) (fun a w => Try.call46 a w) (Qb6 (e := eCL) (d := dCL) (ok := fun _ => True) (g := fun a => Qbu a.1 a.2) (eb := fun r => .tp [.ag (Qap r.1), .i r.2]) fun a _ => W46 a.1 a.2)
 have k3 := k2.ext (f := 22) (fun a w => Try.call22 a w) (Qb6 (e := eC1) (d := dC1) (ok := fun _ => True) (g := Qfz) (eb := .b) fun a _ => W22 a)
 have k4 := k3.ext (f := 23) (fun a w => Try.call23 a w) (Qb6 (e := eW1) (d := dW1) (ok := fun _ => True) (g := fun w => Qb1 w 540) (eb := .b) fun a _ => W23 a)
 have k5 := k4.ext (f := 36) (fun a w => Try.call36 a w) (Qb6 (e := eSI) (d := dSI) (ok := fun _ => True) (g := fun a => Qak a.2 a.1.low a.1.high) (eb := .b) fun a _ => W36 a.1 a.2)
 have k6 := k5.ext (f := 45) (fun a w => Try.call45 a w) (Qb6 (e := eWW) (d := dWW) (ok := fun _ => True) (g := fun a => Qg1 a.1 a.2) (eb := .b) fun a _ => W45 a.1 a.2)
 exact k6.ext (f := 44) (fun a w => Try.call44 a w) (Qb6 (e := eLI) (d := dLI) (ok := fun a => a.1.length ≤ 1000000) (g := fun a => decide (a.2 ∈ a.1)) (eb := .b) fun a h => W44 a.1 a.2 h)
theorem k22 (c : Cane) : K2 22 [.ag (Qa8 c)] = (True, .b (Qfz c)) := (show K2 22 _ = fnG eC1 dC1 (fun _ => True) Qfz .b (eC1 c) from rfl).trans (Qba _ (Qi3 _))
theorem k23 (w : Span) : K2 23 [.ag (Qap w)] = (True, .b (Qb1 w 540)) := (show K2 23 _ = fnG eW1 dW1 (fun _ => True) (fun w => Qb1 w 540) .b (eW1 w) from rfl).trans (Qba _ (Qvj _))
theorem k45 (w v : Span) : K2 45 [.ag (Qap w), .ag (Qap v)] = (True, .b (Qg1 w v)) := (show K2 45 _ = fnG eWW dWW (fun _ => True) (fun a => Qg1 a.1 a.2) .b (eWW (w, v)) from rfl).trans (Qba _ (Qx8 _))
end Go.C06
set_option linter.unusedSimpArgs false
set_option linter.unusedVariables false
namespace Go.C06
open Go.Fam Go.Proofs
theorem Qiu {c : Cane} (hc : OkC c) {w : Span} (hw : Qb1 w 540 = true) {l : List Int} (h : areB c l = true) : stE c w l = if Qa1 c = [] then 3 else 0 := by
 obtain ⟨h6, hp⟩ := (Qfj hc l).1 h
 unfold stE
 rw [if_neg (by simpa using Qeg.2 hc), if_neg, if_neg]
 ·unfold Qf1
  rw [Zh]
  rintro ⟨i, hi, h2⟩
  have := (hp i (by simpa using hi)).2
  simp only [decide_eq_true_eq] at h2
  omega
 ·rintro (h1 | h1 | h1)
  ·omega
  ·rw [hw] at h1; cases h1
  ·rw [Zh] at h1
   obtain ⟨n, hn, h2⟩ := h1
   have := hp.in_ n hn
   simp [Qak, this] at h2
theorem Qsx (c : Cane) : areB c [] = true := rfl
end Go.C06
set_option maxRecDepth 8000
namespace Go.C06
open Go.Fam Go.Proofs
end Go.C06
set_option linter.unusedSimpArgs false
set_option linter.unusedVariables false
namespace Go.C06
open Go.Fam Go.Proofs
theorem Ql3 {c : Cane} (hC : OkC c) {l : List Int} {w : Span} (h : stE c w l = 0) {k : Int} (hk : k ∈ Qa1 c) :
  (Qbp c l w).2 = 0 ∧ (((Qbp c l w).1 = 1 ∧ Qak (Qav l k) w.low w.high = true) ∨ ((Qbp c l w).1 = 2 ∧ Qak (Qav l k) w.low w.high = false) ∨ (Qbp c l w).1 = 3) := by
 have e : Qbp c l w = (fitK (Qc3 l w (Qa1 c)) (Qa1 c).length, 0) := by unfold Qbp; rw [if_pos h]
 rw [e]
 refine ⟨rfl, ?_⟩
 simp only [fitK]
 split
 ·rename_i h1
  left
  unfold Qc3 at h1
  rw [Zu] at h1
  exact ⟨rfl, h1 k hk⟩
 ·split
  ·rename_i h1 h2
   right; left
   unfold Qc3 at h2
   rw [Xb] at h2
   exact ⟨rfl, by simpa using h2 k hk⟩
  ·right; right; rfl
theorem Qj6 {c : Cane} (hC : OkC c) {l : List Int} (hl : ∀ n ∈ l, 1 ≤ n ∧ n ≤ 90) {k : Int} (hk : k ∈ Qa1 c) : Qak (Qav l k) (Qj5 c l).low (Qj5 c l).high = true := by
 have ht : Qa1 c ≠ [] := Z4 hk
 have h1 := Qjm hk
 have h2 := Qcx hC hk
 have h3 := Qnj hC ht
 have h4 := Qdi (k := k) (k' := trL c) h2.1 h1.2 hl
 have h5 := Qdi (k := trF c) (k' := k) h3.1 h1.1 hl
 simp only [Qak, Zg, decide_eq_true_eq]
 exact ⟨h4, h5⟩
end Go.C06
set_option linter.unusedSimpArgs false
set_option linter.unusedVariables false
namespace Go.C06
open Go.Fam Go.Proofs
def Qfb (c : Cane) (w : Span) : Nat → Int → Int → List Int → Bool
 | 0, a, _, _ => Qak a w.low w.high
 | n + 1, a, i, T => Qak a w.low w.high || (ints 1 (Qbz c i)).any fun b => T.all fun k => Qfb c w n (a + b - Qb0 b k) (i + 1) (T.filter fun k' => decide (Qb0 b k' = Qb0 b k))
theorem Qh6 {c c' : Cane} {w w' : Span} (hc : ∀ i : Int, 0 ≤ i → Qbz c i ≤ Qbz c' i) (hw : w'.low ≤ w.low ∧ w.high ≤ w'.high) :
  ∀ (n : Nat) (a i : Int) (T T' : List Int), 0 ≤ i → (∀ k ∈ T', k ∈ T) → Qfb c w n a i T = true → Qfb c' w' n a i T' = true := by
 have hin : ∀ a, Qak a w.low w.high = true → Qak a w'.low w'.high = true := fun a h => by
  simp only [Qak, Zg, decide_eq_true_eq] at h ⊢; omega
 intro n
 induction n with
 | zero => intro a i T T' _ _ h; exact hin a h
 | succ n ih =>
  intro a i T T' hi hT h
  rw [Qfb, Bool.or_eq_true] at h ⊢
  rcases h with h | h
  ·exact .inl (hin a h)
  ·right
   rw [Zh] at h ⊢
   obtain ⟨b, hb, h⟩ := h
   rw [Qdx] at hb
   have hm := hc i hi
   refine ⟨b, Qdx.2 (by omega), ?_⟩
   rw [Z1] at h ⊢
   intro k hk
   refine ih _ _ _ _ (by omega) (fun k' hk' => ?_) (h k (hT k hk))
   rw [Z9] at hk' ⊢
   exact ⟨hT k' hk'.1, hk'.2⟩
theorem Qlh {c : Cane} {w : Span} {n : Nat} {a i : Int} {T T' : List Int} (hi : 0 ≤ i) (h : ∀ k, k ∈ T ↔ k ∈ T') : Qfb c w n a i T = Qfb c w n a i T' := by
 rw [Xs]
 exact ⟨Qh6 (fun _ _ => Zk _) ⟨Zk _, Zk _⟩ n a i T T' hi fun k hk => (h k).2 hk, Qh6 (fun _ _ => Zk _) ⟨Zk _, Zk _⟩ n a i T' T hi fun k hk => (h k).1 hk⟩
theorem Qo1 {c : Cane} {w : Span} : ∀ (n : Nat) (a i : Int) (T : List Int), w.high < a → T ≠ [] → (∀ k ∈ T, 0 ≤ k ∧ k ≤ 500) → Qfb c w n a i T = false := by
 intro n
 induction n with
 | zero => intro a i T h _ _; simp only [Qfb, Qak, Xi, decide_eq_false_iff_not]; omega
 | succ n ih =>
  intro a i T h hT hk
  rw [Qfb, Xk]
  refine ⟨by simp only [Qak, Xi, decide_eq_false_iff_not]; omega, ?_⟩
  rw [List.any_eq_false]
  intro b hb
  rw [Qdx] at hb
  obtain ⟨k, hkT⟩ := Z3 T hT
  have h1 := Qjp (b := b) (k := k) (by omega) (hk k hkT)
  rw [Z1]
  intro h2
  have := h2 k hkT
  rw [ih (a + b - Qb0 b k) (i + 1) _ (by omega) (Z4 (Z9.2 ⟨hkT, by simp⟩)) (fun k' hk' => hk k' (Z9.1 hk').1)] at this
  cases this
theorem Qrb {b : Int} {ts : List Int} {l : Nat} (hm : ∀ i j : Nat, i ≤ j → j ≤ l → Qb0 b (ts.getD i 0) ≤ Qb0 b (ts.getD j 0)) :
  ∀ (n f : Nat), l + 1 ≤ f + n → (∀ p ∈ grpF b ts l f, f ≤ p.1 ∧ p.1 ≤ p.2 ∧ p.2 ≤ l ∧ ∀ j, f ≤ j → j ≤ l → (Qb0 b (ts.getD j 0) = Qb0 b (ts.getD p.1 0) ↔ p.1 ≤ j ∧ j ≤ p.2)) ∧
   ∀ j, f ≤ j → j ≤ l → ∃ p ∈ grpF b ts l f, p.1 ≤ j ∧ j ≤ p.2 := by
 intro n
 induction n with
 | zero =>
  intro f hf
  have e : grpF b ts l f = [] := by
   unfold grpF grpP
   rw [if_neg (by omega)]
  rw [e]
  exact ⟨fun p hp => (by cases hp), fun j h1 h2 => (by omega)⟩
 | succ n ih =>
  intro f hf
  by_cases hfl : f ≤ l
  ·rw [Qic hfl]
   obtain ⟨t1, t2, t3⟩ := Qqp (bend := b) (v := Qb0 b (ts.getD f 0)) (ts := ts) hfl
   have t4 := Qu4 (bend := b) (v := Qb0 b (ts.getD f 0)) (ts := ts) hfl
   obtain ⟨e, he⟩ : ∃ e, e = endP b ts l f := ⟨_, rfl⟩
   have he2 : toF b (Qb0 b (ts.getD f 0)) ts l f = e := he.symm
   rw [he2] at t1 t2 t3 t4
   rw [← he]
   obtain ⟨i1, i2⟩ := ih (e + 1) (by omega)
   have hin : ∀ j, f ≤ j → j ≤ e → Qb0 b (ts.getD j 0) = Qb0 b (ts.getD f 0) := fun j h1 h2 => by
    by_cases hj : j = f
    ·rw [hj]
    ·exact t3 j (by omega) h2
   have hout : ∀ j, e < j → j ≤ l → Qb0 b (ts.getD f 0) < Qb0 b (ts.getD j 0) := fun j h1 h2 => by
    have k1 := t4 (by omega)
    have k2 := hm f (e + 1) (by omega) (by omega)
    have k3 := hm (e + 1) j (by omega) h2
    omega
   refine ⟨fun p hp => ?_, fun j h1 h2 => ?_⟩
   ·rcases List.mem_cons.1 hp with rfl | hp
    ·refine ⟨Zf _, t1, t2, fun j h1 h2 => ⟨fun h => ⟨h1, ?_⟩, fun h => hin j h1 h.2⟩⟩
     refine Xf fun h3 => ?_
     have := hout j h3 h2
     have h' : Qb0 b (ts.getD j 0) = Qb0 b (ts.getD f 0) := h
     omega
    ·obtain ⟨a1, a2, a3, a4⟩ := i1 p hp
     refine ⟨by omega, a2, a3, fun j h1 h2 => ?_⟩
     by_cases hj : e < j
     ·exact a4 j hj h2
     ·have k1 := hin j h1 (by omega)
      have k2 := hout p.1 (by omega) (by omega)
      constructor
      ·intro h; omega
      ·intro h; omega
   ·by_cases hj : e < j
    ·obtain ⟨p, hp, hpj⟩ := i2 j hj h2
     exact ⟨p, List.mem_cons_of_mem _ hp, hpj⟩
    ·exact ⟨(f, e), List.mem_cons_self, h1, by show j ≤ e; omega⟩
  ·have e : grpF b ts l f = [] := by
    unfold grpF grpP
    rw [if_neg hfl]
   rw [e]
   exact ⟨fun p hp => (by cases hp), fun j h1 h2 => (by omega)⟩
def seg (ts : List Int) (f l : Nat) : List Int := (List.range' f (l + 1 - f)).map fun j => ts.getD j 0
theorem Qg7 {ts : List Int} {f l : Nat} {k : Int} : k ∈ seg ts f l ↔ ∃ j, f ≤ j ∧ j ≤ l ∧ ts.getD j 0 = k := by
 unfold seg
 rw [List.mem_map]
 constructor
 ·rintro ⟨j, hj, rfl⟩
  rw [Xr] at hj
  exact ⟨j, hj.1, by omega, rfl⟩
 ·rintro ⟨j, h1, h2, rfl⟩
  exact ⟨j, Xr.2 (by omega), rfl⟩
theorem Qt7 {p : Int → Bool} {L : List Int} (h : ∀ x ∈ L, 0 ≤ x) : 0 ≤ (L.find? p).getD (-1) ↔ L.any p = true := by
 cases hf : L.find? p with
 | none =>
  rw [Xc] at hf
  simp only [Zw, Zh]
  constructor
  ·intro h; omega
  ·rintro ⟨x, hx, hp⟩; exact absurd hp (hf x hx)
 | some x =>
  have h1 := Xt hf
  have h2 := Xd hf
  simp only [Qw, Zh]
  exact ⟨fun _ => ⟨x, h2, h1⟩, fun _ => h x h2⟩
theorem Qq1 {c : Cane} {w : Span} {ts : List Int} (hs : ts.Pairwise (· < ·)) (hk : ∀ k ∈ ts, 0 ≤ k ∧ k ≤ 500) :
  ∀ (n : Nat) (a num : Int) (f l : Nat), 0 ≤ num → f ≤ l → l < ts.length → (0 ≤ Qh9 c w ts n a num f l ↔ Qfb c w n a num (seg ts f l) = true) := by
 have hkd : ∀ j, j < ts.length → 0 ≤ ts.getD j 0 ∧ ts.getD j 0 ≤ 500 := fun j hj => hk _ (Qdn hj)
 have hmn : ∀ b, 0 ≤ b → ∀ i j : Nat, i ≤ j → j < ts.length → Qb0 b (ts.getD i 0) ≤ Qb0 b (ts.getD j 0) := by
  intro b hb i j hij hj
  refine Qks hb (hkd i (by omega)).1 ?_
  by_cases e : i = j
  ·rw [e]; exact Zk _
  ·have := Zx.1 hs i j (by omega) hj (by omega)
   simp only [Qk]
   rw [Qz (show i < ts.length by omega), Qz hj]
   simp only [Qw]; omega
 intro n
 induction n with
 | zero =>
  intro a num f l _ _ _
  rw [Qh9, Qfb]
  split
  ·rename_i h; simp [h]
  ·rename_i h; simp [h]
 | succ n ih =>
  intro a num f l hnum hfl hl
  have hne : seg ts f l ≠ [] := Z4 (Qg7.2 ⟨f, Zf _, hfl, rfl⟩)
  have hin : ∀ k ∈ seg ts f l, 0 ≤ k ∧ k ≤ 500 := fun k hk' => by
   obtain ⟨j, j1, j2, rfl⟩ := Qg7.1 hk'
   exact hkd j (by omega)
  by_cases hw : Qak a w.low w.high = true
  ·rw [Qh9, if_pos hw, Qfb, hw]; simp
  ·by_cases hh : w.high < a
   ·rw [Qh9, if_neg hw, if_pos hh, Qo1 _ _ _ _ hh hne hin]; simp
   ·rw [Qh9, if_neg hw, if_neg hh, Qfb, Qt7 (fun x hx => by rw [Qdx] at hx; omega)]
    simp only [hw, Xe]
    rw [Zh, Zh]
    have key : ∀ b ∈ ints 1 (Qbz c num), ((grpF b ts l f).all fun p => decide (0 ≤ Qh9 c w ts n (a + b - Qb0 b (ts.getD p.1 0)) (num + 1) p.1 p.2)) = true ↔
      ((seg ts f l).all fun k => Qfb c w n (a + b - Qb0 b k) (num + 1) ((seg ts f l).filter fun k' => decide (Qb0 b k' = Qb0 b k))) = true := by
     intro b hb
     rw [Qdx] at hb
     obtain ⟨s1, s2⟩ := Qrb (b := b) (ts := ts) (l := l) (fun i j h1 h2 => hmn b (by omega) i j h1 (by omega)) (l + 1) f (by omega)
     have hset : ∀ p ∈ grpF b ts l f, ∀ j, p.1 ≤ j → j ≤ p.2 → (Qfb c w n (a + b - Qb0 b (ts.getD p.1 0)) (num + 1) (seg ts p.1 p.2) = Qfb c w n (a + b - Qb0 b (ts.getD j 0)) (num + 1) ((seg ts f l).filter fun k' => decide (Qb0 b k' = Qb0 b (ts.getD j 0)))) := by
      intro p hp j j1 j2
      obtain ⟨a1, a2, a3, a4⟩ := s1 p hp
      have ej : Qb0 b (ts.getD j 0) = Qb0 b (ts.getD p.1 0) := (a4 j (by omega) (by omega)).2 ⟨j1, j2⟩
      rw [ej]
      refine Qlh (by omega) fun k => ?_
      rw [Z9, Qg7, Qg7, decide_eq_true_eq]
      constructor
      ·rintro ⟨i, i1, i2, rfl⟩
       exact ⟨⟨i, by omega, by omega, rfl⟩, (a4 i (by omega) (by omega)).2 ⟨i1, i2⟩⟩
      ·rintro ⟨⟨i, i1, i2, rfl⟩, h⟩
       have := (a4 i i1 i2).1 h
       exact ⟨i, this.1, this.2, rfl⟩
     rw [Z1, Z1]
     constructor
     ·intro h k hk'
      obtain ⟨j, j1, j2, rfl⟩ := Qg7.1 hk'
      obtain ⟨p, hp, p1, p2⟩ := s2 j j1 j2
      obtain ⟨a1, a2, a3, a4⟩ := s1 p hp
      have := h p hp
      rw [decide_eq_true_eq, ih _ _ _ _ (by omega) a2 (by omega), hset p hp j p1 p2] at this
      exact this
     ·intro h p hp
      obtain ⟨a1, a2, a3, a4⟩ := s1 p hp
      rw [decide_eq_true_eq, ih _ _ _ _ (by omega) a2 (by omega), hset p hp p.1 (Zf _) a2]
      exact h _ (Qg7.2 ⟨p.1, a1, by omega, rfl⟩)
    constructor
    ·rintro ⟨b, hb, h⟩; exact ⟨b, hb, (key b hb).1 h⟩
    ·rintro ⟨b, hb, h⟩; exact ⟨b, hb, (key b hb).2 h⟩
def Qre (c : Cane) (w : Span) (n : Nat) : Bool := Qfb c w n 0 0 (Qa1 c)
theorem Qq0 {c : Cane} (hC : OkC c) (ht : Qa1 c ≠ []) (w : Span) (n : Nat) : 0 ≤ Qkb c w n ↔ Qre c w n = true := by
 have hpos := Zm.2 ht
 have e : Qkb c w n = Qh9 c w (Qa1 c) n 0 0 0 ((Qa1 c).length - 1) := by
  unfold Qkb Qfc Qry
  simp only [Zq]
  rw [show ((((Qa1 c).length : Int) - 1).toNat) = (Qa1 c).length - 1 by omega]; rfl
 rw [e, Qq1 (Qdh c) (fun k hk => Qcx hC hk) n 0 0 0 _ (Zk _) (Nat.zero_le _) (by omega)]
 unfold Qre
 rw [Qlh (Zk _) fun k => ?_]
 rw [Qg7]
 constructor
 ·rintro ⟨j, _, j2, rfl⟩
  exact Qdn (by omega)
 ·intro hk
  obtain ⟨j, hj, rfl⟩ := Xj.1 hk
  exact ⟨j, Nat.zero_le _, by omega, by rw [Qk, Qz hj]; rfl⟩
theorem Qli {c : Cane} (hC : OkC c) (ht : Qa1 c ≠ []) (w : Span) : Qj0 c w = (Z0 7).find? fun n => Qre c w n := by
 unfold Qj0
 congr 1
 funext n
 rw [Xs, decide_eq_true_eq]
 exact Qq0 hC ht w n
end Go.C06
set_option linter.unusedSimpArgs false
set_option linter.unusedVariables false
namespace Go.C06
open Go.Fam Go.Proofs
theorem Qnf {c : Cane} (hC : OkC c) {w : Span} (hw : Qb1 w 540 = true) : stE c w [] = if Qa1 c = [] then 3 else 0 := Qiu hC hw (Qsx c)
theorem Qm7 {c : Cane} (hC : OkC c) {w : Span} (hw : Qb1 w 540 = true) : ((fewR c w).2 = 3 ∧ (fewR c w).1 = 0) ∨ ∃ n, Qa1 c ≠ [] ∧ fewN c w = some n ∧ fewR c w = ((n : Int), 0) := by
 have e := Qnf hC hw
 by_cases ht : Qa1 c = []
 ·rw [if_pos ht] at e
  left; unfold fewR; rw [e]; exact ⟨rfl, rfl⟩
 ·rw [if_neg ht] at e
  unfold fewR
  rw [if_pos e]
  cases hf : fewN c w with
  | none => left; exact ⟨rfl, rfl⟩
  | some n => right; exact ⟨n, ht, rfl, rfl⟩
theorem Qvo {c : Cane} (hC : OkC c) {w : Span} (hw : Qb1 w 540 = true) (ht : Qa1 c ≠ []) {n : Nat} (h : fewN c w = some n) : fewR c w = ((n : Int), 0) := by
 have e := Qnf hC hw
 rw [if_neg ht] at e
 unfold fewR
 rw [if_pos e, h]
theorem Qk6 {c : Cane} (hC : OkC c) {w : Span} (hw : Qb1 w 540 = true) : ((Qbv c w).2.2 = 3 ∧ (Qbv c w).1 = 0 ∧ (Qbv c w).2.1 = 0) ∨ ∃ n, Qa1 c ≠ [] ∧ Qj0 c w = some n ∧ Qbv c w = ((n : Int), Qkb c w n, 0) := by
 have e := Qnf hC hw
 by_cases ht : Qa1 c = []
 ·rw [if_pos ht] at e
  left; unfold Qbv; rw [e]; exact ⟨rfl, rfl, rfl⟩
 ·rw [if_neg ht] at e
  unfold Qbv
  rw [if_pos e]
  cases hf : Qj0 c w with
  | none => left; exact ⟨rfl, rfl, rfl⟩
  | some n => right; exact ⟨n, ht, rfl, rfl⟩
theorem Qth {c : Cane} (hC : OkC c) {w : Span} (hw : Qb1 w 540 = true) (ht : Qa1 c ≠ []) {n : Nat} (h : Qj0 c w = some n) : Qbv c w = ((n : Int), Qkb c w n, 0) := by
 have e := Qnf hC hw
 rw [if_neg ht] at e
 unfold Qbv
 rw [if_pos e, h]
theorem Qxb {p : Nat → Bool} {n : Nat} (hn : n < 7) (h : p n = true) : ∃ m, m ≤ n ∧ (Z0 7).find? p = some m := by
 cases hf : (Z0 7).find? p with
 | none =>
  rw [Xc] at hf
  exact absurd h (hf n (by simpa using hn))
 | some m =>
  refine ⟨m, Xf fun hlt => ?_, rfl⟩
  rw [Z7] at hf
  obtain ⟨h1, i, hi, he, h3⟩ := hf
  simp only [Xm] at he h3
  subst he
  have := h3 n hlt
  rw [h] at this
  cases this
theorem Qr7 {p : Nat → Bool} {n : Nat} (h : (Z0 7).find? p = some n) : n < 7 ∧ p n = true := by
 have h1 := Xd h
 have h2 := Xt h
 exact ⟨by simpa using h1, h2⟩
theorem Qnh {c : Cane} (hC : OkC c) (ht : Qa1 c ≠ []) {w : Span} {l : List Int} : Sure c w l ↔ Poss c l ∧ ∀ k ∈ Qa1 c, Qak (Qav l k) w.low w.high = true := by
 constructor
 ·rintro ⟨h1, h2⟩
  refine ⟨h1, fun k hk => ?_⟩
  have := (Qjt hC ht h1.in_ w).2 h2
  unfold Qc3 at this
  rw [Zu] at this
  exact this k hk
 ·rintro ⟨h1, h2⟩
  refine ⟨h1, (Qjt hC ht h1.in_ w).1 ?_⟩
  unfold Qc3
  rw [Zu]
  exact h2
structure Bett (c c' : Cane) (w w' : Span) : Prop where
 o1 : OkC c
 o2 : OkC c'
 w1 : Qb1 w 540 = true
 w2 : Qb1 w' 540 = true
 ne : Qa1 c' ≠ []
 sub : ∀ k ∈ Qa1 c', k ∈ Qa1 c
 most : ∀ i : Int, 0 ≤ i → Qbz c i ≤ Qbz c' i
 wide : w'.low ≤ w.low ∧ w.high ≤ w'.high
theorem Bett.few {c c' : Cane} {w w' : Span} (h : Bett c c' w w') (h0 : (fewR c w).2 = 0) : (fewR c' w').2 = 0 ∧ (fewR c' w').1 ≤ (fewR c w).1 := by
 rcases Qm7 h.o1 h.w1 with h1 | ⟨n, ht, h1, h2⟩
 ·rw [h1.1] at h0; cases h0
 ·obtain ⟨k1, ⟨l, k2, k3⟩, k4⟩ := Qge.1 h1
  have hs : Sure c' w' l := by
   rw [Qnh h.o2 h.ne]
   rw [Qnh h.o1 ht] at k2
   refine ⟨fun i hi => ?_, fun k hk => ?_⟩
   ·have := k2.1 i hi
    have := h.most i (by omega)
    omega
   ·have := k2.2 k (h.sub k hk)
    have := h.wide
    simp only [Qak, Zg, decide_eq_true_eq] at *
    omega
  cases hf : fewN c' w' with
  | none =>
   have := Qi6.1 hf l hs
   omega
  | some m =>
   have := (Qge.1 hf).2.2 l hs
   rw [Qvo h.o2 h.w2 h.ne hf, h2]
   exact ⟨rfl, by show (m : Int) ≤ n; omega⟩
theorem Bett.meas {c c' : Cane} {w w' : Span} (h : Bett c c' w w') (h0 : (Qbv c w).2.2 = 0) : (Qbv c' w').2.2 = 0 ∧ (Qbv c' w').1 ≤ (Qbv c w).1 := by
 rcases Qk6 h.o1 h.w1 with h1 | ⟨n, ht, h1, h2⟩
 ·rw [h1.1] at h0; cases h0
 ·rw [Qli h.o1 ht] at h1
  obtain ⟨k1, k2⟩ := Qr7 h1
  have k3 : Qre c' w' n = true := Qh6 h.most h.wide n 0 0 _ _ (Zk _) h.sub k2
  obtain ⟨m, hm, hf⟩ := Qxb k1 k3
  rw [← Qli h.o2 h.ne] at hf
  rw [Qth h.o2 h.w2 h.ne hf, h2]
  exact ⟨rfl, by show (m : Int) ≤ n; omega⟩
theorem Qrr {c : Cane} (h : Qfz c = true) : OkC c := by
 unfold Qfz at h
 rw [Zg, decide_eq_true_eq] at h
 exact Qeg.1 h.2
end Go.C06
set_option linter.unusedSimpArgs false
set_option linter.unusedVariables false
namespace Go.C06
open Go.Fam Go.Proofs
end Go.C06
set_option linter.unusedSimpArgs false
set_option linter.unusedVariables false
namespace Go.C06
open Go.Fam Go.Proofs
end Go.C06
set_option maxRecDepth 8000
namespace Go.C06
open Go.Fam Go.Proofs
end Go.C06
set_option linter.unusedSimpArgs false
set_option linter.unusedVariables false
namespace Go.C06
open Go.Fam Go.Proofs
end Go.C06
set_option maxRecDepth 8000
namespace Go.C06
open Go.Fam Go.Proofs
end Go.C06
set_option linter.unusedSimpArgs false
set_option linter.unusedVariables false
namespace Go.C06
open Go.Fam Go.Proofs
end Go.C06
set_option linter.unusedSimpArgs false
set_option linter.unusedVariables false
namespace Go.C06
open Go.Fam Go.Proofs
end Go.C06
set_option maxRecDepth 8000
namespace Go.C06
open Go.Fam Go.Proofs
end Go.C06
set_option linter.unusedSimpArgs false
set_option linter.unusedVariables false
namespace Go.C06
open Go.Fam Go.Proofs
end Go.C06
set_option maxRecDepth 8000
namespace Go.C06
open Go.Fam Go.Proofs
end Go.C06
set_option linter.unusedSimpArgs false
set_option linter.unusedVariables false
namespace Go.C06
open Go.Fam Go.Proofs
end Go.C06
set_option maxRecDepth 8000
namespace Go.C06
open Go.Fam Go.Proofs
def rc11 : RC := (.seq (.reg false [(cX 3 0), (cX 4 1), (cX 5 2), (cQ 6 [] (.mv (kB false)))]) (.keep [3,4,5] (.seq (.seq (.reg true [(cLd 25 3 true 6), (cQ 26 [25] (.call (kF 22) [(.t 25)])), (cN 27 26), (cMv 28 27), (gQ 29 28 false [5] (.fad 0 (.t 5))), (gQ 30 28 false [29] (.fad 1 (.t 29))), (gQ 31 28 false [30] (.ld true 2 (.t 30))), (gQ 32 28 false [31] (.call (kF 23) [(.t 31)])), (gQ 33 28 false [32] (.not (.t 32))), (cQ 34 [28,33] (.pick (.t 28) (kB true) (.t 33))), (cMv 35 34), (gQ 36 35 false [3] (.ld true 6 (.t 3))), (gQ 37 35 false [5] (.fad 0 (.t 5))), (gQ 38 35 false [37] (.fad 0 (.t 37))), (gQ 39 35 false [38] (.ld false 1 (.t 38))), (gQ 40 35 false [36,39] (.call (kF 17) [(.t 36), (.t 39)])), (gQ 41 35 false [40] (.not (.t 40))), (cQ 42 [35,41] (.pick (.t 35) (kB true) (.t 41))), (cMv 43 42), (gQ 44 43 false [3] (.fad 2 (.t 3))), (gQ 45 43 false [44] (.ld false 1 (.t 44))), (gQ 46 43 false [45] (.len (.t 45))), (gQ 47 43 false [46] (.bin .geq (.t 46) (kI 8))), (cQ 48 [43,47] (.pick (.t 43) (kB true) (.t 47))), (cMv 49 48), (gQ 50 49 false [5] (.fad 3 (.t 5))), (gQ 51 49 false [50] (.ld false 1 (.t 50))), (gQ 52 49 false [51] (.bin .lss (.t 51) (kI 0))), (cQ 53 [49,52] (.pick (.t 49) (kB true) (.t 52))), (cMv 54 53), (gQ 55 54 false [5] (.fad 3 (.t 5))), (gQ 56 54 false [55] (.ld false 1 (.t 55))), (gQ 57 54 false [5] (.fad 0 (.t 5))), (gQ 58 54 false [57] (.fad 1 (.t 57))), (gQ 59 54 false [58] (.fad 0 (.t 58))), (gQ 60 54 false [59] (.ld false 1 (.t 59))), (gQ 61 54 false [56,60] (.bin .gtr (.t 56) (.t 60))), (cQ 62 [54,61] (.pick (.t 54) (kB true) (.t 61))), (cMv 63 62), (gQ 64 63 false [5] (.fad 4 (.t 5))), (gQ 65 63 false [64] (.ld false 1 (.t 64))), (gQ 66 63 false [65] (.bin .lss (.t 65) (kI 0))), (cQ 67 [63,66] (.pick (.t 63) (kB true) (.t 66))), (cMv 68 67), (gQ 69 68 false [5] (.fad 4 (.t 5))), (gQ 70 68 false [69] (.ld false 1 (.t 69))), (gQ 71 68 false [5] (.fad 0 (.t 5))), (gQ 72 68 false [71] (.fad 1 (.t 71))), (gQ 73 68 false [72] (.fad 1 (.t 72))), (gQ 74 68 false [73] (.ld false 1 (.t 73))), (gQ 75 68 false [74] (.bin .sub (kI 540) (.t 74))), (gQ 76 68 false [70,75] (.bin .gtr (.t 70) (.t 75))), (cQ 77 [68,76] (.pick (.t 68) (kB true) (.t 76)))]) (.keep [3,4,5,77] (.cond (.t 77) (.seq (.reg false [(cQ 78 [] (.call (kF 18) [])), (cMv 6 78)]) .ret) .skip))) (.keep [3,4,5] (.seq (.reg false [(cFa 79 5 0), (cFa 80 79 1), (cFa 81 80 0), (cLd 82 81 false 1), (cFa 83 5 3), (cLd 84 83 false 1), (cB 85 .sub 82 84), (cFa 86 5 0), (cFa 87 86 1), (cFa 88 87 1), (cLd 89 88 false 1), (cFa 90 5 4), (cLd 91 90 false 1), (cB 92 .add 89 91), (cQ 93 [85,92] (.bld [(.i 0), (.i 0)] [(0,1, (.t 85)), (1,1, (.t 92))])), ⟨(some 7), none, [], none, .w (.alc [(.i 0), (.i 0)])⟩, ⟨none, none, [7,93], none, .w (.st 2 (.t 7) (.t 93))⟩]) (.keep [3,4,5,7] (.seq (.reg false [(cLd 95 3 true 6), (cFa 96 5 0), (cFa 97 96 1), (cLd 98 97 true 2), (cQ 99 [95,98] (.call (kF 25) [(.t 95), (.t 98)])), (cMv 94 99), (cEx 100 94 0), (cEx 101 94 1), (cMv 8 100), (cMv 9 101)]) (.keep [3,4,5,7,8,9] (.seq (.reg false [(cLd 103 3 true 6), (cFa 104 5 0), (cFa 105 104 1), (cLd 106 105 true 2), (cQ 107 [103,106] (.call (kF 26) [(.t 103), (.t 106)])), (cMv 102 107), (cEx 108 102 0), (cEx 109 102 1), (cMv 10 108), (cMv 11 109)]) (.keep [3,4,5,7,8,9,10,11] (.seq (.reg false [(cLd 111 3 true 6), (cLd 112 7 true 2), (cQ 113 [111,112] (.call (kF 25) [(.t 111), (.t 112)])), (cMv 110 113), (cEx 114 110 0), (cEx 115 110 1), (cMv 12 114), (cMv 13 115)]) (.keep [3,4,5,7,8,9,10,11,12,13] (.seq (.reg false [(cLd 117 3 true 6), (cLd 118 7 true 2), (cQ 119 [117,118] (.call (kF 26) [(.t 117), (.t 118)])), (cMv 116 119), (cEx 120 116 0), (cEx 121 116 1), (cMv 14 120), (cMv 15 121)]) (.keep [3,4,5,8,9,10,11,12,13,14,15] (.seq (.seq (.reg true [(cMv 122 9), (cC 123 .eql 122 0), (cMv 124 123), (gMv 125 124 true 13), (gQ 126 124 true [125] (.bin .neq (.t 125) (kI 0))), (gMv 127 124 true 126), (gMv 128 127 false 12), (gMv 129 127 false 8), (gQ 130 127 false [128,129] (.bin .gtr (.t 128) (.t 129))), (gQ 131 124 true [127,130] (.pick (.t 127) (kB true) (.t 130))), (cQ 132 [124,131] (.pick (.t 124) (.t 131) (kB false))), (cMv 133 132), (gMv 134 133 false 11), (gQ 135 133 false [134] (.bin .eql (.t 134) (kI 0))), (gMv 136 133 false 135), (gMv 137 136 true 15), (gQ 138 136 true [137] (.bin .neq (.t 137) (kI 0))), (gMv 139 136 true 138), (gMv 140 139 false 14), (gMv 141 139 false 10), (gQ 142 139 false [140,141] (.bin .gtr (.t 140) (.t 141))), (gQ 143 136 true [139,142] (.pick (.t 139) (kB true) (.t 142))), (gQ 144 133 false [136,143] (.pick (.t 136) (.t 143) (kB false))), (cQ 145 [133,144] (.pick (.t 133) (kB true) (.t 144)))]) (.keep [3,4,5,8,9,10,11,145] (.cond (.t 145) (.seq (.reg false [(cQ 6 [] (.mv (kB false)))]) .ret) .skip))) (.keep [3,4,5,8,9,10,11] (.seq (.reg false [(cLd 146 3 true 6), ⟨(some 147), none, [146], none, .o (kF 24) [(.t 146)]⟩, ⟨(some 16), none, [], none, .w (.alc [(.i 0), (.i 0), (.z 3), (.i 0), (.i 0), (.i 0)])⟩, ⟨none, none, [16,147], none, .w (.st 6 (.t 16) (.t 147))⟩]) (.keep [3,4,5,8,9,10,11,16] (.seq (.reg false [(cFa 148 16 2), (cLd 149 148 false 1), (cLd 150 4 true 3), (cQ 151 [150] (.bsl 3 1 [(.i 0), (.i 0), (.i 0)] [(0,3, (.t 150))])), ⟨(some 152), none, [149,151], none, .w (.app 3 (.t 149) (.t 151))⟩, (cFa 153 16 2), ⟨none, none, [153,152], none, .w (.st 1 (.t 153) (.t 152))⟩]) (.keep [3,5,8,9,10,11,16] (.seq (.seq (.drp 0 (.reg true [(cLd 154 16 true 6), (cQ 155 [154] (.call (kF 16) [(.t 154)])), (cC 156 .neq 155 0), (cMv 157 156), (gQ 158 157 false [16] (.ld true 6 (.t 16))), (gQ 159 157 false [158] (.call (kF 42) [(.t 158)])), (gQ 160 157 false [159] (.len (.t 159))), (gQ 161 157 false [160] (.bin .eql (.t 160) (kI 0))), (cQ 162 [157,161] (.pick (.t 157) (kB true) (.t 161)))])) (.keep [3,5,8,9,10,11,16,162] (.cond (.t 162) (.seq (.reg false [(cQ 163 [] (.call (kF 18) [])), (cMv 6 163)]) .ret) .skip))) (.keep [3,5,8,9,10,11,16] (.seq (.reg false [(cLd 165 3 true 6), (cFa 166 5 0), (cFa 167 166 0), (cLd 168 167 false 1), (cQ 169 [165,168] (.call (kF 20) [(.t 165), (.t 168)])), (cMv 164 169), (cEx 170 164 0), (cEx 171 164 1), ⟨(some 17), none, [], none, .w (.alc [(.i 0), (.i 0)])⟩, ⟨none, none, [17,170], none, .w (.st 2 (.t 17) (.t 170))⟩, (cMv 18 171)]) (.keep [3,5,8,9,10,11,16,17,18] (.seq (.reg false [(cLd 173 16 true 6), (cFa 174 5 0), (cFa 175 174 0), (cLd 176 175 false 1), (cQ 177 [173,176] (.call (kF 20) [(.t 173), (.t 176)])), (cMv 172 177), (cEx 178 172 0), (cEx 179 172 1), ⟨(some 19), none, [], none, .w (.alc [(.i 0), (.i 0)])⟩, ⟨none, none, [19,178], none, .w (.st 2 (.t 19) (.t 178))⟩, (cMv 20 179)]) (.keep [3,5,8,9,10,11,16,17,18,19,20] (.seq (.reg false [(cLd 181 3 true 6), (cFa 182 5 0), (cFa 183 182 0), (cLd 184 183 false 1), (cFa 185 5 0), (cFa 186 185 1), (cLd 187 186 true 2), (cQ 188 [181,184,187] (.call (kF 43) [(.t 181), (.t 184), (.t 187)])), (cMv 180 188), (cEx 189 180 0), (cEx 190 180 1), (cMv 21 189), (cMv 22 190)]) (.keep [5,8,9,10,11,16,17,18,19,20,21,22] (.seq (.reg false [(cLd 192 16 true 6), (cFa 193 5 0), (cFa 194 193 0), (cLd 195 194 false 1), (cFa 196 5 0), (cFa 197 196 1), (cLd 198 197 true 2), (cQ 199 [192,195,198] (.call (kF 43) [(.t 192), (.t 195), (.t 198)])), (cMv 191 199), (cEx 200 191 0), (cEx 201 191 1), (cMv 23 200), (cMv 24 201)]) (.keep [5,8,9,10,11,16,17,18,19,20,21,22,23,24] (.seq (.seq (.reg true [(cMv 202 18), (cC 203 .neq 202 0), (cMv 204 203), (gMv 205 204 false 20), (gQ 206 204 false [205] (.bin .neq (.t 205) (kI 0))), (cQ 207 [204,206] (.pick (.t 204) (kB true) (.t 206))), (cMv 208 207), (gMv 209 208 false 22), (gQ 210 208 false [209] (.bin .neq (.t 209) (kI 0))), (cQ 211 [208,210] (.pick (.t 208) (kB true) (.t 210))), (cMv 212 211), (gMv 213 212 false 24), (gQ 214 212 false [213] (.bin .neq (.t 213) (kI 0))), (cQ 215 [212,214] (.pick (.t 212) (kB true) (.t 214))), (cMv 216 215), (gQ 217 216 false [17] (.ld true 2 (.t 17))), (gQ 218 216 false [19] (.ld true 2 (.t 19))), (gQ 219 216 false [217,218] (.call (kF 45) [(.t 217), (.t 218)])), (gQ 220 216 false [219] (.not (.t 219))), (cQ 221 [216,220] (.pick (.t 216) (kB true) (.t 220))), (cMv 222 221), (gMv 223 222 false 21), (gQ 224 222 false [223] (.bin .neq (.t 223) (kI 3))), (gMv 225 222 false 224), (gMv 226 225 true 21), (gMv 227 225 true 23), (gQ 228 225 true [226,227] (.bin .neq (.t 226) (.t 227))), (gQ 229 222 false [225,228] (.pick (.t 225) (.t 228) (kB false))), (cQ 230 [222,229] (.pick (.t 222) (kB true) (.t 229)))]) (.keep [5,8,9,10,11,16,230] (.cond (.t 230) (.seq (.reg false [(cQ 6 [] (.mv (kB false)))]) .ret) .skip))) (.keep [5,8,9,10,11,16] (.seq (.reg false [(cLd 232 16 true 6), (cFa 233 5 0), (cFa 234 233 1), (cLd 235 234 true 2), (cQ 236 [232,235] (.call (kF 25) [(.t 232), (.t 235)])), (cMv 231 236), (cEx 237 231 0), (cEx 238 231 1), (cMv 12 237), (cMv 13 238)]) (.keep [5,8,9,10,11,12,13,16] (.seq (.reg false [(cLd 240 16 true 6), (cFa 241 5 0), (cFa 242 241 1), (cLd 243 242 true 2), (cQ 244 [240,243] (.call (kF 26) [(.t 240), (.t 243)])), (cMv 239 244), (cEx 245 239 0), (cEx 246 239 1), (cMv 14 245), (cMv 15 246)]) (.keep [8,9,10,11,12,13,14,15] (.seq (.reg true [(cMv 247 9), (cC 248 .neq 247 0), (cMv 249 248), (gMv 250 249 false 13), (gQ 251 249 false [250] (.bin .eql (.t 250) (kI 0))), (gMv 252 249 false 251), (gMv 253 252 true 12), (gMv 254 252 true 8), (gQ 255 252 true [253,254] (.bin .leq (.t 253) (.t 254))), (gQ 256 249 false [252,255] (.pick (.t 252) (.t 255) (kB false))), (cQ 257 [249,256] (.pick (.t 249) (kB true) (.t 256))), (cMv 258 257), (gMv 259 258 true 11), (gQ 260 258 true [259] (.bin .neq (.t 259) (kI 0))), (gMv 261 258 true 260), (gMv 262 261 false 15), (gQ 263 261 false [262] (.bin .eql (.t 262) (kI 0))), (gMv 264 261 false 263), (gMv 265 264 true 14), (gMv 266 264 true 10), (gQ 267 264 true [265,266] (.bin .leq (.t 265) (.t 266))), (gQ 268 261 false [264,267] (.pick (.t 264) (.t 267) (kB false))), (gQ 269 258 true [261,268] (.pick (.t 261) (kB true) (.t 268))), (cQ 270 [258,269] (.pick (.t 258) (.t 269) (kB false))), (cMv 271 270), (gQ 272 271 true [] (.call (kF 18) [])), (cQ 273 [271,272] (.pick (.t 271) (.t 272) (kB false))), (cMv 6 273)]) .ret)))))))))))))))))))))))))))))))))))))
def pu11 : List Nat := [1000147,3,4,5,151]
def rs11 : List RV := [.t 6]
theorem cc11 : CCx Try.prog Try.f11 pu11 rc11 := by unfold CCx; kernel_rfl
theorem cb11 : CBx Try.f11 := by unfold CBx; kernel_rfl
theorem cs11 : CSx Try.prog Try.f11 rs11 := by unfold CSx; kernel_rfl
theorem cn11 : 3 ≤ Try.f11.ntmps := by decide
end Go.C06
set_option linter.unusedSimpArgs false
set_option linter.unusedVariables false
namespace Go.C06
open Go.Fam Go.Proofs
def Qdg (c : Cane) : List V := [.i c.spring.low, .i c.spring.high, .rf 2 1 0 c.bents.length 3, .i c.wrong, .i c.limit, .i c.tire]
def Qdu (c : Cane) : List V := [bV (.cells 0 (Qdg c)), bV (.cells 0 (Qdg c)), bV (.cells 1 (c.bents.map eBent).flatten)]
theorem W24o (c : Cane) (h : c.bents.length ≤ 1000000) : Qez Try.prog 24 [.ag (Qa8 c)] (.ag (Qdg c)) ((Qdu c).map vB) := by
 refine Qka Qhq hmix Try.func24 cb24 cc24 cs24 cn24 ?_
 have hfl : Qc1 c.bents.length := by unfold Qc1; omega
 simp only [rc24, rs24, Za, Qy, hfl, Zf, Qdu, Qdg, Qaa, Qab, Qac, Qa7, Qaj, putB, endO, Qaf, Qa6, Qa2, Fam.step, Qag, Qbi, Qat, putB, nv, sv, Qc9, evO, opv, qv, ldV, curG, Qan, putAt, Qaz, Qb5, V.cells, Qas, Qb2, Qa9, Qa5, Qa3, Qar, Qa0, Qa4, ↓reduceIte, Nat.reduceEqDiff, Nat.reduceAdd, Nat.reduceMul, Nat.reduceLeDiff, Qc, Qe, Qs, Qu, Qb, Qf, Qg, Qo, Q8, Qd, Qx, Qt, Ql, Q0, Qy, Qh, Qm, Qq, Q1, Q5, Qr, rvs, rv1, resV, vw_i, Qb3, Qax, zipA, beq_self_eq_true, Qj, Qp, Qn, Qa, and_self, Qi, Qa8]
noncomputable def K9 : Gam := K2.ext 1000024 (fnG eC1 dC1 fewB (fun c => c) fun c => .tp [.ag (Qdg c), .tp (Qdu c)])
theorem okK9 : GOk Try.prog K9 := by
 exact okK2.extO (f := 24) (r := fnG eC1 dC1 fewB (fun c => c) fun c => .tp [.ag (Qdg c), .tp (Qdu c)]) (fun a w => Try.call24 a w) fun vs v bs h1 h2 => by
  simp only [fnG, V.tp.injEq, List.cons.injEq, and_true] at h1 h2
  obtain ⟨h3, h4⟩ := h2
  rw [← h1.1, ← h3, ← h4]
  exact W24o _ h1.2
theorem k24o (c : Cane) : K9 1000024 [.ag (Qa8 c)] = (fewB c, .tp [.ag (Qdg c), .tp (Qdu c)]) :=
 (show K9 1000024 _ = fnG eC1 dC1 fewB (fun c => c) (fun c => .tp [.ag (Qdg c), .tp (Qdu c)]) (eC1 c) from rfl).trans (Qba _ (Qi3 _))
theorem Qwy (c : Cane)  : K9 22 [.ag (Qa8 c)] = (True, .b (Qfz c)) := k22 c
theorem Qwz (w : Span)  : K9 23 [.ag (Qap w)] = (True, .b (Qb1 w 540)) := k23 w
theorem Qx0 (w v : Span)  : K9 45 [.ag (Qap w), .ag (Qap v)] = (True, .b (Qg1 w v)) := k45 w v
theorem Qww (c : Cane) (l : List Int)  : K9 17 [.ag (Qa8 c), .sl 1 (l.map eI)] = (OkC c, .b (areB c l)) := h17 c l
theorem Qwv (c : Cane)  : K9 16 [.ag (Qa8 c)] = (True, .i (Qbx c)) := h16 c
theorem Qdf  : K9 18 [] = (True, .b true) := h18
theorem Qv6 (c : Cane) (l : List Int)  : K9 20 [.ag (Qa8 c), .sl 1 (l.map eI)] = (True, .tp [.ag (Qap (Qbu c l).1), .i (Qbu c l).2]) := h20 c l
theorem Qsu (c : Cane) (w : Span)  : K9 25 [.ag (Qa8 c), .ag (Qap w)] = (True, .tp [.i (fewR c w).1, .i (fewR c w).2]) := h25 c w
theorem Qsv (c : Cane) (w : Span)  : K9 26 [.ag (Qa8 c), .ag (Qap w)] = (True, .tp [.i (Qbv c w).1, .i (Qbv c w).2.2]) := h26 c w
theorem Qwx (c : Cane)  : K9 42 [.ag (Qa8 c)] = (OkC c, .sl 1 ((Qa1 c).map eI)) := h42 c
theorem Qs7 (c : Cane) (l : List Int) (w : Span)  : K9 43 [.ag (Qa8 c), .sl 1 (l.map eI), .ag (Qap w)] = (True, .tp [.i (Qbp c l w).1, .i (Qbp c l w).2]) := h43f c l w
def Qpr (c : Cane) (b : Bent) : Cane := ⟨c.spring, c.bents ++ [b], c.wrong, c.limit, c.tire⟩
theorem Qmc {c : Cane} {b : Bent} {k : Int} (h : k ∈ Qa1 (Qpr c b)) : k ∈ Qa1 c := by
 rw [Qfp] at h ⊢
 refine ⟨h.1, ?_⟩
 have h2 := h.2
 unfold Qdt Qf4 Qpr at h2
 unfold Qdt Qf4
 simp only [Xn, decide_eq_true_eq] at h2 ⊢
 omega
theorem Qvn {c : Cane} (hC : OkC c) {w : Span} (hw : Qb1 w 540 = true) : (fewR c w).2 = 0 ∨ (fewR c w).2 = 3 := by
 rcases Qm7 hC hw with h | ⟨x, _, _, h⟩
 ·exact .inr h.1
 ·rw [h]; exact .inl rfl
theorem Qtg {c : Cane} (hC : OkC c) {w : Span} (hw : Qb1 w 540 = true) : (Qbv c w).2.2 = 0 ∨ (Qbv c w).2.2 = 3 := by
 rcases Qk6 hC hw with h | ⟨x, _, _, h⟩
 ·exact .inr h.1
 ·rw [h]; exact .inl rfl
def Qem (e g p n : Int) : Prop := e = 0 → g = 0 ∧ p ≤ n
theorem Qmt {c c' : Cane} {w w' : Span} (hC : OkC c) (hw : Qb1 w 540 = true) (hB : Qa1 c ≠ [] → Bett c c' w w') : Qem (fewR c w).2 (fewR c' w').2 (fewR c' w').1 (fewR c w).1 := fun h0 => by
 rcases Qm7 hC hw with h | ⟨_, hne, _⟩
 ·rw [h.1] at h0; cases h0
 ·exact (hB hne).few h0
theorem Qlj {c c' : Cane} {w w' : Span} (hC : OkC c) (hw : Qb1 w 540 = true) (hB : Qa1 c ≠ [] → Bett c c' w w') : Qem (Qbv c w).2.2 (Qbv c' w').2.2 (Qbv c' w').1 (Qbv c w).1 := fun h0 => by
 rcases Qk6 hC hw with h | ⟨_, hne, _⟩
 ·rw [h.1] at h0; cases h0
 ·exact (hB hne).meas h0
theorem Qno {c o : Cane} (hC : OkC c) (hO : OkC o) (hm : ∀ i, Qbz o i = Qbz c i) (hs : ∀ k ∈ Qa1 o, k ∈ Qa1 c) (hne : Qa1 o ≠ []) {l : List Int} (ha : areB c l = true) :
  (Qbu c l).2 = 0 ∧ (Qbu o l).2 = 0 ∧ Qg1 (Qbu c l).1 (Qbu o l).1 = true := by
 have hne' : Qa1 c ≠ [] := fun h => by
  obtain ⟨k, hk⟩ := Z3 _ hne
  have := hs k hk
  rw [h] at this; cases this
 have ha2 : areB o l = true := by
  rw [Qfj hC] at ha
  rw [Qfj hO]
  exact ⟨ha.1, fun i hi => by rw [hm]; exact ha.2 i hi⟩
 have e1 := Qiu hC (w := ⟨0, 0⟩) (by decide) ha
 have e2 := Qiu hO (w := ⟨0, 0⟩) (by decide) ha2
 rw [if_neg hne'] at e1
 rw [if_neg hne] at e2
 have hl := ((Qfj hC l).1 ha).2.in_
 unfold Qbu
 rw [if_pos e1, if_pos e2]
 refine ⟨rfl, rfl, ?_⟩
 have a1 := Qj6 hC hl (hs _ (Z6 (Zm.2 hne)))
 have a2 := Qj6 hC hl (hs _ (Z6 (show (Qa1 o).length - 1 < (Qa1 o).length by have := Zm.2 hne; omega)))
 unfold Qak at a1 a2
 simp only [Zg, decide_eq_true_eq] at a1 a2
 unfold Qg1
 simp only [Zg, decide_eq_true_eq]
 unfold Qj5 at *
 rw [Qk (l := Qa1 o), Qk (l := Qa1 o)]
 have hp := Zm.2 hne
 rw [Qz hp, Qz (show (Qa1 o).length - 1 < (Qa1 o).length by omega)]
 exact ⟨a2.1, a1.2⟩
theorem Qp3 {c o : Cane} {w : Span} (hw : Qb1 w 540 = true) (hC : OkC c) (hO : OkC o) (hm : ∀ i, Qbz o i = Qbz c i) (hs : ∀ k ∈ Qa1 o, k ∈ Qa1 c) (hne : Qa1 o ≠ []) {l : List Int} (ha : areB c l = true) :
  (Qbp c l w).2 = 0 ∧ (Qbp o l w).2 = 0 ∧ ((Qbp c l w).1 = 3 ∨ (Qbp c l w).1 = (Qbp o l w).1) := by
 obtain ⟨k, hk⟩ := Z3 _ hne
 have hkc := hs k hk
 have hne' : Qa1 c ≠ [] := Z4 hkc
 have ha2 : areB o l = true := by
  rw [Qfj hC] at ha
  rw [Qfj hO]
  exact ⟨ha.1, fun i hi => by rw [hm]; exact ha.2 i hi⟩
 have e1 := Qiu hC hw ha
 have e2 := Qiu hO hw ha2
 rw [if_neg hne'] at e1
 rw [if_neg hne] at e2
 refine ⟨(Ql3 hC e1 hkc).1, (Ql3 hO e2 hk).1, ?_⟩
 have f1 : Qbp c l w = (fitK (Qc3 l w (Qa1 c)) (Qa1 c).length, 0) := by unfold Qbp; rw [if_pos e1]
 have f2 : Qbp o l w = (fitK (Qc3 l w (Qa1 o)) (Qa1 o).length, 0) := by unfold Qbp; rw [if_pos e2]
 rw [f1, f2]
 simp only [fitK]
 by_cases g1 : Qc3 l w (Qa1 c) = (Qa1 c).length
 ·right
  rw [if_pos g1]
  unfold Qc3 at g1 ⊢
  rw [Zu] at g1
  rw [if_pos (Zu.2 fun k hk => g1 k (hs k hk))]
 ·rw [if_neg g1]
  by_cases g2 : Qc3 l w (Qa1 c) = 0
  ·right
   rw [if_pos g2]
   unfold Qc3 at g2 ⊢
   rw [Xb] at g2
   have h0 : (Qa1 o).countP (fun k => Qak (Qav l k) w.low w.high) = 0 := Xb.2 fun k hk => g2 k (hs k hk)
   rw [h0, if_neg (by have := Zm.2 hne; omega), if_pos rfl]
  ·left
   rw [if_neg g2]
set_option maxRecDepth 100000 in
set_option maxHeartbeats 8000000 in
theorem P11 (c : Cane) (b : Bent) (l : List Int) (w : Span) (x y : Int) : Qad Try.prog 11 [.ag (Qa8 c), .ag (eBent b), .ag [.sl 1 (l.map eI), .i w.low, .i w.high, .i x, .i y]] (.b true) := by
 refine Qae okK9 hmix Try.func11 cb11 cc11 cs11 cn11 ?_
 have g1 := Qwy c
 have g2 := Qww c l
 have g3 := Qwz w
 unfold Qa8 at g1 g2
 unfold Qap at g3
 by_cases hr : Qfz c = true
 rotate_left
 ·simp only [rc11, rs11, eBent, g1, hr, Qdf, Qaa, Qab, Qah, Qac, Qa7, Qaf, Qa6, Qa2, Fam.step, Qag, Qbd, Qb7, ug, evO, opv, qv, Qam, Qin, binV, ldV, lenV, Qay, V.cells, Qas, Qa9, Qa5, flat, Qa3, Qa0, Qa4, ↓reduceIte, Nat.reduceEqDiff, Nat.reduceAdd, Nat.reduceLT, Nat.reduceLeDiff, Qc, Qe, Qs, Qu, Qb, Qf, Qg, Qo, Qd, Qx, Qt, Ql, Qh, endQ, rvs, rv1, resV, vw_i, vw_b, Qb3, Qax, zipA, Qj, Qp, Qv, Qn, Q3, Zc, Qa, Q2, true_and, and_true, and_self, false_and, forall_const, false_implies, implies_true, reduceCtorEq, beq_false, imp_self, Qi, eBent, Qa8]
 by_cases hw : Qb1 w 540 = true
 rotate_left
 ·simp only [rc11, rs11, eBent, g1, g3, hr, hw, Qdf, Qaa, Qab, Qah, Qac, Qa7, Qaf, Qa6, Qa2, Fam.step, Qag, Qbd, Qb7, ug, evO, opv, qv, Qam, Qin, binV, ldV, lenV, Qay, V.cells, Qas, Qa9, Qa5, flat, Qa3, Qa0, Qa4, ↓reduceIte, Nat.reduceEqDiff, Nat.reduceAdd, Nat.reduceLT, Nat.reduceLeDiff, Qc, Qe, Qs, Qu, Qb, Qf, Qg, Qo, Qd, Qx, Qt, Ql, Qh, endQ, rvs, rv1, resV, vw_i, vw_b, Qb3, Qax, zipA, beq_self_eq_true, Qj, Qp, Qv, Qn, Q3, Zc, Qa, Q2, true_and, and_true, and_self, false_and, forall_const, false_implies, implies_true, reduceCtorEq, beq_false, imp_self, Qi, eBent, Qa8]
 have hC := Qrr hr
 by_cases ha : areB c l = true
 rotate_left
 ·simp only [rc11, rs11, eBent, g1, g2, g3, hr, hw, ha, hC, Qdf, Qaa, Qab, Qah, Qac, Qa7, Qaf, Qa6, Qa2, Fam.step, Qag, Qbd, Qb7, ug, evO, opv, qv, Qam, binV, ldV, lenV, Qay, V.cells, Qas, Qa9, Qa5, flat, Qa3, Qa0, Qa4, ↓reduceIte, Nat.reduceEqDiff, Nat.reduceAdd, Nat.reduceLT, Nat.reduceLeDiff, Qc, Qe, Qs, Qu, Qb, Qf, Qg, Qo, Qd, Qx, Qt, Ql, Qh, endQ, rvs, rv1, resV, vw_i, vw_b, Qb3, Qax, zipA, beq_self_eq_true, Qj, Qp, Qv, Qn, Q3, Zc, Qa, Q2, and_true, and_self, false_and, forall_const, implies_true, reduceCtorEq, beq_false, imp_self, Qi, eBent, Qa8]
 have hW : 0 ≤ w.low ∧ w.low ≤ w.high ∧ w.high ≤ 540 := by
  simp only [Qb1, Qak, Zg, decide_eq_true_eq] at hw; omega
 have hb8 := hC.bents
 by_cases hb : (8 : Int) ≤ c.bents.length
 ·simp only [rc11, rs11, eBent, g1, g2, g3, hr, hw, ha, hC, hb, Qdf, Qaa, Qab, Qah, Qac, Qa7, Qaf, Qa6, Qa2, Fam.step, Qag, Qbd, Qb7, ug, evO, opv, qv, Qam, binV, ldV, lenV, Qay, V.cells, Qas, Qa9, Qa5, flat, Qa3, Qa0, Qa4, ↓reduceIte, Nat.reduceEqDiff, Nat.reduceAdd, Nat.reduceLT, Nat.reduceLeDiff, Qc, Qe, Qs, Qu, Qb, Qf, Qg, Qo, Qd, Qx, Qt, Ql, Qh, endQ, rvs, rv1, resV, vw_i, vw_b, Qb3, Qax, zipA, beq_self_eq_true, Qj, Qp, Qv, Qn, Q3, Qa, Q2, decide_true, and_true, and_self, false_and, forall_const, implies_true, reduceCtorEq, beq_false, imp_self, Qi, eBent, Qa8]
 by_cases h1 : x < 0
 ·simp only [rc11, rs11, eBent, g1, g2, g3, hr, hw, ha, hC, hb, h1, Qdf, Qaa, Qab, Qah, Qac, Qa7, Qaf, Qa6, Qa2, Fam.step, Qag, Qbd, Qb7, ug, evO, opv, qv, Qam, binV, ldV, lenV, Qay, V.cells, Qas, Qa9, Qa5, flat, Qa3, Qa0, Qa4, ↓reduceIte, Nat.reduceEqDiff, Nat.reduceAdd, Nat.reduceLT, Nat.reduceLeDiff, Qc, Qe, Qs, Qu, Qb, Qf, Qg, Qo, Qd, Qx, Qt, Ql, Qh, endQ, rvs, rv1, resV, vw_i, vw_b, Qb3, Qax, zipA, beq_self_eq_true, Qj, Qp, Qv, Qn, Q3, Qa, Q2, decide_true, decide_false, and_true, and_self, false_and, forall_const, implies_true, reduceCtorEq, beq_false, imp_self, Qi, eBent, Qa8]
 by_cases h2 : w.low < x
 ·simp only [rc11, rs11, eBent, g1, g2, g3, hr, hw, ha, hC, hb, h1, h2, Qdf, Qaa, Qab, Qah, Qac, Qa7, Qaf, Qa6, Qa2, Fam.step, Qag, Qbd, Qb7, ug, evO, opv, qv, Qam, binV, ldV, lenV, Qay, V.cells, Qas, Qa9, Qa5, flat, Qa3, Qa0, Qa4, ↓reduceIte, Nat.reduceEqDiff, Nat.reduceAdd, Nat.reduceLT, Nat.reduceLeDiff, Qc, Qe, Qs, Qu, Qb, Qf, Qg, Qo, Qd, Qx, Qt, Ql, Qh, endQ, rvs, rv1, resV, vw_i, vw_b, Qb3, Qax, zipA, beq_self_eq_true, Qj, Qp, Qv, Qn, Q3, Qa, Q2, decide_true, decide_false, and_true, and_self, false_and, forall_const, implies_true, reduceCtorEq, beq_false, imp_self, Qi, eBent, Qa8]
 by_cases h3 : y < 0
 ·simp only [rc11, rs11, eBent, g1, g2, g3, hr, hw, ha, hC, hb, h1, h2, h3, Qdf, Qaa, Qab, Qah, Qac, Qa7, Qaf, Qa6, Qa2, Fam.step, Qag, Qbd, Qb7, ug, evO, opv, qv, Qam, binV, ldV, lenV, Qay, V.cells, Qas, Qa9, Qa5, flat, Qa3, Qa0, Qa4, ↓reduceIte, Nat.reduceEqDiff, Nat.reduceAdd, Nat.reduceLT, Nat.reduceLeDiff, Qc, Qe, Qs, Qu, Qb, Qf, Qg, Qo, Qd, Qx, Qt, Ql, Qh, endQ, rvs, rv1, resV, vw_i, vw_b, Qb3, Qax, zipA, beq_self_eq_true, Qj, Qp, Qv, Qn, Q3, Qa, Q2, decide_true, decide_false, and_true, and_self, false_and, forall_const, implies_true, reduceCtorEq, beq_false, imp_self, Qi, eBent, Qa8]
 have i1 : inI (540 - w.high) := by unfold inI; omega
 by_cases h4 : 540 - w.high < y
 ·simp only [rc11, rs11, eBent, g1, g2, g3, hr, hw, ha, hC, hb, h1, h2, h3, h4, i1, Qdf, Qaa, Qab, Qah, Qac, Qa7, Qaf, Qa6, Qa2, Fam.step, Qag, Qbd, Qb7, ug, evO, opv, qv, Qam, binV, ldV, lenV, Qay, V.cells, Qas, Qa9, Qa5, flat, Qa3, Qa0, Qa4, ↓reduceIte, Nat.reduceEqDiff, Nat.reduceAdd, Nat.reduceLT, Nat.reduceLeDiff, Qc, Qe, Qs, Qu, Qb, Qf, Qg, Qo, Qd, Qx, Qt, Ql, Qh, endQ, rvs, rv1, resV, vw_i, vw_b, Qb3, Qax, zipA, beq_self_eq_true, Qj, Qp, Qn, Q3, Qa, decide_true, decide_false, and_self, forall_const, implies_true, reduceCtorEq, Qi, eBent, Qa8]
 have i2 : inI (w.low - x) ∧ inI (w.high + y) := by unfold inI; omega
 obtain ⟨w', hw'⟩ : ∃ w' : Span, w' = ⟨w.low - x, w.high + y⟩ := ⟨_, rfl⟩
 have hw2 : Qb1 w' 540 = true := by
  rw [hw']; simp only [Qb1, Qak, Zg, decide_eq_true_eq]; omega
 have g4 := Qsu c w
 have g5 := Qsv c w
 have g6 := Qsu c w'
 have g7 := Qsv c w'
 have hB : Qa1 c ≠ [] → Bett c c w w' := fun hne => ⟨hC, hC, hw, hw2, hne, fun k hk => hk, fun _ _ => Zk _, by rw [hw']; show w.low - x ≤ w.low ∧ w.high ≤ w.high + y; omega⟩
 have n1 := Qmt hC hw hB
 have n2 := Qlj hC hw hB
 have e1 := Qvn hC hw
 have e2 := Qtg hC hw
 have g8 := k24o c
 obtain ⟨o, ho⟩ : ∃ o, o = Qpr c b := ⟨_, rfl⟩
 have o1 : o.spring = c.spring := by rw [ho]; rfl
 have o2 : o.wrong = c.wrong := by rw [ho]; rfl
 have o3 : o.limit = c.limit := by rw [ho]; rfl
 have o4 : o.tire = c.tire := by rw [ho]; rfl
 have hm : ∀ i, Qbz o i = Qbz c i := fun i => by unfold Qbz; rw [o3, o4]
 have hsub : ∀ k ∈ Qa1 o, k ∈ Qa1 c := fun k hk => by rw [ho] at hk; exact Qmc hk
 have hls : o.bents.length = c.bents.length + 1 := by rw [ho]; simp [Qpr]
 have hck : Qcy 3 ((c.bents.map eBent).flatten ++ eBent b) 0 (c.bents.length + 1) = o.bents.map eBent := by
  have := Qfk (e := eBent) (k := 3) (fun _ => rfl) (c.bents ++ [b])
  rw [ho]
  simpa [Qpr] using this
 have g9 := Qwv o
 have g10 := Qwx o
 have g11 := Qv6 c l
 have g12 := Qv6 o l
 have g13 := Qs7 c l w
 have g14 := Qs7 o l w
 have g15 := Qsu o w
 have g16 := Qsv o w
 have g17 := Qx0 (Qbu c l).1 (Qbu o l).1
 unfold Qem at n1 n2
 rw [hw'] at g6 g7 n1 n2
 unfold Qa8 at g4 g5 g6 g7 g8 g9 g10 g11 g12 g13 g14 g15 g16
 unfold Qap at g4 g5 g6 g7 g11 g12 g13 g14 g15 g16 g17
 rw [o1, o2, o3, o4] at g9 g10 g12 g14 g15 g16
 have hfb : fewB c := by unfold fewB; omega
 have hfl : Qc1 (c.bents.length + 1) := by unfold Qc1; omega
 have hfn : (c.bents.map eBent).flatten.length = c.bents.length * 3 := Qhv (e := eBent) (k := 3) (fun _ => rfl) c.bents
 have hvw : ∀ (hp : List Blk) (n : Nat), (o.bents.map eBent).map (fun r => r.map (vw hp (n + 1))) = o.bents.map eBent := fun hp n => Qg6 (e := eBent) hp (n + 1) (fun _ => rfl) _
 have hnr : Qa5 (c.bents.map eBent).flatten = false := Qf7 (e := eBent) (fun _ => rfl) _
 have hup : upL 0 ((c.bents.map eBent).flatten ++ eBent b) = (c.bents.map eBent).flatten ++ eBent b := Qec _ _ (by rw [Qe1, hnr]; rfl)
 have hlt : (c.bents.length + 1) * 3 ≤ c.bents.length * 3 + 3 := by omega
 have eB : eBent b = [.i b.bend, .i b.back.low, .i b.back.high] := rfl
 rw [eB] at hck hup
 have hcases : Qbx o ≠ 0 ∨ (Qbx o = 0 ∧ OkC o ∧ (Qa1 o).length = 0) ∨ (Qbx o = 0 ∧ OkC o ∧ 0 < (Qa1 o).length ∧ ((Qbu c l).2 = 0 ∧ (Qbu o l).2 = 0 ∧ Qg1 (Qbu c l).1 (Qbu o l).1 = true) ∧
   ((Qbp c l w).2 = 0 ∧ (Qbp o l w).2 = 0 ∧ ((Qbp c l w).1 = 3 ∨ (Qbp c l w).1 = (Qbp o l w).1)) ∧ Qem (fewR c w).2 (fewR o w).2 (fewR o w).1 (fewR c w).1 ∧ Qem (Qbv c w).2.2 (Qbv o w).2.2 (Qbv o w).1 (Qbv c w).1) := by
  by_cases hk : Qbx o = 0
  ·right
   have hO := Qeg.1 hk
   by_cases hn : (Qa1 o).length = 0
   ·exact .inl ⟨hk, hO, hn⟩
   ·right
    have hne : Qa1 o ≠ [] := fun e => hn (by rw [e]; rfl)
    have hB2 : Qa1 c ≠ [] → Bett c o w w := fun _ => ⟨hC, hO, hw, hw, hne, hsub, fun i _ => by rw [hm]; exact Zk _, Zk _, Zk _⟩
    exact ⟨hk, hO, by omega, Qno hC hO hm hsub hne ha, Qp3 hw hC hO hm hsub hne ha, Qmt hC hw hB2, Qlj hC hw hB2⟩
  ·exact .inl hk
 rcases e1 with e1 | e1 <;> rcases e2 with e2 | e2 <;> simp only [e1, e2, forall_const, Int.reduceEq, false_implies] at n1 n2
 ·have m3 : ¬ (fewR c w).1 < (fewR c ⟨w.low - x, w.high + y⟩).1 := by omega
  have m4 : ¬ (Qbv c w).1 < (Qbv c ⟨w.low - x, w.high + y⟩).1 := by omega
  rcases hcases with hk | ⟨hk, hO, hn⟩ | ⟨hk, hO, hn, ⟨a1, a2, a3⟩, ⟨f1, f2, f3⟩, p1, p2⟩
  ·simp only [rc11, rs11, eBent, g1, g2, g3, g4, g5, g6, g7, g8, g9, g10, hr, hw, ha, hC, hb, h1, h2, h3, h4, i1, i2, e1, e2, n1, n2, m3, m4, hfb, Qdg, Qdu, Qbe _ _ hnr, hfn, hfl, hck, hvw, Zf, hpF, upB, upL, upV, hup, Zb, Za, Q9, hlt, Qdf, hk, Qal, Qaa, Qab, Qah, Qac, Qa7, Qci, Qcf, ↓Qbf, Qdc, ocV, nidQ, plO, plQ, plB, Qcd, Qch, Qc0, shV, shL, shB, Qaj, cutH, putB, Qaf, Qa6, Qa2, Fam.step, Qag, Qbi, Qbd, Qat, Qb7, ug, putB, nv, sv, Qc9, evO, opv, qv, Qam, binV, ldV, lenV, curG, Qay, Qan, putAt, Qaz, Qb5, V.cells, Qas, Qb2, Qa9, Qa5, flat, Qcc, cutV, Qa3, Qar, Qa0, Qa4, ↓reduceIte, Nat.reduceEqDiff, Nat.reduceAdd, Nat.reduceMul, Nat.reduceLT, Nat.reduceLeDiff, Qc, Qe, Qs, Qu, Qb, Qf, Qg, Qo, Q8, Qd, Qx, Qt, Ql, Q0, Qy, Qh, Qm, Qq, Qw, Q1, Q5, Qr, Q4, endQ, rvs, rv1, resV, vw_i, vw_b, Qb3, Qax, Qee, Qdd, zipA, beq_self_eq_true, Qj, Qp, Qv, Ze, Q7, Qn, Q3, Zc, Qa, Q2, decide_true, decide_false, true_and, and_true, and_self, false_and, forall_const, implies_true, reduceCtorEq, not_false_eq_true, ne_eq, beq_false, imp_self, Qi, eBent, Qa8]
  ·simp only [rc11, rs11, eBent, g1, g2, g3, g4, g5, g6, g7, g8, g9, g10, hr, hw, ha, hC, hb, h1, h2, h3, h4, i1, i2, e1, e2, n1, n2, m3, m4, hfb, Qdg, Qdu, Qbe _ _ hnr, hfn, hfl, hck, hvw, Zf, hpF, upB, upL, upV, hup, Zb, Za, Q9, hlt, Qdf, hk, hO, hn, Zi, Qal, Qaa, Qab, Qah, Qac, Qa7, Qci, Qcf, ↓Qbf, Qdc, ocV, nidQ, plO, plQ, plB, Qcd, Qch, Qc0, shV, shL, shB, Qaj, cutH, putB, Qaf, Qa6, Qa2, Fam.step, Qag, Qbi, Qbd, Qat, Qb7, ug, putB, nv, sv, Qc9, evO, opv, qv, Qam, binV, ldV, lenV, curG, Qay, Qan, putAt, Qaz, Qb5, V.cells, Qas, Qb2, Qa9, Qa5, flat, Qcc, cutV, Qa3, Qar, Qa0, Qa4, ↓reduceIte, Nat.reduceEqDiff, Nat.reduceAdd, Nat.reduceMul, Nat.reduceLT, Nat.reduceLeDiff, Qc, Qe, Qs, Qu, Qb, Qf, Qg, Qo, Q8, Qd, Qx, Qt, Ql, Q0, Qy, Qh, Qm, Qq, Qw, Q1, Q5, Qr, Q4, endQ, rvs, rv1, resV, vw_i, vw_b, Qb3, Qax, Qee, Qdd, zipA, beq_self_eq_true, Qj, Qp, Qv, Ze, Q7, Qn, Q3, Qa, Q2, decide_true, decide_false, and_self, forall_const, implies_true, reduceCtorEq, not_false_eq_true, ne_eq, imp_self, Qi, eBent, Qa8]
  ·have hn' : ¬ ((Qa1 o).length : Int) = 0 := by omega
   unfold Qem at p1 p2
   simp only [e1, e2, forall_const] at p1 p2
   by_cases f4 : (Qbp c l w).1 = 3
   ·simp only [rc11, rs11, eBent, g1, g2, g3, g4, g5, g6, g7, g8, g9, g10, hr, hw, ha, hC, hb, h1, h2, h3, h4, i1, i2, e1, e2, n1, n2, m3, m4, hfb, Qdg, Qdu, Qbe _ _ hnr, hfn, hfl, hck, hvw, Zf, hpF, upB, upL, upV, hup, Zb, Za, Q9, hlt, Qdf, hk, hO, hn', g11, g12, g13, g14, g15, g16, g17, a1, a2, a3, f1, f2, f4, p1, p2, Qal, Qaa, Qab, Qah, Qac, Qa7, Qci, Qcf, ↓Qbf, Qdc, ocV, nidQ, plO, plQ, plB, Qcd, Qch, Qc0, shV, shL, shB, Qaj, cutH, putB, Qaf, Qa6, Qa2, Fam.step, Qag, Qbi, Qbd, Qat, Qb7, ug, putB, nv, sv, Qc9, evO, opv, qv, Qam, binV, ldV, lenV, curG, Qay, Qan, putAt, Qaz, Qb5, V.cells, Qas, Qb2, Qa9, Qa5, flat, Qcc, cutV, Qa3, Qar, Qa0, Qa4, ↓reduceIte, Nat.reduceEqDiff, Nat.reduceAdd, Nat.reduceMul, Nat.reduceLT, Nat.reduceLeDiff, Qc, Qe, Qs, Qu, Qb, Qf, Qg, Qo, Q8, Qd, Qx, Qt, Ql, Q0, Qy, Qh, Qm, Qq, Qw, Q1, Q5, Qr, Q4, endQ, rvs, rv1, resV, vw_i, vw_b, Qb3, Qax, Qee, Qdd, zipA, beq_self_eq_true, Qj, Qp, Qv, Ze, Q7, Zl, Qn, Q3, Qa, Q2, decide_true, decide_false, and_true, and_self, forall_const, implies_true, reduceCtorEq, not_false_eq_true, ne_eq, beq_true, imp_self, Qi, eBent, Qa8]
   ·have f5 : (Qbp c l w).1 = (Qbp o l w).1 := by rcases f3 with h | h; exact absurd h f4; exact h
    rw [f5] at f4
    simp only [rc11, rs11, eBent, g1, g2, g3, g4, g5, g6, g7, g8, g9, g10, hr, hw, ha, hC, hb, h1, h2, h3, h4, i1, i2, e1, e2, n1, n2, m3, m4, hfb, Qdg, Qdu, Qbe _ _ hnr, hfn, hfl, hck, hvw, Zf, hpF, upB, upL, upV, hup, Zb, Za, Q9, hlt, Qdf, hk, hO, hn', g11, g12, g13, g14, g15, g16, g17, a1, a2, a3, f1, f2, f4, f5, p1, p2, Qal, Qaa, Qab, Qah, Qac, Qa7, Qci, Qcf, ↓Qbf, Qdc, ocV, nidQ, plO, plQ, plB, Qcd, Qch, Qc0, shV, shL, shB, Qaj, cutH, putB, Qaf, Qa6, Qa2, Fam.step, Qag, Qbi, Qbd, Qat, Qb7, ug, putB, nv, sv, Qc9, evO, opv, qv, Qam, binV, ldV, lenV, curG, Qay, Qan, putAt, Qaz, Qb5, V.cells, Qas, Qb2, Qa9, Qa5, flat, Qcc, cutV, Qa3, Qar, Qa0, Qa4, ↓reduceIte, Nat.reduceEqDiff, Nat.reduceAdd, Nat.reduceMul, Nat.reduceLT, Nat.reduceLeDiff, Qc, Qe, Qs, Qu, Qb, Qf, Qg, Qo, Q8, Qd, Qx, Qt, Ql, Q0, Qy, Qh, Qm, Qq, Qw, Q1, Q5, Qr, Q4, endQ, rvs, rv1, resV, vw_i, vw_b, Qb3, Qax, Qee, Qdd, zipA, beq_self_eq_true, Qj, Qp, Qv, Ze, Q7, Qn, Q3, Zc, Qa, Q2, decide_true, decide_false, and_self, forall_const, implies_true, reduceCtorEq, not_false_eq_true, ne_eq, imp_self, Qi, eBent, Qa8]
 ·have m3 : ¬ (fewR c w).1 < (fewR c ⟨w.low - x, w.high + y⟩).1 := by omega
  have m4 := True.intro
  rcases hcases with hk | ⟨hk, hO, hn⟩ | ⟨hk, hO, hn, ⟨a1, a2, a3⟩, ⟨f1, f2, f3⟩, p1, p2⟩
  ·simp only [rc11, rs11, eBent, g1, g2, g3, g4, g5, g6, g7, g8, g9, g10, hr, hw, ha, hC, hb, h1, h2, h3, h4, i1, i2, e1, e2, n1, m3, hfb, Qdg, Qdu, Qbe _ _ hnr, hfn, hfl, hck, hvw, Zf, hpF, upB, upL, upV, hup, Zb, Za, Q9, hlt, Qdf, hk, Qal, Qaa, Qab, Qah, Qac, Qa7, Qci, Qcf, ↓Qbf, Qdc, ocV, nidQ, plO, plQ, plB, Qcd, Qch, Qc0, shV, shL, shB, Qaj, cutH, putB, Qaf, Qa6, Qa2, Fam.step, Qag, Qbi, Qbd, Qat, Qb7, ug, putB, nv, sv, Qc9, evO, opv, qv, Qam, binV, ldV, lenV, curG, Qay, Qan, putAt, Qaz, Qb5, V.cells, Qas, Qb2, Qa9, Qa5, flat, Qcc, cutV, Qa3, Qar, Qa0, Qa4, ↓reduceIte, Nat.reduceEqDiff, Nat.reduceAdd, Nat.reduceMul, Nat.reduceLT, Nat.reduceLeDiff, Int.reduceEq, Qc, Qe, Qs, Qu, Qb, Qf, Qg, Qo, Q8, Qd, Qx, Qt, Ql, Q0, Qy, Qh, Qm, Qq, Qw, Q1, Q5, Qr, Q4, endQ, rvs, rv1, resV, vw_i, vw_b, Qb3, Qax, Qee, Qdd, zipA, beq_self_eq_true, Qj, Qp, Qv, Ze, Q7, Zl, Qn, Q3, Zc, Qa, Q2, decide_true, decide_false, decide_eq_true_eq, decide_eq_false_iff_not, true_and, and_true, and_self, false_and, forall_const, implies_true, reduceCtorEq, not_false_eq_true, ne_eq, beq_true, beq_false, Zr, Zd, Q6, Qdv, imp_self, Qi, eBent, Qa8]
  ·simp only [rc11, rs11, eBent, g1, g2, g3, g4, g5, g6, g7, g8, g9, g10, hr, hw, ha, hC, hb, h1, h2, h3, h4, i1, i2, e1, e2, n1, m3, hfb, Qdg, Qdu, Qbe _ _ hnr, hfn, hfl, hck, hvw, Zf, hpF, upB, upL, upV, hup, Zb, Za, Q9, hlt, Qdf, hk, hO, hn, Zi, Qal, Qaa, Qab, Qah, Qac, Qa7, Qci, Qcf, ↓Qbf, Qdc, ocV, nidQ, plO, plQ, plB, Qcd, Qch, Qc0, shV, shL, shB, Qaj, cutH, putB, Qaf, Qa6, Qa2, Fam.step, Qag, Qbi, Qbd, Qat, Qb7, ug, putB, nv, sv, Qc9, evO, opv, qv, Qam, binV, ldV, lenV, curG, Qay, Qan, putAt, Qaz, Qb5, V.cells, Qas, Qb2, Qa9, Qa5, flat, Qcc, cutV, Qa3, Qar, Qa0, Qa4, ↓reduceIte, Nat.reduceEqDiff, Nat.reduceAdd, Nat.reduceMul, Nat.reduceLT, Nat.reduceLeDiff, Int.reduceEq, Qc, Qe, Qs, Qu, Qb, Qf, Qg, Qo, Q8, Qd, Qx, Qt, Ql, Q0, Qy, Qh, Qm, Qq, Qw, Q1, Q5, Qr, Q4, endQ, rvs, rv1, resV, vw_i, vw_b, Qb3, Qax, Qee, Qdd, zipA, beq_self_eq_true, Qj, Qp, Qv, Ze, Q7, Zl, Qn, Q3, Qa, Q2, decide_true, decide_false, decide_eq_true_eq, decide_eq_false_iff_not, true_and, and_true, and_self, false_and, forall_const, implies_true, reduceCtorEq, not_false_eq_true, ne_eq, beq_true, beq_false, Zr, Zd, Q6, Qdv, imp_self, Qi, eBent, Qa8]
  ·have hn' : ¬ ((Qa1 o).length : Int) = 0 := by omega
   unfold Qem at p1 p2
   simp only [e1, e2, forall_const, Int.reduceEq, false_implies] at p1 p2
   by_cases f4 : (Qbp c l w).1 = 3
   ·simp only [rc11, rs11, eBent, g1, g2, g3, g4, g5, g6, g7, g8, g9, g10, hr, hw, ha, hC, hb, h1, h2, h3, h4, i1, i2, e1, e2, n1, m3, hfb, Qdg, Qdu, Qbe _ _ hnr, hfn, hfl, hck, hvw, Zf, hpF, upB, upL, upV, hup, Zb, Za, Q9, hlt, Qdf, hk, hO, hn', g11, g12, g13, g14, g15, g16, g17, a1, a2, a3, f1, f2, f4, p1, Qal, Qaa, Qab, Qah, Qac, Qa7, Qci, Qcf, ↓Qbf, Qdc, ocV, nidQ, plO, plQ, plB, Qcd, Qch, Qc0, shV, shL, shB, Qaj, cutH, putB, Qaf, Qa6, Qa2, Fam.step, Qag, Qbi, Qbd, Qat, Qb7, ug, putB, nv, sv, Qc9, evO, opv, qv, Qam, binV, ldV, lenV, curG, Qay, Qan, putAt, Qaz, Qb5, V.cells, Qas, Qb2, Qa9, Qa5, flat, Qcc, cutV, Qa3, Qar, Qa0, Qa4, ↓reduceIte, Nat.reduceEqDiff, Nat.reduceAdd, Nat.reduceMul, Nat.reduceLT, Nat.reduceLeDiff, Int.reduceEq, Qc, Qe, Qs, Qu, Qb, Qf, Qg, Qo, Q8, Qd, Qx, Qt, Ql, Q0, Qy, Qh, Qm, Qq, Qw, Q1, Q5, Qr, Q4, endQ, rvs, rv1, resV, vw_i, vw_b, Qb3, Qax, Qee, Qdd, zipA, beq_self_eq_true, Qj, Qp, Qv, Ze, Q7, Zl, Qn, Q3, Zc, Qa, Q2, decide_true, decide_false, decide_eq_true_eq, decide_eq_false_iff_not, true_and, and_true, and_self, false_and, forall_const, implies_true, reduceCtorEq, not_false_eq_true, ne_eq, beq_true, beq_false, Zr, Zd, Q6, Qe2, Qdv, imp_self, Qi, eBent, Qa8]
   ·have f5 : (Qbp c l w).1 = (Qbp o l w).1 := by rcases f3 with h | h; exact absurd h f4; exact h
    rw [f5] at f4
    simp only [rc11, rs11, eBent, g1, g2, g3, g4, g5, g6, g7, g8, g9, g10, hr, hw, ha, hC, hb, h1, h2, h3, h4, i1, i2, e1, e2, n1, m3, hfb, Qdg, Qdu, Qbe _ _ hnr, hfn, hfl, hck, hvw, Zf, hpF, upB, upL, upV, hup, Zb, Za, Q9, hlt, Qdf, hk, hO, hn', g11, g12, g13, g14, g15, g16, g17, a1, a2, a3, f1, f2, f4, f5, p1, Qal, Qaa, Qab, Qah, Qac, Qa7, Qci, Qcf, ↓Qbf, Qdc, ocV, nidQ, plO, plQ, plB, Qcd, Qch, Qc0, shV, shL, shB, Qaj, cutH, putB, Qaf, Qa6, Qa2, Fam.step, Qag, Qbi, Qbd, Qat, Qb7, ug, putB, nv, sv, Qc9, evO, opv, qv, Qam, binV, ldV, lenV, curG, Qay, Qan, putAt, Qaz, Qb5, V.cells, Qas, Qb2, Qa9, Qa5, flat, Qcc, cutV, Qa3, Qar, Qa0, Qa4, ↓reduceIte, Nat.reduceEqDiff, Nat.reduceAdd, Nat.reduceMul, Nat.reduceLT, Nat.reduceLeDiff, Int.reduceEq, Qc, Qe, Qs, Qu, Qb, Qf, Qg, Qo, Q8, Qd, Qx, Qt, Ql, Q0, Qy, Qh, Qm, Qq, Qw, Q1, Q5, Qr, Q4, endQ, rvs, rv1, resV, vw_i, vw_b, Qb3, Qax, Qee, Qdd, zipA, beq_self_eq_true, Qj, Qp, Qv, Ze, Q7, Zl, Qn, Q3, Zc, Qa, Q2, decide_true, decide_false, decide_eq_true_eq, decide_eq_false_iff_not, true_and, and_true, and_self, false_and, forall_const, implies_true, reduceCtorEq, not_false_eq_true, ne_eq, beq_true, beq_false, Zr, Zd, Q6, Qe2, Qdv, imp_self, Qi, eBent, Qa8]
 ·have m4 : ¬ (Qbv c w).1 < (Qbv c ⟨w.low - x, w.high + y⟩).1 := by omega
  have m3 := True.intro
  rcases hcases with hk | ⟨hk, hO, hn⟩ | ⟨hk, hO, hn, ⟨a1, a2, a3⟩, ⟨f1, f2, f3⟩, p1, p2⟩
  ·simp only [rc11, rs11, eBent, g1, g2, g3, g4, g5, g6, g7, g8, g9, g10, hr, hw, ha, hC, hb, h1, h2, h3, h4, i1, i2, e1, e2, n2, m4, hfb, Qdg, Qdu, Qbe _ _ hnr, hfn, hfl, hck, hvw, Zf, hpF, upB, upL, upV, hup, Zb, Za, Q9, hlt, Qdf, hk, Qal, Qaa, Qab, Qah, Qac, Qa7, Qci, Qcf, ↓Qbf, Qdc, ocV, nidQ, plO, plQ, plB, Qcd, Qch, Qc0, shV, shL, shB, Qaj, cutH, putB, Qaf, Qa6, Qa2, Fam.step, Qag, Qbi, Qbd, Qat, Qb7, ug, putB, nv, sv, Qc9, evO, opv, qv, Qam, binV, ldV, lenV, curG, Qay, Qan, putAt, Qaz, Qb5, V.cells, Qas, Qb2, Qa9, Qa5, flat, Qcc, cutV, Qa3, Qar, Qa0, Qa4, ↓reduceIte, Nat.reduceEqDiff, Nat.reduceAdd, Nat.reduceMul, Nat.reduceLT, Nat.reduceLeDiff, Int.reduceEq, Qc, Qe, Qs, Qu, Qb, Qf, Qg, Qo, Q8, Qd, Qx, Qt, Ql, Q0, Qy, Qh, Qm, Qq, Qw, Q1, Q5, Qr, Q4, endQ, rvs, rv1, resV, vw_i, vw_b, Qb3, Qax, Qee, Qdd, zipA, beq_self_eq_true, Qj, Qp, Qv, Ze, Q7, Qn, Q3, Zc, Qa, Q2, decide_true, decide_false, decide_eq_true_eq, decide_eq_false_iff_not, true_and, and_true, and_self, false_and, forall_const, implies_true, reduceCtorEq, not_false_eq_true, ne_eq, beq_true, beq_false, Zr, Zd, Q6, Qdv, imp_self, Qi, eBent, Qa8]
  ·simp only [rc11, rs11, eBent, g1, g2, g3, g4, g5, g6, g7, g8, g9, g10, hr, hw, ha, hC, hb, h1, h2, h3, h4, i1, i2, e1, e2, n2, m4, hfb, Qdg, Qdu, Qbe _ _ hnr, hfn, hfl, hck, hvw, Zf, hpF, upB, upL, upV, hup, Zb, Za, Q9, hlt, Qdf, hk, hO, hn, Zi, Qal, Qaa, Qab, Qah, Qac, Qa7, Qci, Qcf, ↓Qbf, Qdc, ocV, nidQ, plO, plQ, plB, Qcd, Qch, Qc0, shV, shL, shB, Qaj, cutH, putB, Qaf, Qa6, Qa2, Fam.step, Qag, Qbi, Qbd, Qat, Qb7, ug, putB, nv, sv, Qc9, evO, opv, qv, Qam, binV, ldV, lenV, curG, Qay, Qan, putAt, Qaz, Qb5, V.cells, Qas, Qb2, Qa9, Qa5, flat, Qcc, cutV, Qa3, Qar, Qa0, Qa4, ↓reduceIte, Nat.reduceEqDiff, Nat.reduceAdd, Nat.reduceMul, Nat.reduceLT, Nat.reduceLeDiff, Int.reduceEq, Qc, Qe, Qs, Qu, Qb, Qf, Qg, Qo, Q8, Qd, Qx, Qt, Ql, Q0, Qy, Qh, Qm, Qq, Qw, Q1, Q5, Qr, Q4, endQ, rvs, rv1, resV, vw_i, vw_b, Qb3, Qax, Qee, Qdd, zipA, beq_self_eq_true, Qj, Qp, Qv, Ze, Q7, Qn, Q3, Qa, Q2, decide_true, decide_false, decide_eq_true_eq, decide_eq_false_iff_not, true_and, and_true, and_self, false_and, forall_const, implies_true, reduceCtorEq, not_false_eq_true, ne_eq, beq_true, beq_false, Zr, Zd, Q6, Qdv, imp_self, Qi, eBent, Qa8]
  ·have hn' : ¬ ((Qa1 o).length : Int) = 0 := by omega
   unfold Qem at p1 p2
   simp only [e1, e2, forall_const, Int.reduceEq, false_implies] at p1 p2
   by_cases f4 : (Qbp c l w).1 = 3
   ·simp only [rc11, rs11, eBent, g1, g2, g3, g4, g5, g6, g7, g8, g9, g10, hr, hw, ha, hC, hb, h1, h2, h3, h4, i1, i2, e1, e2, n2, m4, hfb, Qdg, Qdu, Qbe _ _ hnr, hfn, hfl, hck, hvw, Zf, hpF, upB, upL, upV, hup, Zb, Za, Q9, hlt, Qdf, hk, hO, hn', g11, g12, g13, g14, g15, g16, g17, a1, a2, a3, f1, f2, f4, p2, Qal, Qaa, Qab, Qah, Qac, Qa7, Qci, Qcf, ↓Qbf, Qdc, ocV, nidQ, plO, plQ, plB, Qcd, Qch, Qc0, shV, shL, shB, Qaj, cutH, putB, Qaf, Qa6, Qa2, Fam.step, Qag, Qbi, Qbd, Qat, Qb7, ug, putB, nv, sv, Qc9, evO, opv, qv, Qam, binV, ldV, lenV, curG, Qay, Qan, putAt, Qaz, Qb5, V.cells, Qas, Qb2, Qa9, Qa5, flat, Qcc, cutV, Qa3, Qar, Qa0, Qa4, ↓reduceIte, Nat.reduceEqDiff, Nat.reduceAdd, Nat.reduceMul, Nat.reduceLT, Nat.reduceLeDiff, Int.reduceEq, Qc, Qe, Qs, Qu, Qb, Qf, Qg, Qo, Q8, Qd, Qx, Qt, Ql, Q0, Qy, Qh, Qm, Qq, Qw, Q1, Q5, Qr, Q4, endQ, rvs, rv1, resV, vw_i, vw_b, Qb3, Qax, Qee, Qdd, zipA, beq_self_eq_true, Qj, Qp, Qv, Ze, Q7, Zl, Qn, Q3, Zc, Qa, Q2, decide_true, decide_false, decide_eq_true_eq, decide_eq_false_iff_not, true_and, and_true, and_self, false_and, forall_const, implies_true, reduceCtorEq, not_false_eq_true, ne_eq, beq_true, beq_false, Zr, Zd, Q6, Qe2, Qdv, imp_self, Qi, eBent, Qa8]
   ·have f5 : (Qbp c l w).1 = (Qbp o l w).1 := by rcases f3 with h | h; exact absurd h f4; exact h
    rw [f5] at f4
    simp only [rc11, rs11, eBent, g1, g2, g3, g4, g5, g6, g7, g8, g9, g10, hr, hw, ha, hC, hb, h1, h2, h3, h4, i1, i2, e1, e2, n2, m4, hfb, Qdg, Qdu, Qbe _ _ hnr, hfn, hfl, hck, hvw, Zf, hpF, upB, upL, upV, hup, Zb, Za, Q9, hlt, Qdf, hk, hO, hn', g11, g12, g13, g14, g15, g16, g17, a1, a2, a3, f1, f2, f4, f5, p2, Qal, Qaa, Qab, Qah, Qac, Qa7, Qci, Qcf, ↓Qbf, Qdc, ocV, nidQ, plO, plQ, plB, Qcd, Qch, Qc0, shV, shL, shB, Qaj, cutH, putB, Qaf, Qa6, Qa2, Fam.step, Qag, Qbi, Qbd, Qat, Qb7, ug, putB, nv, sv, Qc9, evO, opv, qv, Qam, binV, ldV, lenV, curG, Qay, Qan, putAt, Qaz, Qb5, V.cells, Qas, Qb2, Qa9, Qa5, flat, Qcc, cutV, Qa3, Qar, Qa0, Qa4, ↓reduceIte, Nat.reduceEqDiff, Nat.reduceAdd, Nat.reduceMul, Nat.reduceLT, Nat.reduceLeDiff, Int.reduceEq, Qc, Qe, Qs, Qu, Qb, Qf, Qg, Qo, Q8, Qd, Qx, Qt, Ql, Q0, Qy, Qh, Qm, Qq, Qw, Q1, Q5, Qr, Q4, endQ, rvs, rv1, resV, vw_i, vw_b, Qb3, Qax, Qee, Qdd, zipA, beq_self_eq_true, Qj, Qp, Qv, Ze, Q7, Qn, Q3, Zc, Qa, Q2, decide_true, decide_false, decide_eq_true_eq, decide_eq_false_iff_not, true_and, and_true, and_self, false_and, forall_const, implies_true, reduceCtorEq, not_false_eq_true, ne_eq, beq_true, beq_false, Zr, Zd, Q6, Qe2, Qdv, imp_self, Qi, eBent, Qa8]
 ·have m3 := True.intro
  have m4 := True.intro
  rcases hcases with hk | ⟨hk, hO, hn⟩ | ⟨hk, hO, hn, ⟨a1, a2, a3⟩, ⟨f1, f2, f3⟩, p1, p2⟩
  ·simp only [rc11, rs11, eBent, g1, g2, g3, g4, g5, g6, g7, g8, g9, g10, hr, hw, ha, hC, hb, h1, h2, h3, h4, i1, i2, e1, e2, hfb, Qdg, Qdu, Qbe _ _ hnr, hfn, hfl, hck, hvw, Zf, hpF, upB, upL, upV, hup, Zb, Za, Q9, hlt, Qdf, hk, Qal, Qaa, Qab, Qah, Qac, Qa7, Qci, Qcf, ↓Qbf, Qdc, ocV, nidQ, plO, plQ, plB, Qcd, Qch, Qc0, shV, shL, shB, Qaj, cutH, putB, Qaf, Qa6, Qa2, Fam.step, Qag, Qbi, Qbd, Qat, Qb7, ug, putB, nv, sv, Qc9, evO, opv, qv, Qam, binV, ldV, lenV, curG, Qay, Qan, putAt, Qaz, Qb5, V.cells, Qas, Qb2, Qa9, Qa5, flat, Qcc, cutV, Qa3, Qar, Qa0, Qa4, ↓reduceIte, Nat.reduceEqDiff, Nat.reduceAdd, Nat.reduceMul, Nat.reduceLT, Nat.reduceLeDiff, Int.reduceEq, Qc, Qe, Qs, Qu, Qb, Qf, Qg, Qo, Q8, Qd, Qx, Qt, Ql, Q0, Qy, Qh, Qm, Qq, Qw, Q1, Q5, Qr, Q4, endQ, rvs, rv1, resV, vw_i, vw_b, Qb3, Qax, Qee, Qdd, zipA, beq_self_eq_true, Qj, Qp, Qv, Ze, Q7, Zl, Qn, Q3, Zc, Qa, Q2, decide_false, decide_eq_true_eq, decide_eq_false_iff_not, true_and, and_true, and_self, false_and, forall_const, implies_true, reduceCtorEq, not_false_eq_true, ne_eq, beq_true, beq_false, Zr, Zd, Q6, Qdv, imp_self, Qi, eBent, Qa8]
  ·simp only [rc11, rs11, eBent, g1, g2, g3, g4, g5, g6, g7, g8, g9, g10, hr, hw, ha, hC, hb, h1, h2, h3, h4, i1, i2, e1, e2, hfb, Qdg, Qdu, Qbe _ _ hnr, hfn, hfl, hck, hvw, Zf, hpF, upB, upL, upV, hup, Zb, Za, Q9, hlt, Qdf, hk, hO, hn, Zi, Qal, Qaa, Qab, Qah, Qac, Qa7, Qci, Qcf, ↓Qbf, Qdc, ocV, nidQ, plO, plQ, plB, Qcd, Qch, Qc0, shV, shL, shB, Qaj, cutH, putB, Qaf, Qa6, Qa2, Fam.step, Qag, Qbi, Qbd, Qat, Qb7, ug, putB, nv, sv, Qc9, evO, opv, qv, Qam, binV, ldV, lenV, curG, Qay, Qan, putAt, Qaz, Qb5, V.cells, Qas, Qb2, Qa9, Qa5, flat, Qcc, cutV, Qa3, Qar, Qa0, Qa4, ↓reduceIte, Nat.reduceEqDiff, Nat.reduceAdd, Nat.reduceMul, Nat.reduceLT, Nat.reduceLeDiff, Int.reduceEq, Qc, Qe, Qs, Qu, Qb, Qf, Qg, Qo, Q8, Qd, Qx, Qt, Ql, Q0, Qy, Qh, Qm, Qq, Qw, Q1, Q5, Qr, Q4, endQ, rvs, rv1, resV, vw_i, vw_b, Qb3, Qax, Qee, Qdd, zipA, beq_self_eq_true, Qj, Qp, Qv, Ze, Q7, Zl, Qn, Q3, Qa, decide_true, decide_false, decide_eq_true_eq, decide_eq_false_iff_not, true_and, and_true, and_self, false_and, forall_const, implies_true, reduceCtorEq, not_false_eq_true, ne_eq, beq_true, beq_false, Zr, Zd, Q6, Qdv, imp_self, Qi, eBent, Qa8]
  ·have hn' : ¬ ((Qa1 o).length : Int) = 0 := by omega
   unfold Qem at p1 p2
   simp only [e1, e2, Int.reduceEq, false_implies] at p1 p2
   by_cases f4 : (Qbp c l w).1 = 3
   ·simp only [rc11, rs11, eBent, g1, g2, g3, g4, g5, g6, g7, g8, g9, g10, hr, hw, ha, hC, hb, h1, h2, h3, h4, i1, i2, e1, e2, hfb, Qdg, Qdu, Qbe _ _ hnr, hfn, hfl, hck, hvw, Zf, hpF, upB, upL, upV, hup, Zb, Za, Q9, hlt, Qdf, hk, hO, hn', g11, g12, g13, g14, g15, g16, g17, a1, a2, a3, f1, f2, f4, Qal, Qaa, Qab, Qah, Qac, Qa7, Qci, Qcf, ↓Qbf, Qdc, ocV, nidQ, plO, plQ, plB, Qcd, Qch, Qc0, shV, shL, shB, Qaj, cutH, putB, Qaf, Qa6, Qa2, Fam.step, Qag, Qbi, Qbd, Qat, Qb7, ug, putB, nv, sv, Qc9, evO, opv, qv, Qam, binV, ldV, lenV, curG, Qay, Qan, putAt, Qaz, Qb5, V.cells, Qas, Qb2, Qa9, Qa5, flat, Qcc, cutV, Qa3, Qar, Qa0, Qa4, ↓reduceIte, Nat.reduceEqDiff, Nat.reduceAdd, Nat.reduceMul, Nat.reduceLT, Nat.reduceLeDiff, Int.reduceEq, Qc, Qe, Qs, Qu, Qb, Qf, Qg, Qo, Q8, Qd, Qx, Qt, Ql, Q0, Qy, Qh, Qm, Qq, Qw, Q1, Q5, Qr, Q4, endQ, rvs, rv1, resV, vw_i, vw_b, Qb3, Qax, Qee, Qdd, zipA, beq_self_eq_true, Qj, Qp, Qv, Ze, Q7, Zl, Qn, Q3, Zc, Qa, Q2, decide_true, decide_false, decide_eq_true_eq, decide_eq_false_iff_not, true_and, and_true, and_self, false_and, forall_const, implies_true, reduceCtorEq, not_false_eq_true, ne_eq, beq_true, beq_false, Zr, Zd, Q6, Qe2, Qdv, imp_self, Qi, eBent, Qa8]
   ·have f5 : (Qbp c l w).1 = (Qbp o l w).1 := by rcases f3 with h | h; exact absurd h f4; exact h
    rw [f5] at f4
    simp only [rc11, rs11, eBent, g1, g2, g3, g4, g5, g6, g7, g8, g9, g10, hr, hw, ha, hC, hb, h1, h2, h3, h4, i1, i2, e1, e2, hfb, Qdg, Qdu, Qbe _ _ hnr, hfn, hfl, hck, hvw, Zf, hpF, upB, upL, upV, hup, Zb, Za, Q9, hlt, Qdf, hk, hO, hn', g11, g12, g13, g14, g15, g16, g17, a1, a2, a3, f1, f2, f4, f5, Qal, Qaa, Qab, Qah, Qac, Qa7, Qci, Qcf, ↓Qbf, Qdc, ocV, nidQ, plO, plQ, plB, Qcd, Qch, Qc0, shV, shL, shB, Qaj, cutH, putB, Qaf, Qa6, Qa2, Fam.step, Qag, Qbi, Qbd, Qat, Qb7, ug, putB, nv, sv, Qc9, evO, opv, qv, Qam, binV, ldV, lenV, curG, Qay, Qan, putAt, Qaz, Qb5, V.cells, Qas, Qb2, Qa9, Qa5, flat, Qcc, cutV, Qa3, Qar, Qa0, Qa4, ↓reduceIte, Nat.reduceEqDiff, Nat.reduceAdd, Nat.reduceMul, Nat.reduceLT, Nat.reduceLeDiff, Int.reduceEq, Qc, Qe, Qs, Qu, Qb, Qf, Qg, Qo, Q8, Qd, Qx, Qt, Ql, Q0, Qy, Qh, Qm, Qq, Qw, Q1, Q5, Qr, Q4, endQ, rvs, rv1, resV, vw_i, vw_b, Qb3, Qax, Qee, Qdd, zipA, beq_self_eq_true, Qj, Qp, Qv, Ze, Q7, Zl, Qn, Q3, Zc, Qa, Q2, decide_true, decide_false, decide_eq_true_eq, decide_eq_false_iff_not, true_and, and_true, and_self, false_and, forall_const, implies_true, reduceCtorEq, not_false_eq_true, ne_eq, beq_true, beq_false, Zr, Zd, Q6, Qe2, Qdv, imp_self, Qi, eBent, Qa8]
end Go.C06
