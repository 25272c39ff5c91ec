import Derived.Test.YtkmobminpeiklaaG6
import Derived.Test.YtkmobminpeiklaaG3
import Derived.Test.YtkmobminpeiklaaChecked
set_option linter.all false
open List renaming getD_eq_getElem?_getD → Qa, map_cons → Qc, map_nil → Qd, length_cons → Qe, length_nil → Qf, take_succ_cons → Qg, drop_succ_cons → Qh, append_nil → Qi, getElem?_cons_zero → Qj, length_map → Ql, headD_cons → Qm, getElem?_eq_getElem → Qn, getElem?_cons_succ → Qq, drop_zero → Qr, replicate_zero → Qs, nil_append → Qu, getElem?_nil → Qv, all_nil → Qw, cons_append → Qx, all_cons → Qy, take_nil → Qz, set_cons_zero → Q0, getElem?_map → Q2, replicate_succ → Q6, take_zero → Q9, contains_nil → Za, set_cons_succ → Zb, isEmpty_nil → Zd, length_replicate → Zh, contains_cons → Zk, drop_nil → Zl, isEmpty_cons → Zo, getD_cons_zero → Zq, getD_cons_succ → Zr, any_eq_true → Zt, any_nil → Zv, foldl_cons → Zz, any_cons → Z2, mem_filter → Z5, foldl_nil → Z6, headD_nil → Z7, set_nil → Xf, mem_of_getElem? → Xh, pairwise_iff_getElem → Xj, all_eq_true → Xk, length_pos_iff → Xl, range → Xm, getElem?_eq_some_iff → Xn, mem_of_find?_eq_some → Xo, ne_nil_of_mem → Xp, find?_eq_some_iff_getElem → Xr, mem_iff_getElem → Xs, eq_nil_of_length_eq_zero → Xt, find?_eq_none → Xv, find?_some → X0, getElem?_eq_none → X1, getElem?_of_mem → X4, getElem_range → X6, mem_range'_1 → X9, getElem_mem → Ja, flatten_nil → Jb
open Nat renaming zero_add → Qk, add_zero → Z8, le_refl → Xq, le_of_not_lt → Xx, zero_le → X5, add_sub_cancel → X7
open Bool renaming false_eq_true → Qb, or_false → Qo, and_self → Qt, and_true → Q1, not_eq_true' → Q5, decide_eq_true → Zc, false_and → Ze, true_eq_false → Zf, decide_eq_false → Zg, not_true → Zi, not_eq_false' → Zj, not_false → Zm, not_eq_false → Zn, not_eq_true → Zp, and_false → Zu, false_or → Zw, true_and → Zy, xor_self → Z3, true_or → Z9, and_eq_true → Xc, or_true → Xe, not_not → Xg, eq_iff_iff → Xu, or_eq_true → Xz, and_eq_false_iff → X2, or_eq_false_iff → X3
open Option renaming getD_some → Qp, map_some → Q7, getD_none → Q8, map_none → Z0, some → Xi
open Int renaming toNat_natCast → Q3, natCast_nonneg → Q4, add_sub_cancel → Zs, toNat_zero → Zx, lt_irrefl → Z1, le_refl → Z4, natCast_add → Xa, natCast_one → Xb, natCast_zero → Xd, add_assoc → Xw, zero_add → Xy, add_zero → X8, not_lt → Jc
set_option linter.unusedSimpArgs false
set_option linter.unusedVariables false
namespace Go.C06
open Go.Fam Go.Proofs
theorem Qmq (a b : Int) : (ints a b).Pairwise (· < ·) := by
 rw [Xj]
 intro i j hi hj hij
 rw [Qgb] at hi hj
 have h1 := Qhe (lo := a) (hi := b) (k := i) hi
 have h2 := Qhe (lo := a) (hi := b) (k := j) hj
 rw [Xn] at h1 h2
 obtain ⟨_, h1⟩ := h1
 obtain ⟨_, h2⟩ := h2
 rw [h1, h2]; omega
theorem Qdf (c : Cane) : (Qa4 c).Pairwise (· < ·) := (Qmq _ _).sublist List.filter_sublist
theorem Qjp {l : List Int} (h : l.Pairwise (· < ·)) {k : Int} (hk : k ∈ l) : l.getD 0 0 ≤ k ∧ k ≤ l.getD (l.length - 1) 0 := by
 obtain ⟨i, hi, rfl⟩ := Xs.1 hk
 rw [Xj] at h
 simp only [Qa]
 rw [Qn (show 0 < l.length by omega), Qn (show l.length - 1 < l.length by omega)]
 simp only [Qp]
 constructor
 ·by_cases e : i = 0
  ·subst e; exact Z4 _
  ·have := h 0 i (by omega) hi (by omega); omega
 ·by_cases e : i = l.length - 1
  ·subst e; exact Z4 _
  ·have := h i (l.length - 1) hi (by omega) (by omega); omega
theorem Qop {c : Cane} {k : Int} (hk : k ∈ Qa4 c) : trF c ≤ k ∧ k ≤ trL c := Qjp (Qdf c) hk
theorem Qg7 {k k' : Int} (hk : 0 ≤ k) (h : k ≤ k') : ∀ {l : List Int}, (∀ n ∈ l, 1 ≤ n ∧ n ≤ 90) → Qay l k' ≤ Qay l k := by
 intro l
 induction l with
 | nil => intro _; exact Z4 _
 | cons n l ih =>
  intro hl
  have h1 := Qfp (b := n) (by have := hl n (by simp); omega) hk h
  have h3 := ih fun m hm => hl m (by simp [hm])
  unfold Qay at h3 ⊢
  simp only [Qc, List.sum_cons]
  omega
theorem Qu5 {c : Cane} (ht : Qa4 c ≠ []) : trF c ∈ Qa4 c := by
 unfold trF
 have := Xl.2 ht
 rw [Qa, Qn this]
 exact Ja _
theorem Qu6 {c : Cane} (ht : Qa4 c ≠ []) : trL c ∈ Qa4 c := by
 unfold trL
 have := Xl.2 ht
 rw [Qa, Qn (show (Qa4 c).length - 1 < (Qa4 c).length by omega)]
 exact Ja _
theorem Qrk {c : Cane} (hc : OkC c) (ht : Qa4 c ≠ []) {l : List Int} (hl : ∀ n ∈ l, 1 ≤ n ∧ n ≤ 90) (w : Span) :
  Qd1 l w (Qa4 c) = (Qa4 c).length ↔ w.low ≤ Qay l (trL c) ∧ Qay l (trF c) ≤ w.high := by
 unfold Qd1
 rw [List.countP_eq_length]
 simp only [Qai, Xc, decide_eq_true_eq]
 constructor
 ·intro h
  exact ⟨(h _ (Qu6 ht)).1, (h _ (Qu5 ht)).2⟩
 ·intro h k hk
  have h1 := Qop hk
  have h2 := Qc0 hc hk
  have h3 := Qr0 hc ht
  have h4 := Qg7 (k := k) (k' := trL c) h2.1 h1.2 hl
  have h5 := Qg7 (k := trF c) (k' := k) h3.1 h1.1 hl
  omega
def Qfs (c : Cane) (ks : List Int) (w : Span) : Nat → List Int → Bool
 | 0, f => decide (Qd1 f w ks = ks.length)
 | n + 1, f => (ints 1 (Qby c f.length)).any fun b => Qfs c ks w n (f ++ [b])
theorem Qo9 {c : Cane} (hc : OkC c) (ht : Qa4 c ≠ []) (w : Span) : ∀ (n : Nat) (f : List Int), Poss c f → (Qfs c (Qa4 c) w n f = true ↔ ∃ m, m.length = n ∧ Sure c w (f ++ m)) := by
 intro n
 induction n with
 | zero =>
  intro f hf
  rw [Qfs, decide_eq_true_eq, Qrk hc ht hf.in_]
  constructor
  ·intro h; exact ⟨[], rfl, by rw [Qi]; exact ⟨hf, h⟩⟩
  ·rintro ⟨m, hm, hs⟩
   rw [Xt hm, Qi] at hs
   exact hs.2
 | succ n ih =>
  intro f hf
  rw [Qfs, Zt]
  constructor
  ·rintro ⟨b, hb, h⟩
   rw [Qda] at hb
   obtain ⟨m, hm, hs⟩ := (ih (f ++ [b]) (Qhk.2 ⟨hf, hb⟩)).1 h
   exact ⟨b :: m, by simp [hm], by simpa using hs⟩
  ·rintro ⟨m, hm, hs⟩
   cases m with
   | nil => simp at hm
   | cons b m =>
    have hp : Poss c (f ++ [b]) := by
     intro i hi
     have := hs.1 i (by simp at hi ⊢; omega)
     rw [show f ++ b :: m = (f ++ [b]) ++ m by simp, Qgu hi] at this
     exact this
    refine ⟨b, Qda.2 (Qhk.1 hp).2, (ih _ hp).2 ⟨m, by simpa using hm, by simpa using hs⟩⟩
theorem Qrx (c : Cane) : Poss c [] := fun i hi => absurd hi (Nat.not_lt_zero _)
theorem Qrg {c : Cane} (hc : OkC c) (ht : Qa4 c ≠ []) (w : Span) : fewN c w = (Xm 7).find? fun n => Qfs c (Qa4 c) w n [] := by
 have key : ∀ n, Qfs c (Qa4 c) w n [] = true ↔ ∃ m, m.length = n ∧ Sure c w m := fun n => by simpa using Qo9 hc ht w n [] (Qrx c)
 cases hf : (Xm 7).find? fun n => Qfs c (Qa4 c) w n [] with
 | none =>
  rw [Qlo]
  intro l hl
  refine Nat.lt_of_not_le fun h6 => ?_
  rw [Xv] at hf
  exact hf l.length (by simp; omega) ((key _).2 ⟨l, rfl, hl⟩)
 | some n =>
  rw [Xr] at hf
  obtain ⟨h1, i, hi, he, hlt⟩ := hf
  simp only [List.length_range] at hi
  simp only [X6] at he hlt
  subst he
  obtain ⟨m, hm, hs⟩ := (key _).1 h1
  refine Qlp.2 ⟨by omega, ⟨m, hs, hm⟩, fun l hl => Xx fun h6 => ?_⟩
  have := hlt l.length h6
  rw [(key _).2 ⟨l, rfl, hl⟩] at this
  cases this
def exC : Cane := ⟨⟨180, 220⟩, [⟨50, ⟨10, 10⟩⟩], 0, 40, 10⟩
def exS : Box := ⟨2, [⟨10, 5⟩, ⟨20, 3⟩, ⟨5, 4⟩]⟩
theorem Qvn : OkC exC := (Qqb _).1 (by decide +kernel)
theorem Qoa : Qa4 exC = (Xm 20).map fun (n : Nat) => (200 + n : Int) := by decide +kernel
theorem Qt7 : fewR exC ⟨31, 31⟩ = (2, 0) := by
 unfold fewR
 rw [if_pos (by decide +kernel), Qrg Qvn (by rw [Qoa]; decide)]
 have e : ((Xm 7).find? fun n => Qfs exC (Qa4 exC) ⟨31, 31⟩ n []) = some 2 := by decide +kernel
 rw [e]; rfl
theorem Qn8 : (Qca exC ⟨31, 31⟩).1 = 2 ∧ (Qca exC ⟨31, 31⟩).2.2 = 0 := by decide +kernel
theorem Qsk : stL exC ⟨0, 0⟩ [] = (Xm 20).map (fun (n : Nat) => (200 + n : Int)) ∧ stE exC ⟨0, 0⟩ [] = 0 := by decide +kernel
theorem Qpe : Qdh exC [39] = (⟨31, 32⟩, 0) := by decide +kernel
theorem Qpf : Qfk exS = (27, 0) := by decide +kernel
end Go.C06
set_option linter.unusedSimpArgs false
set_option linter.unusedVariables false
namespace Go.C06
open Go.Fam Go.Proofs
variable {Γ : Gam}
theorem W57 : Qad Try.prog 57 [] (.ag (Qa8 exC)) := by
 refine Qae Qok hmix Try.func57 cb57 cc57 cs57 cn57 ?_
 simp only [rc57, rs57, Qaa, Qab, Qaf, Qa7, Qcs, putB, Qag, Qa6, Qa1, Fam.step, Qah, Qbn, Qat, putB, nv, sv, evO, opv, qv, ldV, Qao, putAt, Qb0, Qb9, V.cells, Qax, Qb5, Qa9, Qa5, Qa2, Qau, Qa0, Qa3, ↓reduceIte, Nat.reduceEqDiff, Nat.reduceAdd, Nat.reduceMul, Nat.reduceLeDiff, Qc, Qd, Qy, Qw, Qe, Qf, Qh, Qr, Zl, Qg, Q9, Qz, Qx, Qu, Qi, Qj, Q0, Qs, Q6, endQ, rvs, rv1, resV, vw_i, Qb8, Qb4, zipA, Qk, Qt, Qo, true_and, and_self, reduceCtorEq, not_false_eq_true, ne_eq, Qa8]
 rfl
theorem W58 : Qad Try.prog 58 [] (.ag (eBox exS)) := by
 refine Qae Qok hmix Try.func58 cb58 cc58 cs58 cn58 ?_
 simp only [rc58, rs58, Qaa, Qab, Qaf, Qa7, putB, Qag, Qa6, Qa1, Fam.step, Qah, Qbn, Qat, putB, nv, sv, evO, opv, qv, ldV, Qao, putAt, Qb0, Qb9, V.cells, Qax, Qb5, Qa9, Qa5, Qa2, Qau, Qa0, Qa3, ↓reduceIte, Nat.reduceEqDiff, Nat.reduceAdd, Nat.reduceMul, Nat.reduceLeDiff, Qc, Qd, Qy, Qw, Qe, Qf, Qh, Qr, Zl, Qg, Q9, Qz, Qx, Qu, Qi, Qj, Q0, Qs, Q6, endQ, rvs, rv1, resV, vw_i, Qb8, Qb4, zipA, Qk, Qt, Qo, true_and, and_self, reduceCtorEq, not_false_eq_true, ne_eq, eBox]
 rfl
def cst (v : V) : List V → Prop × V | [] => (True, v) | _ => (False, .u)
theorem Qp5 {f : Nat} {v : V} (h : Qad Try.prog f [] v) (vs : List V) (h2 : (cst v vs).1) : Qad Try.prog f vs (cst v vs).2 := by
 unfold cst at h2 ⊢
 split at h2
 ·exact h
 ·exact h2.elim
noncomputable def H30 : Gam := ((((H29.ext 57 (cst (.ag (Qa8 exC)))).ext 58 (cst (.ag (eBox exS)))).ext 34 (fnG eCI dCI (fun a => OkC a.1) (fun a => isTB a.1 a.2) .b)).ext 21 (fnG eLI dLI (fun a => Qdr a.1 ∧ tame 1000 a.2) (fun a => Qay a.1 a.2) .i)).ext 17 (fnG eCL dCL (fun a => OkC a.1) (fun a => areB a.1 a.2) .b)
theorem Qtm : GOk Try.prog H30 := by
 have k1 := Qok.ext (f := 57) (r := cst (.ag (Qa8 exC))) (fun a w => Try.call57 a w) (Qp5 W57)
 have k2 := k1.ext (f := 58) (r := cst (.ag (eBox exS))) (fun a w => Try.call58 a w) (Qp5 W58)
 have k3 := k2.ext (f := 34) (fun a w => Try.call34 a w) (Qb6 (e := eCI) (d := dCI) (ok := fun a => OkC a.1) (g := fun a => isTB a.1 a.2) (eb := .b) fun a h => W34 a.1 a.2 h)
 have k4 := k3.ext (f := 21) (fun a w => Try.call21 a w) (Qb6 (e := eLI) (d := dLI) (ok := fun a => Qdr a.1 ∧ tame 1000 a.2) (g := fun a => Qay a.1 a.2) (eb := .i) fun a h => W21 a.1 a.2 h)
 exact k4.ext (f := 17) (fun a w => Try.call17 a w) (Qb6 (e := eCL) (d := dCL) (ok := fun a => OkC a.1) (g := fun a => areB a.1 a.2) (eb := .b) fun a h => W17 a.1 a.2 h)
theorem h57 : H30 57 [] = (True, .ag (Qa8 exC)) := rfl
theorem h58 : H30 58 [] = (True, .ag (eBox exS)) := rfl
theorem h34 (c : Cane) (k : Int) : H30 34 [.ag (Qa8 c), .i k] = (OkC c, .b (isTB c k)) :=
 (show H30 34 _ = fnG eCI dCI (fun a => OkC a.1) (fun a => isTB a.1 a.2) .b (eCI (c, k)) from rfl).trans (Qbe _ (Qt2 _))
theorem h21 (l : List Int) (k : Int) : H30 21 [.sl 1 (l.map eI), .i k] = (Qdr l ∧ tame 1000 k, .i (Qay l k)) :=
 (show H30 21 _ = fnG eLI dLI (fun a => Qdr a.1 ∧ tame 1000 a.2) (fun a => Qay a.1 a.2) .i (eLI (l, k)) from rfl).trans (Qbe _ (Qvg _))
theorem Qus (c : Cane)  : H30 19 [.ag (Qa8 c)] = (True, .tp [.sl 1 ((stL c ⟨0, 0⟩ []).map eI), .i (stE c ⟨0, 0⟩ [])]) := h19 c
theorem Qut (c : Cane) (l : List Int)  : H30 20 [.ag (Qa8 c), .sl 1 (l.map eI)] = (True, .tp [.ag (Qan (Qdh c l).1), .i (Qdh c l).2]) := h20 c l
theorem Quu (c : Cane) (w : Span)  : H30 25 [.ag (Qa8 c), .ag (Qan w)] = (True, .tp [.i (fewR c w).1, .i (fewR c w).2]) := h25 c w
theorem Quv (c : Cane) (w : Span)  : H30 26 [.ag (Qa8 c), .ag (Qan w)] = (True, .tp [.i (Qca c w).1, .i (Qca c w).2.2]) := h26 c w
theorem Quw (s : Box)  : H30 51 [.ag (eBox s)] = (True, .tp [.i (Qfk s).1, .i (Qfk s).2]) := h51 s
theorem eq23 : Qas Try.prog 23 2 := Qas.of (fs := _) (show Try.prog.underlying 23 = some (.struct (Try.prog.fieldsOf 23)) by kernel_rfl) (by kernel_rfl) (by kernel_rfl)
set_option maxRecDepth 100000 in
set_option maxHeartbeats 4000000 in
theorem W18 : Qad Try.prog 18 [] (.b true) := by
 refine Qae Qtm hmix Try.func18 cb18 cc18 cs18 cn18 ?_
 obtain ⟨c, hc⟩ : ∃ c, c = exC := ⟨_, rfl⟩
 obtain ⟨s, hs⟩ : ∃ s, s = exS := ⟨_, rfl⟩
 obtain ⟨L, hL⟩ : ∃ L : List Int, L = (Xm 20).map fun (n : Nat) => (200 + n : Int) := ⟨_, rfl⟩
 have g1 := Qus c
 have g2 := Qut c [39]
 have g3 := Quu c ⟨31, 31⟩
 have g4 := Quv c ⟨31, 31⟩
 have g5 := Quw s
 have g6 := h57
 have g7 := h58
 rw [hc, Qsk.1, Qsk.2, ← hL, ← hc] at g1
 rw [hc, Qpe, ← hc] at g2
 rw [hc, Qt7, ← hc] at g3
 rw [hc, Qn8.1, Qn8.2, ← hc] at g4
 rw [hs, Qpf, ← hs] at g5
 rw [← hc] at g6
 rw [← hs] at g7
 have l1 : (L.length : Int) = 20 := by rw [hL]; rfl
 have l2 : L[0]? = some 200 := by rw [hL]; rfl
 clear hL hc hs
 unfold Qa8 at g1 g2 g3 g4 g6
 unfold eBox at g5 g7
 simp only [Qc, Qd, Qan, eI] at g1 g2 g3 g4 g5 g6 g7
 simp only [rc18, rs18, g1, g2, g3, g4, g5, g6, g7, l1, l2, Qaa, Qab, Qaf, Qa7, Qcs, putB, Qag, Qa6, Qa1, Fam.step, Qah, Qbn, Qbm, Qat, Qbc, ug, putB, nv, sv, evO, opv, qv, Qar, binV, ldV, iadV, lenV, Qb1, Qao, putAt, Qb0, Qb9, V.cells, Qax, Qb5, Qbo, Qa9, Qa5, flat, Qcf, Qa2, Qau, Qa0, Qa3, ↓reduceIte, Nat.reduceEqDiff, Nat.reduceAdd, Nat.reduceMul, Nat.reduceLT, Nat.reduceLeDiff, Zx, Int.reduceLT, Int.reduceLE, Qc, Qd, Qy, Qw, Qe, Qf, Qh, Qr, Zl, Qg, Q9, Qz, Qm, Qx, Qu, Qi, Qj, Qq, Qp, Q0, Zb, Qs, Q6, endQ, rvs, rv1, resV, vw_i, vw_b, Qb8, Qb4, zipA, beq_self_eq_true, Qk, V.b.injEq, Qt, Q1, Zu, Qo, Qb, Zf, decide_true, true_and, and_true, and_self, forall_const, implies_true, reduceCtorEq, not_false_eq_true, ne_eq, Q7, beq_true, Qdg, Zc, imp_self, Ql, Qa, Q2, eI]
 exact ⟨eq23, rfl⟩
theorem W71 (c : Cane) (h : OkC c) : Qad Try.prog 71 [.ag (Qa8 c)] (.sl 1 ((Qa4 c).map eI)) := by
 refine Qae Qtm hmix Try.func71 cb71 cc71 cs71 cn71 ?_
 have k1 := h.low
 have k2 := h.le
 have k3 := h.high
 have k4 := h.spread
 simp only [rc71, rs71, Qaa, Qab, Qac, Qa7, Qdx, Qag, Qa6, Qa1, Fam.step, Qah, evO, opv, qv, ldV, V.cells, Qax, Qa9, Qa5, Qa2, Qa0, Qa3, ↓reduceIte, Nat.reduceEqDiff, Nat.reduceAdd, Nat.reduceLeDiff, Qc, Qd, Qe, Qf, Qr, Qm, Qu, vw_i, Qb8, Qb4, zipA, Qk, Qo, Qb, true_and, and_self, Qa8]
 obtain ⟨T, hT⟩ : ∃ T : Nat → List Int, T = fun i => ((ints c.spring.low c.spring.high).take i).filter (Qeg c) := ⟨_, rfl⟩
 have hlen : ∀ i, (T i).length ≤ 41 := fun i => by
  rw [hT]
  refine Nat.le_trans (List.length_filter_le _ _) ?_
  rw [List.length_take, Qgb]; omega
 refine Qcb (c.spring.high + 1 - c.spring.low).toNat (fun i => ⟨lkp [(1, .pa (Qa8 c)), (3, .rf 0 (T i).length 0 (T i).length 1), (4, .i (c.spring.low + i))], [.cells (T i).length ((T i).map V.i)]⟩) ?_ ?_ ?_
 ·have h0 : T 0 = [] := by rw [hT]; rfl
  simp only [Xd, X8, h0, kp, Qa0, Qa3, ↓reduceIte, Nat.reduceEqDiff, Qc, Qd, Qf, Qa8]
 ·intro i hi
  have hx := Qhe hi
  have hlt : c.spring.low + (i : Int) ≤ c.spring.high := by omega
  have h3 : inI (c.spring.low + (i : Int) + 1) := by unfold inI; omega
  have g1 := h34 c (c.spring.low + i)
  unfold Qa8 at g1
  have hw : isTB c (c.spring.low + i) = Qeg c (c.spring.low + i) := by
   have : Qai (c.spring.low + i) c.spring.low c.spring.high = true := by simp only [Qai, Xc, decide_eq_true_eq]; omega
   simp [isTB, this]
  have hs : T (i + 1) = if Qeg c (c.spring.low + i) = true then T i ++ [c.spring.low + i] else T i := by
   rw [hT]
   simp only [Qbv hx, List.filter_append, List.filter_cons, List.filter_nil]
   split <;> simp
  have hl1 := hlen i
  have hl2 : ((T i).map V.i).length = (T i).length := by simp
  have hfl : Qci ((T i).length + 1) := by unfold Qci; omega
  have happ : (T i).map V.i ++ [V.i (c.spring.low + i)] = (T i ++ [c.spring.low + (i : Int)]).map V.i := by simp
  simp only [hlt, g1, h, hw, Qam, Qaa, Qab, Qal, Qbq, Qac, Qa7, Qcs, putB, Qag, Qaq, Qa6, Qa1, Fam.step, Qah, Qbn, Qat, putB, nv, sv, Qce, evO, opv, qv, binV, ldV, Qb1, Qao, putAt, Qb0, Qb9, V.cells, Qax, Qb5, Qa9, Qa5, flat, kp, Qa2, Qa0, Qa3, ↓reduceIte, Nat.reduceEqDiff, Nat.reduceAdd, Nat.reduceMul, Nat.reduceLT, Nat.reduceLeDiff, Qc, Qd, Qy, Qw, Qe, Qf, Qh, Qr, Qg, Q9, Qz, Qm, Qx, Qu, Qi, Qj, Q0, Qs, Q6, vw_i, Qb8, Qb4, Qk, Qt, Qo, Qb, decide_true, true_and, and_self, implies_true, reduceCtorEq, not_false_eq_true, ne_eq, Ql, Zp, Qa8]
  refine ⟨fun e => ?_, fun e => ?_⟩
  ·rw [if_pos e] at hs
   simp only [hs, hfl, happ, h3, Nat.mul_one, Xa, Xb, List.flatten_cons, Jb, List.length_append, Qe, Qf, Qk, Qe, Qf, Qi, Qk, true_and, and_self]
   rw [Xw]
  ·rw [if_neg (by simp [e])] at hs
   simp only [hs, h3, Xa, Xb, true_and]
   rw [Xw]
 ·have hgt : ¬ (c.spring.low + ((c.spring.high + 1 - c.spring.low).toNat : Int) ≤ c.spring.high) := by omega
  have hE : T (c.spring.high + 1 - c.spring.low).toNat = Qa4 c := by
   rw [hT]
   simp only
   rw [List.take_of_length_le (by rw [Qgb]; omega)]; rfl
  simp only [hgt, hE, Nat.mul_one, Xq, Qp3, vw_I, Qaa, Qab, Qal, Qaw, Qaf, Qa7, Qag, Qaq, Qa6, Qa1, Fam.step, Qah, evO, opv, qv, binV, ldV, Qa2, Qa0, Qa3, ↓reduceIte, Nat.reduceEqDiff, Nat.reduceAdd, Nat.reduceLeDiff, Qc, Qd, Qe, Qf, Qh, Qr, Qm, Qj, endQ, rvs, rv1, resV, Qel, Qk, Qb, decide_false, and_self, Ql, Qa8]
noncomputable def H31 : Gam := (H30.ext 18 (cst (.b true))).ext 71 (fnG eC1 dC1 OkC Qa4 fun l => .sl 1 (l.map eI))
theorem Qtn : GOk Try.prog H31 := (Qtm.ext (f := 18) (r := cst (.b true)) (fun a w => Try.call18 a w) (Qp5 W18)).ext (f := 71) (fun a w => Try.call71 a w) (Qb6 (e := eC1) (d := dC1) (ok := OkC) (g := Qa4) (eb := fun l => .sl 1 (l.map eI)) fun c h => W71 c h)
theorem h18 : H31 18 [] = (True, .b true) := rfl
theorem h71 (c : Cane) : H31 71 [.ag (Qa8 c)] = (OkC c, .sl 1 ((Qa4 c).map eI)) := (show H31 71 _ = fnG eC1 dC1 OkC Qa4 (fun l => .sl 1 (l.map eI)) (eC1 c) from rfl).trans (Qbe _ (Qjs _))
theorem Quz (n lo hi : Int)  : H31 56 [.i n, .i lo, .i hi] = (True, .b (Qai n lo hi)) := h56 n lo hi
theorem Quy (c : Cane) (b i : Int)  : H31 37 [.ag (Qa8 c), .i b, .i i] = (Qdp c i, .b (Qgw c b i)) := h37 c b i
theorem Qux (c : Cane)  : H31 16 [.ag (Qa8 c)] = (True, .i (Qc6 c)) := h16 c
theorem Qv0 (w : Span)  : H31 89 [.ag (Qan w)] = (True, .b (Qb7 w 540)) := h89 w
theorem W42 (c : Cane) (h : OkC c) : Qad Try.prog 42 [.ag (Qa8 c)] (.sl 1 ((Qa4 c).map eI)) := by
 refine Qae Qtn hmix Try.func42 cb42 cc42 cs42 cn42 ?_
 have g1 := h71 c
 unfold Qa8 at g1
 simp only [rc42, rs42, g1, h, Qaa, Qab, Qaf, Qa7, Qag, Qa6, Qa1, Fam.step, Qah, evO, opv, qv, ldV, Qb1, V.cells, Qax, Qa9, Qa5, flat, Qa2, Qa0, Qa3, ↓reduceIte, Nat.reduceEqDiff, Nat.reduceAdd, Nat.reduceLT, Nat.reduceLeDiff, Qc, Qd, Qe, Qf, Qg, Qz, Qi, endQ, rvs, rv1, resV, vw_i, Qb8, Qb4, zipA, Qk, Qo, Qb, and_self, imp_self, Qa8]
theorem Qjk {c : Cane} (h : OkC c) (b : Int) (i : Nat) : Qgw c b i = true ↔ 1 ≤ b ∧ b ≤ Qby c i := by
 have h1 := h.limit
 have h2 := h.tire
 have h3 : 0 ≤ c.tire * (i : Int) := Int.mul_nonneg h2.1 (by omega)
 simp only [Qgw, Qby, Xc, decide_eq_true_eq]
 omega
theorem Qr7 {c : Cane} (h : OkC c) (l : List Int) : areB c l = true ↔ l.length ≤ 6 ∧ Poss c l := by
 unfold areB Poss
 simp only [Xc, decide_eq_true_eq, Xk, List.mem_range, Qjk h]
theorem W62 (c : Cane) (l : List Int) (w : Span) : Qad Try.prog 62 [.ag (Qa8 c), .sl 1 (l.map eI), .ag (Qan w)] (.tp [.sl 1 ((stL c w l).map eI), .i (stE c w l)]) := by
 refine Qae Qtn hmix Try.func62 cb62 cc62 cs62 cn62 ?_
 have g1 := Qux c
 have g2 := Qv0 w
 have g4 := h71 c
 unfold Qa8 at g1 g4
 unfold Qan at g2
 simp only [rc62, rs62, g1, Qam, Qaa, Qab, Qal, Qbq, Qac, Qaf, Qa7, Qag, Qa6, Qa1, Fam.step, Qah, Qbm, Qbc, ug, evO, opv, qv, binV, ldV, lenV, Qb1, V.cells, Qax, Qa9, Qa5, flat, Qa2, Qa0, Qa3, ↓reduceIte, Nat.reduceEqDiff, Nat.reduceAdd, Nat.reduceLT, Nat.reduceLeDiff, Qc, Qd, Qy, Qw, Qe, Qf, Qg, Qz, Qi, Qv, endQ, rvs, rv1, resV, vw_i, vw_z, Qb8, Qb4, Qc5, zipA, Qk, Qt, Q1, Qo, Qb, decide_eq_true_eq, decide_eq_false_iff_not, true_and, and_true, and_self, false_implies, implies_true, reduceCtorEq, beq_false, Q5, imp_self, Ql, Zp, Classical.not_not, Qan, Qa8]
 refine ⟨fun h => ?_, fun h => ?_⟩
 ·have e : stE c w l = Qc6 c := by unfold stE; rw [if_pos h]
  have e2 : stL c w l = [] := by unfold stL; rw [e, if_neg h]
  simp only [e, e2, Qd]
 ·have hC := Qf6.1 h
  simp only [g2, Qar, decide_eq_true_eq, true_and, and_true, Qe5, imp_self]
  refine ⟨fun hb => ?_, fun hb => ?_⟩
  ·have e : stE c w l = 1 := by
    unfold stE
    rw [if_neg (by simp [h]), if_pos]
    by_cases h1 : Qb7 w 540 = true
    ·left
     simp [h1] at hb
     omega
    ·right; left; simpa using h1
   have e2 : stL c w l = [] := by unfold stL; rw [e]; rfl
   simp only [e, e2, Qd]
  ·have hl6 : l.length ≤ 6 ∧ Qb7 w 540 = true := by
    simp only [X3, decide_eq_false_iff_not, Zj] at hb
    exact ⟨by omega, hb.2⟩
   refine Qcw l.length (fun i => ⟨lkp [(1, .sl 1 (l.map eI)), (3, .pa (Qa8 c)), (9, .i i)], []⟩) (fun i => ∀ (j : Nat) n, j < i → l[j]? = some n → Qai n 1 90 = true) ?_ ?_ ?_ ?_
   ·simp only [Xd, kp, Qa0, Qa3, ↓reduceIte, Nat.reduceEqDiff, Qc, Qd, Qa8]
   ·intro j n hj; omega
   ·intro i hi hcr
    obtain ⟨n, hn⟩ : ∃ n, l[i]? = some n := ⟨_, Qn hi⟩
    have hlt : (i : Int) < l.length := by omega
    have h4 : inI ((i : Int) + 1) := by unfold inI; omega
    simp only [hn, hlt, Quz, h4, Xa, Xb, Qam, Qaa, Qab, Qal, Qbq, Qac, Qaf, Qa7, Qag, Qaq, Qa6, Qa1, Fam.step, Qah, evO, opv, qv, binV, ldV, iadV, lenV, Qb1, Qa9, Qa5, flat, kp, Qa2, Qa0, Qa3, ↓reduceIte, Nat.reduceEqDiff, Nat.reduceLT, Nat.reduceLeDiff, Qc, Qd, Qe, Qf, Qm, Qi, Qv, Qp, endQ, rvs, rv1, resV, vw_i, vw_z, Qc5, Q4, Qk, Qo, Qb, decide_true, true_and, and_true, and_self, implies_true, Q7, Q5, Ql, Q3, Qa, Q2, Zn, Qa8, eI]
    refine ⟨fun hw => ?_, fun hw => ?_⟩
    ·have e : stE c w l = 1 := by
      unfold stE
      rw [if_neg (by simp [h]), if_pos]
      right; right
      rw [Zt]
      exact ⟨n, Xh hn, by simpa using hw⟩
     have e2 : stL c w l = [] := by unfold stL; rw [e]; rfl
     simp only [e, e2, Qd]
    ·intro j m hj hm
     by_cases hji : j < i
     ·exact hcr j m hji hm
     ·have : j = i := by omega
      subst this
      rw [hn] at hm; cases hm
      simpa using hw
   ·intro hcr
    have h77 : ¬ ((l.length : Int) < l.length) := by omega
    have hns : ¬ (6 < l.length ∨ Qb7 w 540 = false ∨ (l.any fun n => !Qai n 1 90) = true) := by
     rintro (h1 | h1 | h1)
     ·omega
     ·rw [hl6.2] at h1; cases h1
     ·rw [Zt] at h1
      obtain ⟨n, hn, hn2⟩ := h1
      obtain ⟨j, hj⟩ := X4 hn
      rw [hcr j n (Qap hj) hj] at hn2
      cases hn2
    simp only [h77, Qaa, Qab, Qal, Qac, Qaw, Qa7, Qag, Qaq, Qa6, Qa1, Fam.step, Qah, evO, opv, qv, binV, lenV, Qa2, Qa0, Qa3, ↓reduceIte, Nat.reduceEqDiff, Qc, Qd, Qb, decide_false, true_and, Ql, Qa8]
    refine Qcw l.length (fun i => ⟨lkp [(1, .sl 1 (l.map eI)), (3, .pa (Qa8 c)), (10, .i i)], []⟩) (fun i => ∀ j : Nat, j < i → ¬ Qby c j < l.getD j 0) ?_ ?_ ?_ ?_
    ·simp only [Xd, kp, Qa0, Qa3, ↓reduceIte, Nat.reduceEqDiff, Qc, Qd, Qa8]
    ·intro j hj; omega
    ·intro i hi hc2
     obtain ⟨n, hn⟩ : ∃ n, l[i]? = some n := ⟨_, Qn hi⟩
     have hd : l.getD i 0 = n := by rw [Qa, hn]; rfl
     have hlt : (i : Int) < l.length := by omega
     have h4 : inI ((i : Int) + 1) := by unfold inI; omega
     have g5 := Quy c n i
     unfold Qa8 at g5
     have hm := hC.most (i := i) (by unfold tame; omega)
     have hw := hcr i n hi hn
     have hp := Qjk hC n i
     simp only [Qai, Xc, decide_eq_true_eq] at hw
     simp only [hn, hlt, g5, hm, h4, Xa, Xb, Qam, Qaa, Qba, Qab, Qal, Qbq, Qac, Qaf, Qa7, Qb3, Qag, Qaq, Qa6, Qa1, Fam.step, Qah, runX, eff, Qb2, fpR, fpQ, fpV, Qbp, hits, evO, opv, qv, binV, ldV, iadV, lenV, Qb1, Qa9, Qa5, flat, kp, Qa2, Qa0, Qa3, ↓reduceIte, Nat.reduceEqDiff, Nat.reduceAdd, Nat.reduceLT, Nat.reduceLeDiff, Qc, Qd, Qw, Qe, Qf, Qg, Qz, Qm, Qx, Qu, Qi, Qv, Qp, Q8, Qs, Zd, endQ, rvs, rv1, resV, vw_i, vw_z, Qb8, Qb4, Qc5, Q4, Qk, Qt, Q1, Ze, Qo, Zi, Zm, Qb, decide_true, true_and, and_true, and_self, implies_true, Q7, Zv, Za, Q5, Ql, Q3, Qa, Q2, Zn, Qa8, eI]
     refine ⟨fun hq => ?_, fun hq => ?_⟩
     ·have e0 : Qfr c l = true := by
       unfold Qfr
       rw [Zt]
       refine ⟨i, by simpa using hi, ?_⟩
       rw [hd, decide_eq_true_eq]
       have : ¬ Qgw c n i = true := by simpa using hq
       rw [hp] at this
       omega
      have e : stE c w l = 61 := by unfold stE; rw [if_neg (by simp [h]), if_neg hns, if_pos e0]
      have e2 : stL c w l = [] := by unfold stL; rw [e]; rfl
      simp only [e, e2, Qd]
     ·intro j hj
      by_cases hji : j < i
      ·rw [← Qa]; exact hc2 j hji
      ·have : j = i := by omega
       subst this
       rw [← Qa, hd]
       have := hp.1 (by simpa using hq)
       omega
    ·intro hc2
     have e0 : ¬ Qfr c l = true := by
      unfold Qfr
      rw [Zt]
      rintro ⟨i, hi, hi2⟩
      exact hc2 i (by simpa using hi) (by simpa using hi2)
     simp only [h77, g4, hC, Qam, Qaa, Qab, Qal, Qbq, Qaw, Qaf, Qa7, Qag, Qaq, Qa6, Qa1, Fam.step, Qah, evO, opv, qv, binV, ldV, lenV, Qb1, Qa9, Qa5, flat, Qa2, Qa0, Qa3, ↓reduceIte, Nat.reduceEqDiff, Nat.reduceAdd, Nat.reduceLT, Nat.reduceLeDiff, Qc, Qd, Qe, Qf, Qg, Qz, Qi, Qv, endQ, rvs, rv1, resV, vw_i, vw_z, Qb8, Qb4, Qc5, Qk, Qo, Qb, decide_false, decide_eq_true_eq, true_and, and_self, imp_self, Ql, Qa8]
     refine ⟨fun ht => ?_, fun ht => ?_⟩
     ·have ht : Qa4 c = [] := Xt (by omega)
      have e : stE c w l = 3 := by unfold stE; rw [if_neg (by simp [h]), if_neg hns, if_neg e0, if_pos ht]
      have e2 : stL c w l = [] := by unfold stL; rw [e]; rfl
      simp only [e, e2, Qd]
     ·have ht : ¬ Qa4 c = [] := fun e => by rw [e] at ht; simp at ht
      have e : stE c w l = 0 := by unfold stE; rw [if_neg (by simp [h]), if_neg hns, if_neg e0, if_neg ht]
      have e2 : stL c w l = Qa4 c := by unfold stL; rw [if_pos e]
      simp only [e, e2]
end Go.C06
set_option linter.unusedSimpArgs false
set_option linter.unusedVariables false
namespace Go.C06
open Go.Fam Go.Proofs
variable {Γ : Gam}
noncomputable def H32 : Gam := (H31.ext 42 (fnG eC1 dC1 OkC Qa4 fun l => .sl 1 (l.map eI))).ext 62 (fnG eCLS dCLS (fun _ => True) (fun a => (stL a.1 a.2.2 a.2.1, stE a.1 a.2.2 a.2.1)) fun r => .tp [.sl 1 (r.1.map eI), .i r.2])
theorem Qto : GOk Try.prog H32 := (Qtn.ext (f := 42) (fun a w => Try.call42 a w) (Qb6 (e := eC1) (d := dC1) (ok := OkC) (g := Qa4) (eb := fun l => .sl 1 (l.map eI)) fun c h => W42 c h)).ext (f := 62) (fun a w => Try.call62 a w)
 (Qb6 (e := eCLS) (d := dCLS) (ok := fun _ => True) (g := fun a => (stL a.1 a.2.2 a.2.1, stE a.1 a.2.2 a.2.1)) (eb := fun r => .tp [.sl 1 (r.1.map eI), .i r.2]) fun a _ => W62 a.1 a.2.1 a.2.2)
theorem h62 (c : Cane) (l : List Int) (w : Span) : H32 62 [.ag (Qa8 c), .sl 1 (l.map eI), .ag (Qan w)] = (True, .tp [.sl 1 ((stL c w l).map eI), .i (stE c w l)]) :=
 (show H32 62 _ = fnG eCLS dCLS (fun _ => True) (fun a => (stL a.1 a.2.2 a.2.1, stE a.1 a.2.2 a.2.1)) (fun r => .tp [.sl 1 (r.1.map eI), .i r.2]) (eCLS (c, l, w)) from rfl).trans (Qbe _ (Qvd _))
theorem Qv2 (n lo hi : Int)  : H32 56 [.i n, .i lo, .i hi] = (True, .b (Qai n lo hi)) := h56 n lo hi
theorem Qv1 (l : List Int) (k : Int)  : H32 21 [.sl 1 (l.map eI), .i k] = (Qdr l ∧ tame 1000 k, .i (Qay l k)) := h21 l k
theorem W27 (c : Cane) : Qad Try.prog 27 [.ag (Qa8 c)] (.tp [.sl 1 ((stL c ⟨0, 0⟩ []).map eI), .i (stE c ⟨0, 0⟩ [])]) := by
 refine Qae Qto hmix Try.func27 cb27 cc27 cs27 cn27 ?_
 have g1 := h62 c [] ⟨0, 0⟩
 unfold Qa8 Qan at g1
 simp only [Qd] at g1
 simp only [rc27, rs27, g1, Qaa, Qab, Qaf, Qa7, Qag, Qa6, Qa1, Fam.step, Qah, evO, opv, qv, ldV, Qb1, Qao, Qb0, V.cells, Qax, Qa9, Qa5, flat, Qcf, Qa2, Qa0, Qa3, ↓reduceIte, Nat.reduceEqDiff, Nat.reduceAdd, Nat.reduceLT, Nat.reduceLeDiff, Qc, Qd, Qe, Qf, Qg, Qz, Qi, Qj, Qq, Qv, Qp, endQ, rvs, rv1, resV, vw_i, vw_z, Qb8, Qb4, Qc5, zipA, Qk, Qt, Q1, Qo, Qb, and_self, imp_self, Qa8]
theorem W70 (ks l : List Int) (w : Span) (h : Qdr l ∧ ks.length ≤ 1000 ∧ ∀ k ∈ ks, tame 1000 k) : Qad Try.prog 70 [.sl 1 (ks.map eI), .sl 1 (l.map eI), .ag (Qan w)] (.i (Qd1 l w ks)) := by
 refine Qae Qto hmix Try.func70 cb70 cc70 cs70 cn70 ?_
 simp only [rc70, rs70, Qaa, Qab, Qac, Qa7, Qag, Qa6, Qa1, Fam.step, Qah, evO, opv, qv, V.cells, Qax, Qa9, Qa5, Qa2, Qa0, Qa3, ↓reduceIte, Nat.reduceEqDiff, Nat.reduceAdd, Qc, Qd, vw_i, Qb4, zipA, Qk, Qo, true_and, and_self, reduceCtorEq, Qan]
 refine Qcb ks.length (fun i => ⟨lkp [(0, .sl 1 (ks.map eI)), (1, .sl 1 (l.map eI)), (5, .pa (Qan w)), (7, .i (Qd1 l w (ks.take i))), (8, .i i)], []⟩) ?_ ?_ ?_
 ·simp only [Xd, Qd1, List.countP_nil, kp, Qa0, Qa3, ↓reduceIte, Nat.reduceEqDiff, Qc, Qd, Q9, reduceCtorEq, Qan]
 ·intro i hi
  obtain ⟨k, hk⟩ : ∃ k, ks[i]? = some k := ⟨_, Qn hi⟩
  have hlt : (i : Int) < ks.length := by omega
  have t1 := h.2.2 k (Xh hk)
  have hks := h.2.1
  have hg : Qd1 l w (ks.take i) ≤ i := Nat.le_trans List.countP_le_length (by simp; omega)
  have h4 : inI ((i : Int) + 1) ∧ inI ((Qd1 l w (ks.take i) : Int) + 1) := by unfold inI; omega
  have hct : ∀ q : Bool, Qai (Qay l k) w.low w.high = q → (Qd1 l w (ks.take (i + 1)) : Int) = Qd1 l w (ks.take i) + (if q = true then 1 else 0) := by
   rintro q rfl
   unfold Qd1
   rw [Qbv hk, List.countP_append, List.countP_singleton]
   split <;> simp
  simp only [hk, hlt, Qv1, h.1, t1, Qv2, Xa, Xb, Qam, Qaa, Qba, Qab, Qal, Qbq, Qac, Qa7, Qb3, Qag, Qaq, Qa6, Qa1, Fam.step, Qah, runX, eff, Qb2, fpR, fpQ, fpV, Qbp, hits, evO, opv, qv, binV, ldV, iadV, lenV, Qb1, Qa9, Qa5, flat, kp, Qa2, Qa0, Qa3, ↓reduceIte, Nat.reduceEqDiff, Nat.reduceAdd, Nat.reduceLT, Nat.reduceLeDiff, Qc, Qd, Qw, Qe, Qf, Qh, Qr, Qm, Qx, Qu, Qi, Qv, Qp, Q8, Qs, Zd, vw_i, Qb8, Q4, Qk, Qt, Q1, Ze, Qo, Zi, Zm, Qb, decide_true, true_and, and_self, implies_true, reduceCtorEq, Q7, Zv, Za, Ql, Q3, Qa, Q2, Zp, Qan, eI]
  refine ⟨fun e => ?_, fun e => ?_⟩
  ·simp only [h4, hct true e, ↓reduceIte, and_self]
  ·simp only [h4, hct false e, X8, ↓reduceIte, Qb, and_self]
 ·simp only [List.take_length, Qaa, Qab, Qal, Qaw, Qaf, Qa7, Qag, Qaq, Qa6, Qa1, Fam.step, Qah, evO, opv, qv, binV, lenV, Qa2, Qa0, Qa3, ↓reduceIte, Nat.reduceEqDiff, Qc, Qd, endQ, rvs, rv1, resV, vw_i, Z1, Qb, decide_false, and_self, reduceCtorEq, Ql, Qan]
def Qm5 (a : List Int × List Int × Span) : Prop := Qdr a.2.1 ∧ a.1.length ≤ 1000 ∧ ∀ k ∈ a.1, tame 1000 k
def eLLS (a : List Int × List Int × Span) : List V := [.sl 1 (a.1.map eI), .sl 1 (a.2.1.map eI), .ag (Qan a.2.2)]
def dLLS : List V → List Int × List Int × Span | [.sl _ k, .sl _ l, .ag w] => (k.map dI, l.map dI, Qfm w) | _ => ([], [], Qfm [])
theorem Qvh (a : List Int × List Int × Span) : dLLS (eLLS a) = a := by obtain ⟨k, l, w⟩ := a; simp [dLLS, eLLS, Function.comp_def, Qjt, Qgr]
noncomputable def H33 : Gam := H32.ext 70 (fnG eLLS dLLS Qm5 (fun a => (Qd1 a.2.1 a.2.2 a.1 : Int)) .i)
theorem Qjg : GOk Try.prog H33 := Qto.ext (f := 70) (fun a w => Try.call70 a w) (Qb6 (e := eLLS) (d := dLLS) (ok := Qm5) (g := fun a => (Qd1 a.2.1 a.2.2 a.1 : Int)) (eb := .i) fun a h => W70 a.1 a.2.1 a.2.2 h)
theorem h70 (ks l : List Int) (w : Span) : H33 70 [.sl 1 (ks.map eI), .sl 1 (l.map eI), .ag (Qan w)] = (Qm5 (ks, l, w), .i (Qd1 l w ks)) :=
 (show H33 70 _ = fnG eLLS dLLS Qm5 (fun a => (Qd1 a.2.1 a.2.2 a.1 : Int)) .i (eLLS (ks, l, w)) from rfl).trans (Qbe _ (Qvh _))
theorem Qsg (c : Cane) (l : List Int) (w : Span)  : H33 62 [.ag (Qa8 c), .sl 1 (l.map eI), .ag (Qan w)] = (True, .tp [.sl 1 ((stL c w l).map eI), .i (stE c w l)]) := h62 c l w
theorem Qsf (l : List Int) (k : Int)  : H33 21 [.sl 1 (l.map eI), .i k] = (Qdr l ∧ tame 1000 k, .i (Qay l k)) := h21 l k
theorem Qv4 (c : Cane)  : H33 16 [.ag (Qa8 c)] = (True, .i (Qc6 c)) := h16 c
theorem Qv3 (c : Cane)  : H33 15 [.ag (Qa8 c)] = (True, .b (farB c)) := h15 c
theorem W40 (c : Cane) (l : List Int) (w : Span) : Qad Try.prog 40 [.ag (Qa8 c), .sl 1 (l.map eI), .ag (Qan w)] (.tp [.i (Qh9 c l w).1, .i (Qh9 c l w).2]) := by
 refine Qae Qjg hmix Try.func40 cb40 cc40 cs40 cn40 ?_
 have g1 := Qsg c l w
 have g2 := h70 (stL c w l) l w
 unfold Qa8 Qan at g1
 unfold Qan at g2
 simp only [rc40, rs40, g1, g2, Qam, Qaa, Qab, Qal, Qbq, Qac, Qaf, Qa7, Qag, Qaq, Qa6, Qa1, Fam.step, Qah, evO, opv, qv, binV, ldV, lenV, Qb1, V.cells, Qax, Qa9, Qa5, flat, Qcf, Qa2, Qa0, Qa3, ↓reduceIte, Nat.reduceEqDiff, Nat.reduceAdd, Nat.reduceLT, Nat.reduceLeDiff, Qc, Qd, Qe, Qf, Qg, Qz, Qi, Qj, Qq, Qv, Qp, endQ, rvs, rv1, resV, vw_i, Qb8, Qb4, Qc5, zipA, Qk, Qt, Q1, Qo, Qb, decide_eq_true_eq, decide_eq_false_iff_not, true_and, and_true, and_self, implies_true, reduceCtorEq, Q5, imp_self, Ql, Classical.not_not, Qan, Qa8]
 refine ⟨fun h => ?_, fun h => ?_⟩
 ·simp only [Qh9, if_neg h]
 ·obtain ⟨h1, h2, h3, h4, h5, h6, h7⟩ := Qoo h
  have hlen := Qdn c h1
  have hs : Qdr l := ⟨by omega, fun n hn => by have := h4 n hn; unfold tame; omega⟩
  have hm : Qm5 (stL c w l, l, w) := ⟨hs, by rw [h7]; show (Qa4 c).length ≤ 1000; omega, fun k hk => by rw [h7] at hk; have := Qc0 h1 hk; unfold tame; omega⟩
  rw [h7] at hm
  simp only [hm, h7, Qh9, h, fitK, ↓reduceIte, true_and]
  refine ⟨fun e => ?_, fun e => ?_⟩
  ·have e : Qd1 l w (Qa4 c) = (Qa4 c).length := by omega
   simp only [e, ↓reduceIte]
  ·have e : ¬ Qd1 l w (Qa4 c) = (Qa4 c).length := by omega
   simp only [e, ↓reduceIte]
   refine ⟨fun e2 => ?_, fun e2 => ?_⟩
   ·have e2 : Qd1 l w (Qa4 c) = 0 := by omega
    simp only [e2, ↓reduceIte]
   ·have e2 : ¬ Qd1 l w (Qa4 c) = 0 := by omega
    simp only [e2, ↓reduceIte]
theorem W46 (c : Cane) (l : List Int) : Qad Try.prog 46 [.ag (Qa8 c), .sl 1 (l.map eI)] (.tp [.ag (Qan (Qdh c l).1), .i (Qdh c l).2]) := by
 refine Qae Qjg hmix Try.func46 cb46 cc46 cs46 cn46 ?_
 have g1 := Qsg c l ⟨0, 0⟩
 unfold Qa8 Qan at g1
 simp only [rc46, rs46, g1, Qam, Qaa, Qba, Qab, Qal, Qbq, Qac, Qaf, Qa7, Qb3, optL, putB, Qag, Qa6, Qa1, Fam.step, Qah, Qbn, Qat, runX, eff, Qb2, fpR, fpQ, fpV, Qbp, hits, putB, nv, sv, evO, opv, qv, binV, ldV, iadV, Qb1, Qao, putAt, Qb0, V.cells, Qax, Qb5, Qa9, Qa5, flat, Qcf, Qa2, Qau, Qa0, Qa3, ↓reduceIte, Nat.reduceEqDiff, Nat.reduceAdd, Nat.reduceLT, Nat.reduceLeDiff, Zx, Int.reduceLE, Qc, Qd, Qy, Qw, Qe, Qf, Qh, Qr, Zl, Qg, Q9, Qz, Qx, Qu, Qi, Qj, Qq, Qv, Qp, Q8, Q0, Zb, Qs, Q6, Zd, Zo, endQ, rvs, rv1, resV, vw_i, Qb8, Qb4, Qc5, zipA, Qk, Z8, Qt, Q1, Zy, Ze, Qo, Zw, Zi, Zm, Qb, decide_eq_false_iff_not, true_and, and_true, and_self, reduceCtorEq, Z2, Zv, Zk, Za, Q5, imp_self, Ql, Qa, Q2, Classical.not_not, Qan, Qa8]
 refine ⟨fun h => ?_, fun h => ?_⟩
 ·simp only [Qdh, if_neg h]
 ·obtain ⟨h1, h2, h3, h4, h5, h6, h7⟩ := Qoo h
  have hlen := Qdn c h1
  have hpos : 0 < (Qa4 c).length := Xl.2 h6
  obtain ⟨b, hb⟩ : ∃ b, (Qa4 c)[0]? = some b := ⟨_, Qn hpos⟩
  have hb2 := Qc0 h1 (Xh hb)
  have hs : Qdr l := ⟨by omega, fun n hn => by have := h4 n hn; unfold tame; omega⟩
  have i3 : (0 : Int) < (Qa4 c).length := by omega
  have t2 : tame 1000 b := by unfold tame; omega
  have hlow : ∀ i : Nat, i < (Qa4 c).length → ∃ k, (Qa4 c)[i]? = some k ∧ (Qa4 c).getD i 0 = k ∧ tame 1000 k ∧ Qay l k ≤ Qay l b ∧ Qay l k ≤ Qay l ((Qa4 c).getD (i - 1) 0) := by
   intro i hi
   obtain ⟨k, hk⟩ : ∃ k, (Qa4 c)[i]? = some k := ⟨_, Qn hi⟩
   have hk2 := Qc0 h1 (Xh hk)
   have hd : (Qa4 c).getD i 0 = k := by rw [Qa, hk]; rfl
   have e0 : (Qa4 c).getD 0 0 = b := by rw [Qa, hb]; rfl
   have hends := Qjp (Qdf c) (Xh hk)
   rw [e0] at hends
   refine ⟨k, hk, hd, by unfold tame; omega, Qg7 hb2.1 hends.1 h4, ?_⟩
   by_cases hi0 : i = 0
   ·subst hi0
    rw [Nat.zero_sub, hd]; exact Z4 _
   ·have hp := Xj.1 (Qdf c) (i - 1) i (by omega) hi (by omega)
    obtain ⟨k', hk'⟩ : ∃ k, (Qa4 c)[i - 1]? = some k := ⟨_, Qn (by omega)⟩
    have hd' : (Qa4 c).getD (i - 1) 0 = k' := by rw [Qa, hk']; rfl
    have hk2' := Qc0 h1 (Xh hk')
    rw [(Xn.1 hk).2, (Xn.1 hk').2] at hp
    rw [hd']
    exact Qg7 hk2'.1 (by omega) h4
  simp only [h7, i3, hb, Qsf, hs, t2, Qb5, Qa9, flat, Nat.reduceAdd, Nat.reduceLeDiff, Qy, Qw, Qe, Qf, Qh, Qr, Zl, Qg, Q9, Qm, Qx, Qu, Qi, Qp, vw_i, Qk, Qt, Qb, true_and, and_self, implies_true, Q7, eI]
  refine ⟨?_, ?_⟩
  ·simp [Qw9, Qol]
  refine Qcb (Qa4 c).length (fun i => ⟨lkp [(1, .sl 1 (l.map eI)), (4, .ad 0 0 0), (6, .sl 1 ((Qa4 c).map eI)), (8, .ad 1 0 0), (9, .i i)], [.cells 0 [.i 0, .i 0], .cells 0 [.i (Qay l ((Qa4 c).getD (i - 1) 0)), .i (Qay l b)]]⟩) ?_ ?_ ?_
  ·have e0 : (Qa4 c).getD 0 0 = b := by rw [Qa, hb]; rfl
   simp only [Xd, Nat.zero_sub, e0, kp, Qa0, Qa3, ↓reduceIte, Nat.reduceEqDiff, Qc, Qd]
  ·intro i hi
   obtain ⟨k, hk, hd, tk, a1, a2⟩ := hlow i hi
   have hlt : (i : Int) < (Qa4 c).length := by omega
   have h5 : inI ((i : Int) + 1) := by unfold inI; omega
   have m1 : min (Qay l ((Qa4 c).getD (i - 1) 0)) (Qay l k) = Qay l k := by omega
   have m2 : max (Qay l b) (Qay l k) = Qay l b := by omega
   have hk2 : (Qa4 c)[i + 1 - 1]?.getD 0 = k := by rw [X7, hk]; rfl
   rw [Qa] at m1
   simp only [hk, hlt, Qsf, hs, tk, h5, Xa, Xb, m1, m2, hk2, Qam, Qaa, Qba, Qab, Qal, Qac, Qa7, Qb3, optL, Qag, Qaq, Qa6, Qa1, Fam.step, Qah, Qat, runX, eff, Qb2, fpR, fpQ, fpV, Qbp, hits, nv, sv, evO, opv, qv, binV, ldV, iadV, lenV, curG, Qb1, Qao, putAt, Qb0, V.cells, Qax, Qb5, Qa9, Qa5, flat, kp, Qa2, Qau, Qa0, Qa3, ↓reduceIte, Nat.reduceEqDiff, Nat.reduceAdd, Nat.reduceLT, Nat.reduceLeDiff, Qc, Qd, Qy, Qw, Qe, Qf, Qh, Qr, Zl, Qg, Q9, Qm, Qx, Qu, Qi, Qj, Qq, Qv, Qp, Q8, Q0, Zb, Qs, Zd, Zo, vw_i, Qb8, Q4, beq_self_eq_true, Qk, Z8, Qt, Q1, Zy, Ze, Qo, Zw, Zi, Zm, Qb, decide_true, and_self, implies_true, Q7, Z2, Zv, Zk, Za, Ql, Q3, Qa, Q2, eI]
  ·have h77 : ¬ (((Qa4 c).length : Int) < (Qa4 c).length) := by omega
   have hb0 : (Qa4 c)[0]?.getD 0 = b := by rw [hb]; rfl
   simp only [h77, Qdh, h, Qow, hb0, Qaa, Qab, Qal, Qaw, Qaf, Qa7, putB, Qag, Qaq, Qa6, Qa1, Fam.step, Qah, Qbn, Qat, putB, nv, sv, evO, opv, qv, binV, ldV, lenV, putAt, V.cells, Qax, Qb5, Qa2, Qau, Qa0, Qa3, ↓reduceIte, Nat.reduceEqDiff, Nat.reduceAdd, Nat.reduceLeDiff, Qc, Qd, Qy, Qw, Qe, Qf, Qh, Qr, Zl, Qg, Q9, Qz, Qu, Qi, Qj, Qq, Q0, endQ, rvs, rv1, resV, vw_i, Qb4, Qc5, Qk, Qt, Qb, decide_false, and_self, Ql, Qa]
theorem eq61 : Qas Try.prog 61 3 := Qas.of (fs := _) (show Try.prog.underlying 61 = some (.struct (Try.prog.fieldsOf 61)) by kernel_rfl) (by kernel_rfl) (by kernel_rfl)
theorem W24 (c : Cane) (h : c.bents.length ≤ 1000000) : Qad Try.prog 24 [.ag (Qa8 c)] (.ag (Qa8 c)) := by
 refine Qae Qjg hmix Try.func24 cb24 cc24 cs24 cn24 ?_
 have hfl : Qci c.bents.length := by unfold Qci; omega
 have k1 : Qd6 3 ((c.bents.map eBent).flatten) 0 c.bents.length = c.bents.map eBent := Qi0 (e := eBent) (k := 3) (fun _ => rfl) c.bents
 have k2 : ((c.bents.map eBent).flatten).length = c.bents.length * 3 := Qki (e := eBent) (k := 3) (fun _ => rfl) c.bents
 have k3 : ∀ (hp : List Blk), (c.bents.map eBent).map (fun r => r.map (vw hp 6)) = c.bents.map eBent := fun hp => Qja (e := eBent) hp 6 (fun _ => rfl) c.bents
 simp only [rc24, rs24, Jb, Qu, hfl, k1, k2, k3, Xq, Qaa, Qab, Qaf, Qa7, putB, Qag, Qa6, Qa1, Fam.step, Qah, Qbn, Qat, putB, nv, sv, Qce, evO, opv, qv, ldV, curG, Qao, putAt, Qb0, Qb9, V.cells, Qax, Qb5, Qa9, Qa5, Qa2, Qau, Qa0, Qa3, ↓reduceIte, Nat.reduceEqDiff, Nat.reduceAdd, Nat.reduceMul, Nat.reduceLeDiff, Qc, Qd, Qy, Qw, Qe, Qf, Qh, Qr, Zl, Qg, Q9, Qz, Qm, Qx, Qu, Qi, Qj, Qq, Q0, Zb, Qs, endQ, rvs, rv1, resV, vw_i, Qb8, Qb4, Qel, zipA, beq_self_eq_true, Qk, Qt, Qo, Qb, and_self, Ql, Qa8]
theorem W29 (l m : List Int) (h : l.length ≤ 1000000) : Qad Try.prog 29 [.sl 1 (l.map eI), .sl 1 (m.map eI)] (.b (decide (l = m))) := by
 refine Qae Qjg hmix Try.func29 cb29 cc29 cs29 cn29 ?_
 simp only [rc29, rs29, Qam, Qaa, Qab, Qal, Qbq, Qac, Qaf, Qa7, Qag, Qa6, Qa1, Fam.step, Qah, evO, opv, qv, binV, lenV, Qa2, Qa0, Qa3, ↓reduceIte, Nat.reduceEqDiff, Qc, Qd, endQ, rvs, rv1, resV, vw_b, zipA, Qk, V.b.injEq, decide_eq_false_iff_not, true_and, and_self, reduceCtorEq, Q5, Ql, Classical.not_not]
 refine ⟨fun h1 => ?_, fun h1 => ?_⟩
 ·have : ¬ l = m := fun e => by rw [e] at h1; omega
  simp only [this, decide_false]
 ·have hlm : l.length = m.length := by omega
  refine Qcw l.length (fun i => ⟨lkp [(0, .sl 1 (l.map eI)), (1, .sl 1 (m.map eI)), (5, .i i)], []⟩) (fun i => ∀ j : Nat, j < i → l[j]? = m[j]?) ?_ ?_ ?_ ?_
  ·simp only [Xd, kp, Qa0, Qa3, ↓reduceIte, Nat.reduceEqDiff, Qc, Qd, reduceCtorEq]
  ·intro j hj; omega
  ·intro i hi hc
   obtain ⟨n, hn⟩ : ∃ n, l[i]? = some n := ⟨_, Qn hi⟩
   obtain ⟨n', hn'⟩ : ∃ n, m[i]? = some n := ⟨_, Qn (by omega)⟩
   have hlt : (i : Int) < l.length := by omega
   have hlt' : (i : Int) < m.length := by omega
   have h4 : inI ((i : Int) + 1) := by unfold inI; omega
   simp only [hn, hn', hlt, hlt', h4, Xa, Xb, Qam, Qaa, Qba, Qab, Qal, Qbq, Qac, Qaf, Qa7, Qb3, Qag, Qaq, Qa6, Qa1, Fam.step, Qah, runX, eff, Qb2, fpR, fpQ, fpV, Qbp, hits, evO, opv, qv, binV, ldV, iadV, lenV, kp, Qa2, Qa0, Qa3, ↓reduceIte, Nat.reduceEqDiff, Nat.reduceLeDiff, Qc, Qd, Qw, Qe, Qf, Qm, Qx, Qu, Qi, Qv, Qp, Q8, Qs, Zd, endQ, rvs, rv1, resV, vw_b, Q4, Qk, V.b.injEq, Qt, Q1, Ze, Qo, Zi, Zm, Qb, decide_true, decide_eq_false_iff_not, true_and, and_true, and_self, reduceCtorEq, Q7, Zv, Za, Q5, Ql, Q3, Qa, Q2, Classical.not_not, eI]
   refine ⟨fun hne => ?_, fun he => ?_⟩
   ·have : ¬ l = m := fun e => by rw [e, hn'] at hn; cases hn; exact hne rfl
    simp only [this, decide_false]
   ·intro j hj
    by_cases hji : j < i
    ·exact hc j hji
    ·have : j = i := by omega
     subst this
     rw [hn, hn', he]
  ·intro hc
   have h77 : ¬ ((l.length : Int) < l.length) := by omega
   have : l = m := List.ext_getElem? fun j => by
    by_cases hj : j < l.length
    ·exact hc j hj
    ·rw [X1 (by omega), X1 (by omega)]
   simp only [this, Qaa, Qab, Qal, Qaw, Qaf, Qa7, Qag, Qaq, Qa6, Qa1, Fam.step, Qah, evO, opv, qv, binV, lenV, Qa2, Qa0, Qa3, ↓reduceIte, Nat.reduceEqDiff, Qc, Qd, endQ, rvs, rv1, resV, vw_b, Z1, Qb, decide_true, decide_false, and_self, reduceCtorEq, Ql]
theorem W30 (c : Cane) (h : c.bents.length ≤ 1000000) : Qad Try.prog 30 [.ag (Qa8 c), .ag (Qa8 c)] (.b true) := by
 refine Qae Qjg hmix Try.func30 cb30 cc30 cs30 cn30 ?_
 simp only [rc30, rs30, eq23, Qam, Qaa, Qab, Qal, Qac, Qa7, Qag, Qa6, Qa1, Fam.step, Qah, Qbm, Qbc, ug, evO, opv, qv, Qar, binV, ldV, lenV, V.cells, Qax, Qbo, Qa9, Qa5, Qa2, Qa0, Qa3, ↓reduceIte, Nat.reduceEqDiff, Nat.reduceAdd, Nat.reduceLeDiff, Qc, Qd, Qy, Qw, Qe, Qf, Qh, Qr, Qg, Q9, Qm, vw_i, Qb8, Qb4, zipA, beq_self_eq_true, Qk, Qt, Qo, Zi, Qb, decide_true, true_and, and_self, forall_const, implies_true, reduceCtorEq, Q7, Z3, Ql, Qa8]
 refine Qcb c.bents.length (fun i => ⟨lkp [(2, .pa (Qa8 c)), (3, .pa (Qa8 c)), (5, .i i)], []⟩) ?_ ?_ ?_
 ·simp only [Xd, kp, Qa0, Qa3, ↓reduceIte, Nat.reduceEqDiff, Qc, Qd, Qa8]
 ·intro i hi
  obtain ⟨b, hb⟩ : ∃ b, c.bents[i]? = some b := ⟨_, Qn hi⟩
  have hlt : (i : Int) < c.bents.length := by omega
  have h4 : inI ((i : Int) + 1) := by unfold inI; omega
  simp only [hb, hlt, h4, eq61, Xa, Xb, Qam, Qaa, Qba, Qab, Qal, Qac, Qa7, Qb3, Qag, Qaq, Qa6, Qa1, Fam.step, Qah, runX, eff, Qb2, fpR, fpQ, fpV, Qbp, hits, evO, opv, qv, binV, ldV, iadV, lenV, Qbo, kp, Qa2, Qa0, Qa3, ↓reduceIte, Nat.reduceEqDiff, Nat.reduceAdd, Nat.reduceLeDiff, Qc, Qd, Qw, Qe, Qf, Qh, Qr, Qg, Qz, Qm, Qx, Qu, Qi, Qv, Qp, Q8, Qs, Zd, Q4, Qk, Qt, Q1, Ze, Qo, Zi, Zm, Qb, decide_true, and_self, Q7, Zv, Za, Z3, Ql, Q3, Qa, Q2, eBent, Qa8]
 ·have h77 : ¬ ((c.bents.length : Int) < c.bents.length) := by omega
  simp only [h77, Qaa, Qab, Qal, Qaw, Qaf, Qa7, Qag, Qaq, Qa6, Qa1, Fam.step, Qah, evO, opv, qv, binV, ldV, lenV, Qa2, Qa0, Qa3, ↓reduceIte, Nat.reduceEqDiff, Nat.reduceAdd, Nat.reduceLeDiff, Qc, Qd, Qe, Qf, Qh, Qr, Qm, endQ, rvs, rv1, resV, vw_b, Qk, Qb, decide_false, and_self, Ql, Qa8]
def farP (c : Cane) : Bool := farB c || (decide (Qc6 c = 0) && (decide ((3 : Int) < c.limit) && (decide ((14 : Int) < c.limit) || decide (4 * c.tire < c.limit))))
theorem W31 (c : Cane) : Qad Try.prog 31 [.ag (Qa8 c)] (.b (farP c)) := by
 refine Qae Qjg hmix Try.func31 cb31 cc31 cs31 cn31 ?_
 have g1 := Qv3 c
 have g2 := Qv4 c
 unfold Qa8 at g1 g2
 by_cases hf : farB c = true
 ·simp only [rc31, rs31, g1, g2, hf, farP, Qaa, Qab, Qaf, Qa7, Qag, Qa6, Qa1, Fam.step, Qah, Qbm, Qbc, ug, evO, opv, qv, Qar, binV, ldV, Qb1, V.cells, Qax, Qa9, Qa5, flat, Qa2, Qa0, Qa3, ↓reduceIte, Nat.reduceEqDiff, Nat.reduceAdd, Nat.reduceLT, Nat.reduceLeDiff, Qc, Qd, Qy, Qw, Qe, Qf, Qh, Qr, Qg, Qz, Qm, Qi, endQ, rvs, rv1, resV, vw_i, vw_b, Qb8, Qb4, zipA, Qk, Qt, Q1, Ze, Qo, Z9, Zi, Qb, Zf, decide_eq_true_eq, decide_eq_false_iff_not, true_and, and_true, and_self, false_and, forall_const, implies_true, beq_true, beq_false, Qdg, Qe5, Zc, imp_self, Qa8]
 ·by_cases he : Qc6 c = 0
  ·have hC := Qf6.1 he
   have ht := hC.tire
   have hi : inI (4 * c.tire) := by unfold inI; omega
   by_cases h3 : (3 : Int) < c.limit <;> by_cases h14 : (14 : Int) < c.limit <;> simp only [rc31, rs31, g1, g2, hf, he, hi, farP, h3, h14, Qaa, Qab, Qaf, Qa7, Qag, Qa6, Qa1, Fam.step, Qah, Qbm, Qbc, ug, evO, opv, qv, Qar, binV, ldV, Qb1, V.cells, Qax, Qa9, Qa5, flat, Qa2, Qa0, Qa3, ↓reduceIte, Nat.reduceEqDiff, Nat.reduceAdd, Nat.reduceLT, Nat.reduceLeDiff, Qc, Qd, Qy, Qw, Qe, Qf, Qh, Qr, Qg, Qz, Qm, Qi, endQ, rvs, rv1, resV, vw_i, vw_b, Qb8, Qb4, zipA, beq_self_eq_true, Qk, Qt, Q1, Zy, Ze, Zu, Qo, Zw, Xe, Z9, Zi, Qb, Zf, decide_true, decide_false, and_true, and_self, and_false, forall_const, implies_true, beq_true, beq_false, imp_self, Qa8]
  ·simp only [rc31, rs31, g1, g2, hf, he, farP, Qaa, Qab, Qaf, Qa7, Qag, Qa6, Qa1, Fam.step, Qah, Qbm, Qbc, ug, evO, opv, qv, Qar, binV, ldV, Qb1, V.cells, Qax, Qa9, Qa5, flat, Qa2, Qa0, Qa3, ↓reduceIte, Nat.reduceEqDiff, Nat.reduceAdd, Nat.reduceLT, Nat.reduceLeDiff, Qc, Qd, Qy, Qw, Qe, Qf, Qh, Qr, Qg, Qz, Qm, Qi, endQ, rvs, rv1, resV, vw_i, vw_b, Qb8, Qb4, zipA, beq_self_eq_true, Qk, Qt, Q1, Ze, Zu, Qo, Qb, decide_false, decide_eq_true_eq, decide_eq_false_iff_not, true_and, and_true, and_self, false_and, forall_const, implies_true, beq_true, beq_false, Qe5, imp_self, Qa8]
def Qgn (c : Cane) : Bool := !farP c && decide (Qc6 c = 0)
noncomputable def H34 : Gam := H33.ext 31 (fnG eC1 dC1 (fun _ => True) farP .b)
theorem Qw6 : GOk Try.prog H34 := Qjg.ext (f := 31) (fun a w => Try.call31 a w) (Qb6 fun c _ => W31 c)
theorem h31 (c : Cane) : H34 31 [.ag (Qa8 c)] = (True, .b (farP c)) := (show H34 31 _ = fnG eC1 dC1 (fun _ => True) farP .b (eC1 c) from rfl).trans (Qbe _ (Qjs _))
theorem Qv5 (c : Cane)  : H34 16 [.ag (Qa8 c)] = (True, .i (Qc6 c)) := h16 c
theorem W22 (c : Cane) : Qad Try.prog 22 [.ag (Qa8 c)] (.b (Qgn c)) := by
 refine Qae Qw6 hmix Try.func22 cb22 cc22 cs22 cn22 ?_
 have g1 := Qv5 c
 have g2 := h31 c
 unfold Qa8 at g1 g2
 simp only [rc22, rs22, g1, g2, Qaa, Qab, Qaf, Qa7, Qag, Qa6, Qa1, Fam.step, Qah, Qbm, Qbc, ug, evO, opv, qv, Qar, binV, ldV, Qb1, V.cells, Qax, Qa9, Qa5, flat, Qa2, Qa0, Qa3, ↓reduceIte, Nat.reduceEqDiff, Nat.reduceAdd, Nat.reduceLT, Nat.reduceLeDiff, Qc, Qd, Qy, Qw, Qe, Qf, Qg, Qz, Qi, endQ, rvs, rv1, resV, vw_i, vw_b, Qb8, Qb4, zipA, Qk, V.b.injEq, Qt, Q1, Qo, Qb, true_and, and_true, and_self, implies_true, beq_true, Zj, Q5, Qdg, Zg, imp_self, Qa8]
 by_cases hf : farP c = true <;> simp [hf, Qgn]
theorem W23 (w : Span) : Qad Try.prog 23 [.ag (Qan w)] (.b (Qb7 w 540)) := by
 refine Qae Qjg hmix Try.func23 cb23 cc23 cs23 cn23 ?_
 simp only [rc23, rs23, Qaa, Qab, Qaf, Qa7, Qag, Qa6, Qa1, Fam.step, Qah, Qbm, Qbc, ug, evO, opv, qv, Qar, binV, ldV, V.cells, Qax, Qa9, Qa5, Qa2, Qa0, Qa3, ↓reduceIte, Nat.reduceEqDiff, Nat.reduceAdd, Nat.reduceLeDiff, Qc, Qd, Qy, Qw, Qe, Qf, Qh, Qr, Qm, endQ, rvs, rv1, resV, vw_i, vw_b, Qb4, zipA, Qk, V.b.injEq, Qt, Q1, Qo, Qb, decide_eq_true_eq, decide_eq_false_iff_not, true_and, and_true, and_self, implies_true, beq_true, Qdg, Zc, imp_self, Qan]
 by_cases h : 0 ≤ w.low <;> by_cases h2 : w.low ≤ w.high <;> simp [h, h2, Qb7, Qai]
theorem W36 (w : Span) (n : Int) : Qad Try.prog 36 [.ag (Qan w), .i n] (.b (Qai n w.low w.high)) := by
 refine Qae Qjg hmix Try.func36 cb36 cc36 cs36 cn36 ?_
 simp only [rc36, rs36, Qaa, Qab, Qaf, Qa7, Qag, Qa6, Qa1, Fam.step, Qah, Qbm, Qbc, ug, evO, opv, qv, Qar, binV, ldV, V.cells, Qax, Qa9, Qa5, Qa2, Qa0, Qa3, ↓reduceIte, Nat.reduceEqDiff, Nat.reduceAdd, Nat.reduceLeDiff, Qc, Qd, Qy, Qw, Qe, Qf, Qh, Qr, Qm, endQ, rvs, rv1, resV, vw_i, vw_b, Qb4, zipA, Qk, V.b.injEq, Qt, Q1, Qo, Qb, decide_eq_true_eq, decide_eq_false_iff_not, true_and, and_true, and_self, implies_true, reduceCtorEq, beq_true, Qdg, imp_self, Qan]
 by_cases h : w.low ≤ n <;> simp [h, Qai]
def Qo0 (a b : Span) : Bool := decide (a.low ≤ b.low) && decide (b.high ≤ a.high)
theorem W45 (a b : Span) : Qad Try.prog 45 [.ag (Qan a), .ag (Qan b)] (.b (Qo0 a b)) := by
 refine Qae Qjg hmix Try.func45 cb45 cc45 cs45 cn45 ?_
 simp only [rc45, rs45, Qaa, Qab, Qaf, Qa7, Qag, Qa6, Qa1, Fam.step, Qah, Qbm, Qbc, ug, evO, opv, qv, Qar, binV, ldV, V.cells, Qax, Qa9, Qa5, Qa2, Qa0, Qa3, ↓reduceIte, Nat.reduceEqDiff, Nat.reduceAdd, Nat.reduceLeDiff, Qc, Qd, Qy, Qw, Qe, Qf, Qh, Qr, Qm, endQ, rvs, rv1, resV, vw_i, vw_b, Qb4, zipA, Qk, V.b.injEq, Qt, Q1, Qo, Qb, decide_eq_true_eq, decide_eq_false_iff_not, true_and, and_true, and_self, implies_true, reduceCtorEq, beq_true, Qdg, imp_self, Qan]
 by_cases h : a.low ≤ b.low <;> simp [h, Qo0]
theorem W44 (l : List Int) (n : Int) (h : l.length ≤ 1000000) : Qad Try.prog 44 [.sl 1 (l.map eI), .i n] (.b (decide (n ∈ l))) := by
 refine Qae Qjg hmix Try.func44 cb44 cc44 cs44 cn44 ?_
 simp only [rc44, rs44, Qaa, Qab, Qac, Qa7, Qag, Qa6, Qa1, Fam.step, Qah, evO, opv, qv, Qa2, Qa0, Qa3, ↓reduceIte, Nat.reduceEqDiff, Qc, Qd, zipA, Qk, true_and, reduceCtorEq]
 refine Qcw l.length (fun i => ⟨lkp [(0, .sl 1 (l.map eI)), (1, .i n), (5, .i i)], []⟩) (fun i => ∀ j : Nat, j < i → ¬ l[j]? = some n) ?_ ?_ ?_ ?_
 ·simp only [Xd, kp, Qa0, Qa3, ↓reduceIte, Nat.reduceEqDiff, Qc, Qd, reduceCtorEq]
 ·intro j hj; omega
 ·intro i hi hc
  obtain ⟨x, hx⟩ : ∃ n, l[i]? = some n := ⟨_, Qn hi⟩
  have hlt : (i : Int) < l.length := by omega
  have h4 : inI ((i : Int) + 1) := by unfold inI; omega
  simp only [hx, hlt, h4, Xa, Xb, Qam, Qaa, Qab, Qal, Qbq, Qac, Qaf, Qa7, Qag, Qaq, Qa6, Qa1, Fam.step, Qah, evO, opv, qv, binV, ldV, iadV, lenV, kp, Qa2, Qa0, Qa3, ↓reduceIte, Nat.reduceEqDiff, Nat.reduceLeDiff, Qc, Qd, Qe, Qf, Qm, Qp, endQ, rvs, rv1, resV, vw_b, Q4, Qk, V.b.injEq, Qb, decide_true, decide_eq_true_eq, true_and, and_true, and_self, reduceCtorEq, Q7, Ql, Q3, Qa, Q2, eI]
  refine ⟨fun he => ?_, fun he => ?_⟩
  ·have : n ∈ l := by rw [← he]; exact Xh hx
   simp only [this, decide_true]
  ·intro j hj
   by_cases hji : j < i
   ·exact hc j hji
   ·have : j = i := by omega
    subst this
    rw [hx]
    simpa using he
 ·intro hc
  have h77 : ¬ ((l.length : Int) < l.length) := by omega
  have : ¬ n ∈ l := fun hn => by
   obtain ⟨j, hj⟩ := X4 hn
   exact hc j (Qap hj) hj
  simp only [h77, this, Qaa, Qab, Qal, Qaw, Qaf, Qa7, Qag, Qaq, Qa6, Qa1, Fam.step, Qah, evO, opv, qv, binV, lenV, Qa2, Qa0, Qa3, ↓reduceIte, Nat.reduceEqDiff, Qc, Qd, endQ, rvs, rv1, resV, vw_b, Qb, decide_false, and_self, reduceCtorEq, Ql]
end Go.C06
set_option maxRecDepth 8000
namespace Go.C06
open Go.Fam Go.Proofs
end Go.C06
set_option linter.unusedSimpArgs false
set_option linter.unusedVariables false
namespace Go.C06
open Go.Fam Go.Proofs
def fewB (c : Cane) : Prop := c.bents.length ≤ 1000000
def eCC (a : Cane × Cane) : List V := [.ag (Qa8 a.1), .ag (Qa8 a.2)]
def dCC : List V → Cane × Cane | [.ag s, .ag n] => (Qct s, Qct n) | _ => (Qct [], Qct [])
def eLL (a : List Int × List Int) : List V := [.sl 1 (a.1.map eI), .sl 1 (a.2.map eI)]
def dLL : List V → List Int × List Int | [.sl _ l, .sl _ m] => (l.map dI, m.map dI) | _ => ([], [])
def eWW (a : Span × Span) : List V := [.ag (Qan a.1), .ag (Qan a.2)]
def dWW : List V → Span × Span | [.ag s, .ag n] => (Qfm s, Qfm n) | _ => (Qfm [], Qfm [])
noncomputable def K1 : Gam := (((H34.ext 24 (fnG eC1 dC1 fewB (fun c => c) fun c => .ag (Qa8 c))).ext 29 (fnG eLL dLL (fun a => a.1.length ≤ 1000000) (fun a => decide (a.1 = a.2)) .b)).ext 30 (fnG eCC dCC (fun a => a.1 = a.2 ∧ fewB a.1) (fun _ => true) .b)).ext 27 (fnG eC1 dC1 (fun _ => True) (fun c => (stL c ⟨0, 0⟩ [], stE c ⟨0, 0⟩ [])) fun r => .tp [.sl 1 (r.1.map eI), .i r.2])
theorem okK1 : GOk Try.prog K1 := by
 have k1 := Qw6.ext (f := 24) (fun a w => Try.call24 a w) (Qb6 (e := eC1) (d := dC1) (ok := fewB) (g := fun c => c) (eb := fun c => .ag (Qa8 c)) fun c h => W24 c h)
 have k2 := k1.ext (f := 29) (fun a w => Try.call29 a w) (Qb6 (e := eLL) (d := dLL) (ok := fun a => a.1.length ≤ 1000000) (g := fun a => decide (a.1 = a.2)) (eb := .b) fun a h => W29 a.1 a.2 h)
 have k3 := k2.ext (f := 30) (fun a w => Try.call30 a w) (Qb6 (e := eCC) (d := dCC) (ok := fun a => a.1 = a.2 ∧ fewB a.1) (g := fun _ => true) (eb := .b) fun a h => by
  obtain ⟨c, d⟩ := a
  obtain ⟨h1, h2⟩ := h
  simp only at h1 h2
  subst h1
  exact W30 c h2)
 exact k3.ext (f := 27) (fun a w => Try.call27 a w) (Qb6 (e := eC1) (d := dC1) (ok := fun _ => True) (g := fun c => (stL c ⟨0, 0⟩ [], stE c ⟨0, 0⟩ [])) (eb := fun r => .tp [.sl 1 (r.1.map eI), .i r.2]) fun a _ => W27 a)
theorem k24 (c : Cane) : K1 24 [.ag (Qa8 c)] = (fewB c, .ag (Qa8 c)) := (show K1 24 _ = fnG eC1 dC1 fewB (fun c => c) (fun c => .ag (Qa8 c)) (eC1 c) from rfl).trans (Qbe _ (Qjs _))
noncomputable def K2 : Gam := ((((((K1.ext 40 (fnG eCLS dCLS (fun _ => True) (fun a => Qh9 a.1 a.2.1 a.2.2) fun r => .tp [.i r.1, .i r.2])).ext 46 (fnG eCL dCL (fun _ => True) (fun a => Qdh a.1 a.2) fun r => .tp [.ag (Qan r.1), .i r.2])).ext 22 (fnG eC1 dC1 (fun _ => True) Qgn .b)).ext 23 (fnG eW1 dW1 (fun _ => True) (fun w => Qb7 w 540) .b)).ext 36 (fnG eSI dSI (fun _ => True) (fun a => Qai a.2 a.1.low a.1.high) .b)).ext 45 (fnG eWW dWW (fun _ => True) (fun a => Qo0 a.1 a.2) .b)).ext 44 (fnG eLI dLI (fun a => a.1.length ≤ 1000000) (fun a => decide (a.2 ∈ a.1)) .b)
theorem okK2 : GOk Try.prog K2 := by
 have k1 := okK1.ext (f := 40) (fun a w => Try.call40 a w) (Qb6 (e := eCLS) (d := dCLS) (ok := fun _ => True) (g := fun a => Qh9 a.1 a.2.1 a.2.2) (eb := fun r => .tp [.i r.1, .i r.2]) fun a _ => W40 a.1 a.2.1 a.2.2)
 have k2 := k1.ext (f := 46) (fun a w => Try.call46 a w) (Qb6 (e := eCL) (d := dCL) (ok := fun _ => True) (g := fun a => Qdh a.1 a.2) (eb := fun r => .tp [.ag (Qan r.1), .i r.2]) fun a _ => W46 a.1 a.2)
 have k3 := k2.ext (f := 22) (fun a w => Try.call22 a w) (Qb6 (e := eC1) (d := dC1) (ok := fun _ => True) (g := Qgn) (eb := .b) fun a _ => W22 a)
 have k4 := k3.ext (f := 23) (fun a w => Try.call23 a w) (Qb6 (e := eW1) (d := dW1) (ok := fun _ => True) (g := fun w => Qb7 w 540) (eb := .b) fun a _ => W23 a)
 have k5 := k4.ext (f := 36) (fun a w => Try.call36 a w) (Qb6 (e := eSI) (d := dSI) (ok := fun _ => True) (g := fun a => Qai a.2 a.1.low a.1.high) (eb := .b) fun a _ => W36 a.1 a.2)
 have k6 := k5.ext (f := 45) (fun a w => Try.call45 a w) (Qb6 (e := eWW) (d := dWW) (ok := fun _ => True) (g := fun a => Qo0 a.1 a.2) (eb := .b) fun a _ => W45 a.1 a.2)
 exact k6.ext (f := 44) (fun a w => Try.call44 a w) (Qb6 (e := eLI) (d := dLI) (ok := fun a => a.1.length ≤ 1000000) (g := fun a => decide (a.2 ∈ a.1)) (eb := .b) fun a h => W44 a.1 a.2 h)
theorem k22 (c : Cane) : K2 22 [.ag (Qa8 c)] = (True, .b (Qgn c)) := (show K2 22 _ = fnG eC1 dC1 (fun _ => True) Qgn .b (eC1 c) from rfl).trans (Qbe _ (Qjs _))
theorem k23 (w : Span) : K2 23 [.ag (Qan w)] = (True, .b (Qb7 w 540)) := (show K2 23 _ = fnG eW1 dW1 (fun _ => True) (fun w => Qb7 w 540) .b (eW1 w) from rfl).trans (Qbe _ (Qvk _))
theorem k36 (w : Span) (n : Int) : K2 36 [.ag (Qan w), .i n] = (True, .b (Qai n w.low w.high)) := (show K2 36 _ = fnG eSI dSI (fun _ => True) (fun a => Qai a.2 a.1.low a.1.high) .b (eSI (w, n)) from rfl).trans (Qbe _ (Qvj _))
end Go.C06
set_option linter.unusedSimpArgs false
set_option linter.unusedVariables false
namespace Go.C06
open Go.Fam Go.Proofs
theorem Qu1 {c : Cane} (hc : OkC c) {w : Span} (hw : Qb7 w 540 = true) {l : List Int} (h : areB c l = true) : stE c w l = if Qa4 c = [] then 3 else 0 := by
 obtain ⟨h6, hp⟩ := (Qr7 hc l).1 h
 unfold stE
 rw [if_neg (by simpa using Qf6.2 hc), if_neg, if_neg]
 ·unfold Qfr
  rw [Zt]
  rintro ⟨i, hi, h2⟩
  have := (hp i (by simpa using hi)).2
  simp only [decide_eq_true_eq] at h2
  omega
 ·rintro (h1 | h1 | h1)
  ·omega
  ·rw [hw] at h1; cases h1
  ·rw [Zt] at h1
   obtain ⟨n, hn, h2⟩ := h1
   have := hp.in_ n hn
   simp [Qai, this] at h2
theorem Qsy (c : Cane) : areB c [] = true := rfl
end Go.C06
set_option maxRecDepth 8000
namespace Go.C06
open Go.Fam Go.Proofs
end Go.C06
set_option linter.unusedSimpArgs false
set_option linter.unusedVariables false
namespace Go.C06
open Go.Fam Go.Proofs
theorem Qro {c : Cane} {k : Int} : isTB c k = true ↔ k ∈ Qa4 c := by
 rw [Qd5]
 simp only [isTB, Qai, Xc, decide_eq_true_eq]
end Go.C06
set_option linter.unusedSimpArgs false
set_option linter.unusedVariables false
namespace Go.C06
open Go.Fam Go.Proofs
def Qdu (c : Cane) (w : Span) : Nat → Int → Int → List Int → Bool
 | 0, a, _, _ => Qai a w.low w.high
 | n + 1, a, i, T => Qai a w.low w.high || (ints 1 (Qby c i)).any fun b => T.all fun k => Qdu c w n (a + b - Qak b k) (i + 1) (T.filter fun k' => decide (Qak b k' = Qak b k))
theorem Qk9 {c c' : Cane} {w w' : Span} (hc : ∀ i : Int, 0 ≤ i → Qby c i ≤ Qby c' i) (hw : w'.low ≤ w.low ∧ w.high ≤ w'.high) :
  ∀ (n : Nat) (a i : Int) (T T' : List Int), 0 ≤ i → (∀ k ∈ T', k ∈ T) → Qdu c w n a i T = true → Qdu c' w' n a i T' = true := by
 have hin : ∀ a, Qai a w.low w.high = true → Qai a w'.low w'.high = true := fun a h => by
  simp only [Qai, Xc, decide_eq_true_eq] at h ⊢; omega
 intro n
 induction n with
 | zero => intro a i T T' _ _ h; exact hin a h
 | succ n ih =>
  intro a i T T' hi hT h
  rw [Qdu, Xz] at h ⊢
  rcases h with h | h
  ·exact .inl (hin a h)
  ·right
   rw [Zt] at h ⊢
   obtain ⟨b, hb, h⟩ := h
   rw [Qda] at hb
   have hm := hc i hi
   refine ⟨b, Qda.2 (by omega), ?_⟩
   rw [Xk] at h ⊢
   intro k hk
   refine ih _ _ _ _ (by omega) (fun k' hk' => ?_) (h k (hT k hk))
   rw [Z5] at hk' ⊢
   exact ⟨hT k' hk'.1, hk'.2⟩
theorem Qfy {c : Cane} {w : Span} {n : Nat} {a i : Int} {T T' : List Int} (hi : 0 ≤ i) (h : ∀ k, k ∈ T ↔ k ∈ T') : Qdu c w n a i T = Qdu c w n a i T' := by
 rw [Xu]
 exact ⟨Qk9 (fun _ _ => Z4 _) ⟨Z4 _, Z4 _⟩ n a i T T' hi fun k hk => (h k).2 hk, Qk9 (fun _ _ => Z4 _) ⟨Z4 _, Z4 _⟩ n a i T' T hi fun k hk => (h k).1 hk⟩
theorem Qi4 {c : Cane} {w : Span} : ∀ (n : Nat) (a i : Int) (T : List Int), w.high < a → T ≠ [] → (∀ k ∈ T, 0 ≤ k ∧ k ≤ 500) → Qdu c w n a i T = false := by
 intro n
 induction n with
 | zero => intro a i T h _ _; simp only [Qdu, Qai, X2, decide_eq_false_iff_not]; omega
 | succ n ih =>
  intro a i T h hT hk
  rw [Qdu, X3]
  refine ⟨by simp only [Qai, X2, decide_eq_false_iff_not]; omega, ?_⟩
  rw [List.any_eq_false]
  intro b hb
  rw [Qda] at hb
  obtain ⟨k, hkT⟩ := List.exists_mem_of_ne_nil T hT
  have h1 := Qgq (b := b) (k := k) (by omega) (hk k hkT)
  rw [Xk]
  intro h2
  have := h2 k hkT
  rw [ih (a + b - Qak b k) (i + 1) _ (by omega) (Xp (Z5.2 ⟨hkT, by simp⟩)) (fun k' hk' => hk k' (Z5.1 hk').1)] at this
  cases this
theorem Qng {b : Int} {ts : List Int} {l : Nat} (hm : ∀ i j : Nat, i ≤ j → j ≤ l → Qak b (ts.getD i 0) ≤ Qak b (ts.getD j 0)) :
  ∀ (n f : Nat), l + 1 ≤ f + n → (∀ p ∈ grpF b ts l f, f ≤ p.1 ∧ p.1 ≤ p.2 ∧ p.2 ≤ l ∧ ∀ j, f ≤ j → j ≤ l → (Qak b (ts.getD j 0) = Qak b (ts.getD p.1 0) ↔ p.1 ≤ j ∧ j ≤ p.2)) ∧
   ∀ j, f ≤ j → j ≤ l → ∃ p ∈ grpF b ts l f, p.1 ≤ j ∧ j ≤ p.2 := by
 intro n
 induction n with
 | zero =>
  intro f hf
  have e : grpF b ts l f = [] := by
   unfold grpF grpP
   rw [if_neg (by omega)]
  rw [e]
  exact ⟨fun p hp => (by cases hp), fun j h1 h2 => (by omega)⟩
 | succ n ih =>
  intro f hf
  by_cases hfl : f ≤ l
  ·rw [Qj5 hfl]
   obtain ⟨t1, t2, t3⟩ := Qqy (bend := b) (v := Qak b (ts.getD f 0)) (ts := ts) hfl
   have t4 := Qu4 (bend := b) (v := Qak b (ts.getD f 0)) (ts := ts) hfl
   obtain ⟨e, he⟩ : ∃ e, e = endP b ts l f := ⟨_, rfl⟩
   have he2 : toF b (Qak b (ts.getD f 0)) ts l f = e := he.symm
   rw [he2] at t1 t2 t3 t4
   rw [← he]
   obtain ⟨i1, i2⟩ := ih (e + 1) (by omega)
   have hin : ∀ j, f ≤ j → j ≤ e → Qak b (ts.getD j 0) = Qak b (ts.getD f 0) := fun j h1 h2 => by
    by_cases hj : j = f
    ·rw [hj]
    ·exact t3 j (by omega) h2
   have hout : ∀ j, e < j → j ≤ l → Qak b (ts.getD f 0) < Qak b (ts.getD j 0) := fun j h1 h2 => by
    have k1 := t4 (by omega)
    have k2 := hm f (e + 1) (by omega) (by omega)
    have k3 := hm (e + 1) j (by omega) h2
    omega
   refine ⟨fun p hp => ?_, fun j h1 h2 => ?_⟩
   ·rcases List.mem_cons.1 hp with rfl | hp
    ·refine ⟨Xq _, t1, t2, fun j h1 h2 => ⟨fun h => ⟨h1, ?_⟩, fun h => hin j h1 h.2⟩⟩
     refine Xx fun h3 => ?_
     have := hout j h3 h2
     have h' : Qak b (ts.getD j 0) = Qak b (ts.getD f 0) := h
     omega
    ·obtain ⟨a1, a2, a3, a4⟩ := i1 p hp
     refine ⟨by omega, a2, a3, fun j h1 h2 => ?_⟩
     by_cases hj : e < j
     ·exact a4 j hj h2
     ·have k1 := hin j h1 (by omega)
      have k2 := hout p.1 (by omega) (by omega)
      constructor
      ·intro h; omega
      ·intro h; omega
   ·by_cases hj : e < j
    ·obtain ⟨p, hp, hpj⟩ := i2 j hj h2
     exact ⟨p, List.mem_cons_of_mem _ hp, hpj⟩
    ·exact ⟨(f, e), List.mem_cons_self, h1, by show j ≤ e; omega⟩
  ·have e : grpF b ts l f = [] := by
    unfold grpF grpP
    rw [if_neg hfl]
   rw [e]
   exact ⟨fun p hp => (by cases hp), fun j h1 h2 => (by omega)⟩
def seg (ts : List Int) (f l : Nat) : List Int := (List.range' f (l + 1 - f)).map fun j => ts.getD j 0
theorem Qe7 {ts : List Int} {f l : Nat} {k : Int} : k ∈ seg ts f l ↔ ∃ j, f ≤ j ∧ j ≤ l ∧ ts.getD j 0 = k := by
 unfold seg
 rw [List.mem_map]
 constructor
 ·rintro ⟨j, hj, rfl⟩
  rw [X9] at hj
  exact ⟨j, hj.1, by omega, rfl⟩
 ·rintro ⟨j, h1, h2, rfl⟩
  exact ⟨j, X9.2 (by omega), rfl⟩
theorem Qt8 {p : Int → Bool} {L : List Int} (h : ∀ x ∈ L, 0 ≤ x) : 0 ≤ (L.find? p).getD (-1) ↔ L.any p = true := by
 cases hf : L.find? p with
 | none =>
  rw [Xv] at hf
  simp only [Q8, Zt]
  constructor
  ·intro h; omega
  ·rintro ⟨x, hx, hp⟩; exact absurd hp (hf x hx)
 | some x =>
  have h1 := X0 hf
  have h2 := Xo hf
  simp only [Qp, Zt]
  exact ⟨fun _ => ⟨x, h2, h1⟩, fun _ => h x h2⟩
theorem Qm8 {c : Cane} {w : Span} {ts : List Int} (hs : ts.Pairwise (· < ·)) (hk : ∀ k ∈ ts, 0 ≤ k ∧ k ≤ 500) :
  ∀ (n : Nat) (a num : Int) (f l : Nat), 0 ≤ num → f ≤ l → l < ts.length → (0 ≤ Qhj c w ts n a num f l ↔ Qdu c w n a num (seg ts f l) = true) := by
 have hkd : ∀ j, j < ts.length → 0 ≤ ts.getD j 0 ∧ ts.getD j 0 ≤ 500 := fun j hj => hk _ (Qd9 hj)
 have hmn : ∀ b, 0 ≤ b → ∀ i j : Nat, i ≤ j → j < ts.length → Qak b (ts.getD i 0) ≤ Qak b (ts.getD j 0) := by
  intro b hb i j hij hj
  refine Qfp hb (hkd i (by omega)).1 ?_
  by_cases e : i = j
  ·rw [e]; exact Z4 _
  ·have := Xj.1 hs i j (by omega) hj (by omega)
   simp only [Qa]
   rw [Qn (show i < ts.length by omega), Qn hj]
   simp only [Qp]; omega
 intro n
 induction n with
 | zero =>
  intro a num f l _ _ _
  rw [Qhj, Qdu]
  split
  ·rename_i h; simp [h]
  ·rename_i h; simp [h]
 | succ n ih =>
  intro a num f l hnum hfl hl
  have hne : seg ts f l ≠ [] := Xp (Qe7.2 ⟨f, Xq _, hfl, rfl⟩)
  have hin : ∀ k ∈ seg ts f l, 0 ≤ k ∧ k ≤ 500 := fun k hk' => by
   obtain ⟨j, j1, j2, rfl⟩ := Qe7.1 hk'
   exact hkd j (by omega)
  by_cases hw : Qai a w.low w.high = true
  ·rw [Qhj, if_pos hw, Qdu, hw]; simp
  ·by_cases hh : w.high < a
   ·rw [Qhj, if_neg hw, if_pos hh, Qi4 _ _ _ _ hh hne hin]; simp
   ·rw [Qhj, if_neg hw, if_neg hh, Qdu, Qt8 (fun x hx => by rw [Qda] at hx; omega)]
    simp only [hw, Zw]
    rw [Zt, Zt]
    have key : ∀ b ∈ ints 1 (Qby c num), ((grpF b ts l f).all fun p => decide (0 ≤ Qhj c w ts n (a + b - Qak b (ts.getD p.1 0)) (num + 1) p.1 p.2)) = true ↔
      ((seg ts f l).all fun k => Qdu c w n (a + b - Qak b k) (num + 1) ((seg ts f l).filter fun k' => decide (Qak b k' = Qak b k))) = true := by
     intro b hb
     rw [Qda] at hb
     obtain ⟨s1, s2⟩ := Qng (b := b) (ts := ts) (l := l) (fun i j h1 h2 => hmn b (by omega) i j h1 (by omega)) (l + 1) f (by omega)
     have hset : ∀ p ∈ grpF b ts l f, ∀ j, p.1 ≤ j → j ≤ p.2 → (Qdu c w n (a + b - Qak b (ts.getD p.1 0)) (num + 1) (seg ts p.1 p.2) = Qdu c w n (a + b - Qak b (ts.getD j 0)) (num + 1) ((seg ts f l).filter fun k' => decide (Qak b k' = Qak b (ts.getD j 0)))) := by
      intro p hp j j1 j2
      obtain ⟨a1, a2, a3, a4⟩ := s1 p hp
      have ej : Qak b (ts.getD j 0) = Qak b (ts.getD p.1 0) := (a4 j (by omega) (by omega)).2 ⟨j1, j2⟩
      rw [ej]
      refine Qfy (by omega) fun k => ?_
      rw [Z5, Qe7, Qe7, decide_eq_true_eq]
      constructor
      ·rintro ⟨i, i1, i2, rfl⟩
       exact ⟨⟨i, by omega, by omega, rfl⟩, (a4 i (by omega) (by omega)).2 ⟨i1, i2⟩⟩
      ·rintro ⟨⟨i, i1, i2, rfl⟩, h⟩
       have := (a4 i i1 i2).1 h
       exact ⟨i, this.1, this.2, rfl⟩
     rw [Xk, Xk]
     constructor
     ·intro h k hk'
      obtain ⟨j, j1, j2, rfl⟩ := Qe7.1 hk'
      obtain ⟨p, hp, p1, p2⟩ := s2 j j1 j2
      obtain ⟨a1, a2, a3, a4⟩ := s1 p hp
      have := h p hp
      rw [decide_eq_true_eq, ih _ _ _ _ (by omega) a2 (by omega), hset p hp j p1 p2] at this
      exact this
     ·intro h p hp
      obtain ⟨a1, a2, a3, a4⟩ := s1 p hp
      rw [decide_eq_true_eq, ih _ _ _ _ (by omega) a2 (by omega), hset p hp p.1 (Xq _) a2]
      exact h _ (Qe7.2 ⟨p.1, a1, by omega, rfl⟩)
    constructor
    ·rintro ⟨b, hb, h⟩; exact ⟨b, hb, (key b hb).1 h⟩
    ·rintro ⟨b, hb, h⟩; exact ⟨b, hb, (key b hb).2 h⟩
def Qmt (c : Cane) (w : Span) (n : Nat) : Bool := Qdu c w n 0 0 (Qa4 c)
theorem Qjj {c : Cane} (hC : OkC c) (ht : Qa4 c ≠ []) (w : Span) (n : Nat) : 0 ≤ Qes c w n ↔ Qmt c w n = true := by
 have hpos := Xl.2 ht
 have e : Qes c w n = Qhj c w (Qa4 c) n 0 0 0 ((Qa4 c).length - 1) := by
  unfold Qes Qfc Qjw
  simp only [Q3]
  rw [show ((((Qa4 c).length : Int) - 1).toNat) = (Qa4 c).length - 1 by omega]; rfl
 rw [e, Qm8 (Qdf c) (fun k hk => Qc0 hC hk) n 0 0 0 _ (Z4 _) (X5 _) (by omega)]
 unfold Qmt
 rw [Qfy (Z4 _) fun k => ?_]
 rw [Qe7]
 constructor
 ·rintro ⟨j, _, j2, rfl⟩
  exact Qd9 (by omega)
 ·intro hk
  obtain ⟨j, hj, rfl⟩ := Xs.1 hk
  exact ⟨j, X5 _, by omega, by rw [Qa, Qn hj]; rfl⟩
theorem Qjc {c : Cane} (hC : OkC c) (ht : Qa4 c ≠ []) (w : Span) : Qjb c w = (Xm 7).find? fun n => Qmt c w n := by
 unfold Qjb
 congr 1
 funext n
 rw [Xu, decide_eq_true_eq]
 exact Qjj hC ht w n
end Go.C06
set_option linter.unusedSimpArgs false
set_option linter.unusedVariables false
namespace Go.C06
open Go.Fam Go.Proofs
theorem Qsr {c : Cane} (hC : OkC c) {w : Span} (hw : Qb7 w 540 = true) : stE c w [] = if Qa4 c = [] then 3 else 0 := Qu1 hC hw (Qsy c)
theorem Qrq {c : Cane} (hC : OkC c) {w : Span} (hw : Qb7 w 540 = true) : ((Qca c w).2.2 = 3 ∧ (Qca c w).1 = 0 ∧ (Qca c w).2.1 = 0) ∨ ∃ n, Qa4 c ≠ [] ∧ Qjb c w = some n ∧ Qca c w = ((n : Int), Qes c w n, 0) := by
 have e := Qsr hC hw
 by_cases ht : Qa4 c = []
 ·rw [if_pos ht] at e
  left; unfold Qca; rw [e]; exact ⟨rfl, rfl, rfl⟩
 ·rw [if_neg ht] at e
  unfold Qca
  rw [if_pos e]
  cases hf : Qjb c w with
  | none => left; exact ⟨rfl, rfl, rfl⟩
  | some n => right; exact ⟨n, ht, rfl, rfl⟩
theorem Qth {c : Cane} (hC : OkC c) {w : Span} (hw : Qb7 w 540 = true) (ht : Qa4 c ≠ []) {n : Nat} (h : Qjb c w = some n) : Qca c w = ((n : Int), Qes c w n, 0) := by
 have e := Qsr hC hw
 rw [if_neg ht] at e
 unfold Qca
 rw [if_pos e, h]
theorem Qvo {p : Nat → Bool} {n : Nat} (hn : n < 7) (h : p n = true) : ∃ m, m ≤ n ∧ (Xm 7).find? p = some m := by
 cases hf : (Xm 7).find? p with
 | none =>
  rw [Xv] at hf
  exact absurd h (hf n (by simpa using hn))
 | some m =>
  refine ⟨m, Xx fun hlt => ?_, rfl⟩
  rw [Xr] at hf
  obtain ⟨h1, i, hi, he, h3⟩ := hf
  simp only [X6] at he h3
  subst he
  have := h3 n hlt
  rw [h] at this
  cases this
theorem Qnb {p : Nat → Bool} {n : Nat} (h : (Xm 7).find? p = some n) : n < 7 ∧ p n = true := by
 have h1 := Xo h
 have h2 := X0 h
 exact ⟨by simpa using h1, h2⟩
theorem Qs2 {c : Cane} (h : Qgn c = true) : OkC c := by
 unfold Qgn at h
 rw [Xc, decide_eq_true_eq] at h
 exact Qf6.1 h.2
end Go.C06
set_option linter.unusedSimpArgs false
set_option linter.unusedVariables false
namespace Go.C06
open Go.Fam Go.Proofs
end Go.C06
set_option linter.unusedSimpArgs false
set_option linter.unusedVariables false
namespace Go.C06
open Go.Fam Go.Proofs
theorem Qms {c o : Cane} {w r : Span} {g : Int} (hr : r = ⟨max 0 (w.low - g), w.high - g⟩) (hm : ∀ i : Int, 0 ≤ i → Qby c (i + 1) = Qby o i) :
  ∀ (n : Nat) (a i : Int) (T : List Int), 0 ≤ i → 0 ≤ a → (∀ k ∈ T, 0 ≤ k ∧ k ≤ 500) → Qdu c w n (a + g) (i + 1) T = Qdu o r n a i T := by
 have hin : ∀ a, 0 ≤ a → Qai (a + g) w.low w.high = Qai a r.low r.high := fun a h => by
  rw [Xu, hr]
  simp only [Qai, Xc, decide_eq_true_eq]; omega
 intro n
 induction n with
 | zero => intro a i T _ ha _; exact hin a ha
 | succ n ih =>
  intro a i T hi ha hk
  rw [Qdu, Qdu, hin a ha, hm i hi, Xu]
  simp only [Xz, Zt, Xk]
  refine or_congr_right (exists_congr fun b => and_congr_right fun hb => forall_congr' fun k => forall_congr' fun hkT => ?_)
  rw [Qda] at hb
  have h1 := Qgq (b := b) (k := k) (by omega) (hk k hkT)
  rw [show a + g + b - Qak b k = (a + b - Qak b k) + g by omega, ih (a + b - Qak b k) (i + 1) _ (by omega) (by omega) fun k' hk' => hk k' (Z5.1 hk').1]
theorem Qrm {c : Cane} {w : Span} {ts : List Int} (hs : ts.Pairwise (· < ·)) (hk : ∀ k ∈ ts, 0 ≤ k ∧ k ≤ 500) {n : Nat} {a num b : Int} {f l : Nat} (hnum : 0 ≤ num) (hfl : f ≤ l) (hl : l < ts.length) (hb : 0 ≤ b)
  (h : ∀ p ∈ grpF b ts l f, 0 ≤ Qhj c w ts n (a + b - Qak b (ts.getD p.1 0)) (num + 1) p.1 p.2) : ∀ k ∈ seg ts f l, Qdu c w n (a + b - Qak b k) (num + 1) ((seg ts f l).filter fun k' => decide (Qak b k' = Qak b k)) = true := by
 have hkd : ∀ j, j < ts.length → 0 ≤ ts.getD j 0 ∧ ts.getD j 0 ≤ 500 := fun j hj => hk _ (Qd9 hj)
 have hmn : ∀ i j : Nat, i ≤ j → j ≤ l → Qak b (ts.getD i 0) ≤ Qak b (ts.getD j 0) := by
  intro i j hij hj
  refine Qfp hb (hkd i (by omega)).1 ?_
  by_cases e : i = j
  ·rw [e]; exact Z4 _
  ·have := Xj.1 hs i j (by omega) (by omega) (by omega)
   simp only [Qa]
   rw [Qn (show i < ts.length by omega), Qn (show j < ts.length by omega)]
   simp only [Qp]; omega
 obtain ⟨s1, s2⟩ := Qng (b := b) (ts := ts) (l := l) hmn (l + 1) f (by omega)
 intro k hk'
 obtain ⟨j, j1, j2, rfl⟩ := Qe7.1 hk'
 obtain ⟨p, hp, p1, p2⟩ := s2 j j1 j2
 obtain ⟨a1, a2, a3, a4⟩ := s1 p hp
 have ej : Qak b (ts.getD j 0) = Qak b (ts.getD p.1 0) := (a4 j (by omega) (by omega)).2 ⟨p1, p2⟩
 have := h p hp
 rw [Qm8 hs hk _ _ _ _ _ (by omega) a2 (by omega)] at this
 rw [ej]
 rw [Qfy (by omega) fun k => ?_]
 ·exact this
 rw [Z5, Qe7, Qe7, decide_eq_true_eq]
 constructor
 ·rintro ⟨⟨i, i1, i2, rfl⟩, h⟩
  have := (a4 i i1 i2).1 h
  exact ⟨i, this.1, this.2, rfl⟩
 ·rintro ⟨i, i1, i2, rfl⟩
  exact ⟨⟨i, by omega, by omega, rfl⟩, (a4 i (by omega) (by omega)).2 ⟨i1, i2⟩⟩
theorem Qq4 {ts : List Int} (hpos : 0 < ts.length) (k : Int) : k ∈ seg ts 0 (ts.length - 1) ↔ k ∈ ts := by
 rw [Qe7]
 constructor
 ·rintro ⟨j, _, j2, rfl⟩
  exact Qd9 (by omega)
 ·intro hk
  obtain ⟨j, hj, rfl⟩ := Xs.1 hk
  exact ⟨j, X5 _, by omega, by rw [Qa, Qn hj]; rfl⟩
theorem Qrh {c : Cane} (hC : OkC c) {w : Span} (ht : Qa4 c ≠ []) {n : Nat} (h : Qjb c w = some n) :
  (n = 0 → Qai 0 w.low w.high = true ∧ Qes c w n = 0) ∧ (n ≠ 0 → (1 ≤ Qes c w n ∧ Qes c w n ≤ Qby c 0) ∧ ∀ k ∈ Qa4 c,
   Qdu c w (n - 1) (Qes c w n - Qak (Qes c w n) k) 1 ((Qa4 c).filter fun k' => decide (Qak (Qes c w n) k' = Qak (Qes c w n) k)) = true) := by
 have h7 := h
 rw [Qjc hC ht] at h7
 obtain ⟨h1, h2⟩ := Qnb h7
 have hpos := Xl.2 ht
 constructor
 ·rintro rfl
  have h3 : Qai 0 w.low w.high = true := h2
  refine ⟨h3, ?_⟩
  unfold Qes
  exact Qnr h3
 ·intro hn
  have hw : ¬ Qai 0 w.low w.high = true := fun hw => by
   obtain ⟨m, hm, hf⟩ := Qvo (p := fun n => Qmt c w n) (n := 0) (by omega) hw
   rw [h7] at hf
   cases hf
   omega
  obtain ⟨n, rfl⟩ : ∃ m, n = m + 1 := ⟨n - 1, by omega⟩
  have hge : 0 ≤ Qes c w (n + 1) := (Qjj hC ht w (n + 1)).2 h2
  have hhi : ¬ w.high < 0 := fun hh => by
   rw [Qjj hC ht w (n + 1)] at hge
   unfold Qmt at hge
   rw [Qi4 _ _ _ _ hh ht fun k hk => Qc0 hC hk] at hge
   cases hge
  have hgo := Qnq (c := c) (w := w) (ts := Qa4 c) (t := Qjw c (n + 1)) hw (by show (0 : Int) < ((n + 1 : Nat) : Int); omega) hhi
  have hP : Qes c w (n + 1) = Qfc c w (Qa4 c) (Qjw c (n + 1)) := rfl
  obtain ⟨b, hb⟩ : ∃ b, b = Qes c w (n + 1) := ⟨_, rfl⟩
  rw [← hP] at hgo
  rw [← hb] at hgo hge ⊢
  cases hf : (ints 1 (Qby c (Qjw c (n + 1)).number)).find? (Qlu c w (Qa4 c) (Qjw c (n + 1))) with
  | none => rw [hf] at hgo; simp only [Q8] at hgo; omega
  | some x =>
   rw [hf] at hgo
   simp only [Qp] at hgo
   subst hgo
   have f1 := X0 hf
   have f2 := Xo hf
   rw [Qda] at f2
   refine ⟨f2, fun k hk => ?_⟩
   have hlast : (Qjw c (n + 1)).last.toNat = (Qa4 c).length - 1 := by
    show (((Qa4 c).length : Int) - 1).toNat = _
    omega
   unfold Qlu at f1
   rw [Xk, hlast] at f1
   have hg := Qrm (c := c) (w := w) (ts := Qa4 c) (Qdf c) (fun k hk => Qc0 hC hk) (n := n) (a := 0) (num := 0) (b := b) (f := 0) (l := (Qa4 c).length - 1) (Z4 _) (X5 _) (by omega) (by omega) (fun p hp => by
    have := f1 p hp
    rw [decide_eq_true_eq] at this
    unfold Qfc Qfb Qjw at this
    have e : (((n + 1 : Nat) : Int) - 1).toNat = n := by omega
    simp only [e, Q3] at this
    exact this) k ((Qq4 hpos k).2 hk)
   rw [Xy, Xy] at hg
   rw [X7]
   rw [Qfy (by decide) fun k' => ?_]
   ·exact hg
   ·rw [Z5, Z5, Qq4 hpos]
end Go.C06
set_option maxRecDepth 8000
namespace Go.C06
open Go.Fam Go.Proofs
def rc7 : RC := (.seq (.reg false [(cX 3 0), (cX 5 2), (cQ 6 [] (.mv (kB false)))]) (.keep [1,3,5] (.seq (.seq (.reg true [(cLd 17 3 true 6), (cQ 18 [17] (.call (kF 22) [(.t 17)])), (cN 19 18), (cMv 20 19), (gQ 21 20 false [5] (.ld true 2 (.t 5))), (gQ 22 20 false [21] (.call (kF 23) [(.t 21)])), (gQ 23 20 false [22] (.not (.t 22))), (cQ 24 [20,23] (.pick (.t 20) (kB true) (.t 23))), (cMv 25 24), (gQ 26 25 false [3] (.ld true 6 (.t 3))), (gMv 27 25 false 1), (gQ 28 25 false [26,27] (.call (kF 34) [(.t 26), (.t 27)])), (gQ 29 25 false [28] (.not (.t 28))), (cQ 30 [25,29] (.pick (.t 25) (kB true) (.t 29)))]) (.keep [1,3,5,30] (.cond (.t 30) (.seq (.reg false [(cQ 31 [] (.call (kF 18) [])), (cMv 6 31)]) .ret) .skip))) (.keep [1,3,5] (.seq (.reg false [(cLd 33 3 true 6), (cLd 34 5 true 2), (cQ 35 [33,34] (.call (kF 26) [(.t 33), (.t 34)])), (cMv 32 35), (cEx 36 32 0), (cEx 37 32 1), (cMv 7 36), (cMv 8 37)]) (.keep [1,3,5,7,8] (.seq (.reg false [(cLd 39 3 true 6), (cLd 40 5 true 2), (cQ 41 [39,40] (.call (kF 35) [(.t 39), (.t 40)])), (cMv 38 41), (cEx 42 38 0), (cEx 43 38 1), (cMv 9 42), (cMv 10 43)]) (.keep [1,3,5,7,8,9,10] (.seq (.seq (.reg true [(cMv 44 8), (cMv 45 10), (cB 46 .neq 44 45), (cMv 47 46), (gMv 48 47 false 8), (gQ 49 47 false [48] (.bin .neq (.t 48) (kI 0))), (gMv 50 47 false 49), (gMv 51 50 true 8), (gQ 52 50 true [51] (.bin .neq (.t 51) (kI 3))), (gQ 53 47 false [50,52] (.pick (.t 50) (.t 52) (kB false))), (cQ 54 [47,53] (.pick (.t 47) (kB true) (.t 53)))]) (.keep [1,3,5,7,8,9,54] (.cond (.t 54) (.seq (.reg false [(cQ 6 [] (.mv (kB false)))]) .ret) .skip))) (.keep [1,3,5,7,8,9] (.seq (.seq (.reg true [(cMv 55 8), (cC 56 .neq 55 0), (cMv 57 56), (gMv 58 57 false 7), (gQ 59 57 false [58] (.bin .eql (.t 58) (kI 0))), (cQ 60 [57,59] (.pick (.t 57) (kB true) (.t 59)))]) (.keep [1,3,5,7,8,9,60] (.cond (.t 60) (.seq (.reg true [(cMv 61 8), (cC 62 .neq 61 0), (cMv 63 62), (gQ 64 63 false [5] (.ld true 2 (.t 5))), (gQ 65 63 false [64] (.call (kF 36) [(.t 64), (kI 0)])), (cQ 66 [63,65] (.pick (.t 63) (kB true) (.t 65))), (cMv 67 66), (gMv 68 67 true 9), (gQ 69 67 true [68] (.bin .eql (.t 68) (kI 0))), (cQ 70 [67,69] (.pick (.t 67) (.t 69) (kB false))), (cMv 71 70), (gQ 72 71 true [] (.call (kF 18) [])), (cQ 73 [71,72] (.pick (.t 71) (.t 72) (kB false))), (cMv 6 73)]) .ret) .skip))) (.keep [1,3,5,7,9] (.seq (.seq (.reg false [(cLd 74 3 true 6), (cMv 75 9), (cQ 76 [74,75] (.call (kF 37) [(.t 74), (.t 75), (kI 0)])), (cN 77 76)]) (.keep [1,3,5,7,9,77] (.cond (.t 77) (.seq (.reg false [(cQ 6 [] (.mv (kB false)))]) .ret) .skip))) (.keep [1,3,5,7,9] (.seq (.reg false [(cMv 78 9), (cMv 79 1), (cQ 80 [78,79] (.call (kF 38) [(.t 78), (.t 79)])), (cMv 11 80)]) (.keep [3,5,7,9,11] (.seq (.reg false [(cMv 81 9), (cMv 82 11), (cB 83 .sub 81 82), (cMv 12 83)]) (.keep [3,5,7,9,11,12] (.seq (.seq (.reg false [(cLd 84 5 true 2), (cMv 85 12), (cQ 86 [84,85] (.call (kF 36) [(.t 84), (.t 85)]))]) (.keep [3,5,7,9,11,12,86] (.cond (.t 86) (.seq (.reg false [(cQ 87 [] (.call (kF 18) [])), (cMv 6 87)]) .ret) .skip))) (.keep [3,5,7,9,11,12] (.seq (.reg false [(cLd 88 3 true 6), (cQ 89 [88] (.call (kF 24) [(.t 88)])), ⟨(some 13), none, [], none, .w (.alc [(.i 0), (.i 0), (.z 3), (.i 0), (.i 0), (.i 0)])⟩, ⟨none, none, [13,89], none, .w (.st 6 (.t 13) (.t 89))⟩]) (.keep [3,5,7,9,11,12,13] (.seq (.block 0 (.loop [3,5,7,9,11,12,13] none (.seq (.seq (.reg false [(cMv 90 9), (cFa 91 13 0), (cFa 92 91 0), (cLd 93 92 false 1), (cQ 94 [90,93] (.call (kF 38) [(.t 90), (.t 93)])), (cMv 95 11), (cB 96 .lss 94 95)]) (.keep [3,5,7,9,11,12,13,96] (.cond (.t 96) .skip (.exit 0)))) (.keep [3,5,7,9,11,12,13] (.block 1 (.reg false [(cFa 97 13 0), (cFa 98 97 0), (cLd 99 98 false 1), (cC 100 .add 99 1), (cFa 101 13 0), (cFa 102 101 0), ⟨none, none, [102,100], none, .w (.st 1 (.t 102) (.t 100))⟩])))))) (.keep [3,5,7,9,11,12,13] (.seq (.block 2 (.loop [3,5,7,9,11,12,13] none (.seq (.seq (.reg false [(cMv 103 9), (cFa 104 13 0), (cFa 105 104 1), (cLd 106 105 false 1), (cQ 107 [103,106] (.call (kF 38) [(.t 103), (.t 106)])), (cMv 108 11), (cB 109 .gtr 107 108)]) (.keep [3,5,7,9,11,12,13,109] (.cond (.t 109) .skip (.exit 2)))) (.keep [3,5,7,9,11,12,13] (.block 3 (.reg false [(cFa 110 13 0), (cFa 111 110 1), (cLd 112 111 false 1), (cC 113 .sub 112 1), (cFa 114 13 0), (cFa 115 114 1), ⟨none, none, [115,113], none, .w (.st 1 (.t 115) (.t 113))⟩])))))) (.keep [3,5,7,12,13] (.seq (.reg false [(cFa 116 13 4), (cLd 117 116 false 1), (cFa 118 3 5), (cLd 119 118 false 1), (cB 120 .sub 117 119), (cFa 121 13 4), ⟨none, none, [121,120], none, .w (.st 1 (.t 121) (.t 120))⟩]) (.keep [5,7,12,13] (.seq (.reg false [(cFa 122 5 0), (cLd 123 122 false 1), (cMv 124 12), (cB 125 .sub 123 124), (cQ 126 [125] (.mx (kI 0) (.t 125))), (cFa 127 5 1), (cLd 128 127 false 1), (cMv 129 12), (cB 130 .sub 128 129), (cQ 131 [126,130] (.bld [(.i 0), (.i 0)] [(0,1, (.t 126)), (1,1, (.t 130))])), ⟨(some 14), none, [], none, .w (.alc [(.i 0), (.i 0)])⟩, ⟨none, none, [14,131], none, .w (.st 2 (.t 14) (.t 131))⟩]) (.keep [7,13,14] (.seq (.seq (.reg true [(cLd 132 13 true 6), (cQ 133 [132] (.call (kF 16) [(.t 132)])), (cC 134 .neq 133 0), (cMv 135 134), (gQ 136 135 false [14] (.fad 1 (.t 14))), (gQ 137 135 false [136] (.ld false 1 (.t 136))), (gQ 138 135 false [137] (.bin .lss (.t 137) (kI 0))), (cQ 139 [135,138] (.pick (.t 135) (kB true) (.t 138)))]) (.keep [7,13,14,139] (.cond (.t 139) (.seq (.reg false [(cQ 6 [] (.mv (kB false)))]) .ret) .skip))) (.keep [7,13,14] (.seq (.reg false [(cLd 141 13 true 6), (cLd 142 14 true 2), (cQ 143 [141,142] (.call (kF 26) [(.t 141), (.t 142)])), (cMv 140 143), (cEx 144 140 0), (cEx 145 140 1), (cMv 15 144), (cMv 16 145)]) (.keep [7,15,16] (.seq (.reg true [(cMv 146 16), (cC 147 .eql 146 0), (cMv 148 147), (gMv 149 148 true 15), (gMv 150 148 true 7), (gQ 151 148 true [149,150] (.bin .lss (.t 149) (.t 150))), (cQ 152 [148,151] (.pick (.t 148) (.t 151) (kB false))), (cMv 153 152), (gQ 154 153 true [] (.call (kF 18) [])), (cQ 155 [153,154] (.pick (.t 153) (.t 154) (kB false))), (cMv 6 155)]) .ret)))))))))))))))))))))))))))))))))))
def pu7 : List Nat := [3,5]
def rs7 : List RV := [.t 6]
theorem cc7 : CCx Try.prog Try.f7 pu7 rc7 := by unfold CCx; kernel_rfl
theorem cb7 : CBx Try.f7 := by unfold CBx; kernel_rfl
theorem cs7 : CSx Try.prog Try.f7 rs7 := by unfold CSx; kernel_rfl
theorem cn7 : 3 ≤ Try.f7.ntmps := by decide
end Go.C06
set_option linter.unusedSimpArgs false
set_option linter.unusedVariables false
namespace Go.C06
open Go.Fam Go.Proofs
theorem Qql {c : Cane} (hC : OkC c) {k b : Int} (hk : k ∈ Qa4 c) (hb : 1 ≤ b) : ∃ N M : Nat,
  ((∀ i : Nat, i < N → Qak b (c.spring.low + i) < Qak b k) ∧ ¬ Qak b (c.spring.low + N) < Qak b k ∧ c.spring.low + N ≤ k) ∧
  ((∀ i : Nat, i < M → Qak b k < Qak b (c.spring.high - i)) ∧ ¬ Qak b k < Qak b (c.spring.high - M) ∧ k ≤ c.spring.high - M) := by
 have h1 := (Qd5.1 hk).1
 have s1 := Qdl (p := fun n : Nat => ¬ Qak b (c.spring.low + n) < Qak b k) ⟨(k - c.spring.low).toNat, by rw [show c.spring.low + ((k - c.spring.low).toNat : Int) = k by omega]; omega⟩
 have s2 := Qdl (p := fun n : Nat => ¬ Qak b k < Qak b (c.spring.high - n)) ⟨(c.spring.high - k).toNat, by rw [show c.spring.high - ((c.spring.high - k).toNat : Int) = k by omega]; omega⟩
 have l1 := s1.2 (k - c.spring.low).toNat (by rw [show c.spring.low + ((k - c.spring.low).toNat : Int) = k by omega]; omega)
 have l2 := s2.2 (c.spring.high - k).toNat (by rw [show c.spring.high - ((c.spring.high - k).toNat : Int) = k by omega]; omega)
 refine ⟨_, _, ⟨fun i hi => ?_, s1.1, by omega⟩, fun i hi => ?_, s2.1, by omega⟩
 ·exact Int.not_le.1 fun h => by have := s1.2 i (by omega); omega
 ·exact Int.not_le.1 fun h => by have := s2.2 i (by omega); omega
def Qgy (c : Cane) (N M : Nat) : Cane := ⟨⟨c.spring.low + N, c.spring.high - M⟩, c.bents, c.wrong, c.limit - c.tire, c.tire⟩
theorem Qmz {c : Cane} (hC : OkC c) {k b : Int} (hk : k ∈ Qa4 c) (hb : 1 ≤ b) {N M : Nat} (h1 : (∀ i : Nat, i < N → Qak b (c.spring.low + i) < Qak b k) ∧ ¬ Qak b (c.spring.low + N) < Qak b k ∧ c.spring.low + N ≤ k)
  (h2 : (∀ i : Nat, i < M → Qak b k < Qak b (c.spring.high - i)) ∧ ¬ Qak b k < Qak b (c.spring.high - M) ∧ k ≤ c.spring.high - M) (x : Int) :
  x ∈ Qa4 (Qgy c N M) ↔ x ∈ (Qa4 c).filter fun k' => decide (Qak b k' = Qak b k) := by
 rw [Z5, Qd5, Qd5, decide_eq_true_eq]
 have e : Qeg (Qgy c N M) x = Qeg c x := rfl
 have e1 : (Qgy c N M).spring.low = c.spring.low + N := rfl
 have e2 : (Qgy c N M).spring.high = c.spring.high - M := rfl
 rw [e, e1, e2]
 have hlo := hC.low
 have hkk := (Qd5.1 hk).1
 constructor
 ·rintro ⟨⟨a1, a2⟩, a3⟩
  refine ⟨⟨⟨by omega, by omega⟩, a3⟩, ?_⟩
  have m1 := Qfp (b := b) (k := c.spring.low + N) (k' := x) (by omega) (by omega) a1
  have m2 := Qfp (b := b) (k := x) (k' := c.spring.high - M) (by omega) (by omega) a2
  omega
 ·rintro ⟨⟨⟨a1, a2⟩, a3⟩, a4⟩
  refine ⟨⟨Jc.1 fun hlt => ?_, Jc.1 fun hlt => ?_⟩, a3⟩
  ·have := h1.1 (x - c.spring.low).toNat (by omega)
   rw [show c.spring.low + ((x - c.spring.low).toNat : Int) = x by omega] at this
   omega
  ·have := h2.1 (c.spring.high - x).toNat (by omega)
   rw [show c.spring.high - ((c.spring.high - x).toNat : Int) = x by omega] at this
   omega
theorem Qqm {c : Cane} (hC : OkC c) {w : Span} (hw : Qb7 w 540 = true) {k b : Int} (hk : k ∈ Qa4 c) (hb : 1 ≤ b) {n N M : Nat} (hn : n < 6) (h1 : (∀ i : Nat, i < N → Qak b (c.spring.low + i) < Qak b k) ∧ ¬ Qak b (c.spring.low + N) < Qak b k ∧ c.spring.low + N ≤ k)
  (h2 : (∀ i : Nat, i < M → Qak b k < Qak b (c.spring.high - i)) ∧ ¬ Qak b k < Qak b (c.spring.high - M) ∧ k ≤ c.spring.high - M)
  (hm : Qdu c w n (b - Qak b k) 1 ((Qa4 c).filter fun k' => decide (Qak b k' = Qak b k)) = true) (hnw : ¬ Qai (b - Qak b k) w.low w.high = true) :
  OkC (Qgy c N M) ∧ 0 ≤ w.high - (b - Qak b k) ∧ ∃ r : Span, r = ⟨max 0 (w.low - (b - Qak b k)), w.high - (b - Qak b k)⟩ ∧ (Qca (Qgy c N M) r).2.2 = 0 ∧ (Qca (Qgy c N M) r).1 ≤ n := by
 have hkk := Qc0 hC hk
 have hg := Qgq (b := b) (k := k) (by omega) hkk
 have hF : ∀ x ∈ (Qa4 c).filter fun k' => decide (Qak b k' = Qak b k), 0 ≤ x ∧ x ≤ 500 := fun x hx => Qc0 hC (Z5.1 hx).1
 have hne : ((Qa4 c).filter fun k' => decide (Qak b k' = Qak b k)) ≠ [] := Xp (Z5.2 ⟨hk, by simp⟩)
 have hhi : 0 ≤ w.high - (b - Qak b k) := Jc.1 fun hlt => by
  rw [Qi4 _ _ _ _ (by omega) hne hF] at hm
  cases hm
 have hlim : 1 ≤ c.limit - c.tire := by
  cases n with
  | zero => exact absurd hm hnw
  | succ n =>
   rw [Qdu, Xz] at hm
   rcases hm with hm | hm
   ·exact absurd hm hnw
   ·rw [Zt] at hm
    obtain ⟨b2, hb2, _⟩ := hm
    rw [Qda] at hb2
    unfold Qby at hb2
    rw [Int.mul_one] at hb2
    omega
 have hO : OkC (Qgy c N M) := by
  have a1 := hC.low
  have a2 := hC.high
  have a3 := hC.spread
  have a4 := hC.limit
  have a5 := hC.tire
  exact ⟨by show 0 ≤ c.spring.low + (N : Int); omega, by show c.spring.low + (N : Int) ≤ c.spring.high - M; omega, by show c.spring.high - (M : Int) ≤ 500; omega,
   by show c.spring.high - (M : Int) - (c.spring.low + N) ≤ 40; omega, hC.bents, hC.bent, hC.wrong, by show 1 ≤ c.limit - c.tire ∧ c.limit - c.tire ≤ 90; omega, a5⟩
 have hrt := Qmz hC hk hb h1 h2
 have hne2 : Qa4 (Qgy c N M) ≠ [] := Xp ((hrt k).2 (Z5.2 ⟨hk, by simp⟩))
 refine ⟨hO, hhi, _, rfl, ?_⟩
 obtain ⟨r, hr⟩ : ∃ r : Span, r = ⟨max 0 (w.low - (b - Qak b k)), w.high - (b - Qak b k)⟩ := ⟨_, rfl⟩
 rw [← hr]
 have hmost : ∀ i : Int, 0 ≤ i → Qby c (i + 1) = Qby (Qgy c N M) i := fun i hi => by
  unfold Qby
  show min 90 (c.limit - c.tire * (i + 1)) = min 90 (c.limit - c.tire - c.tire * i)
  rw [Int.mul_add, Int.mul_one]; omega
 have hs := Qms hr hmost n 0 0 _ (Z4 _) (Z4 _) hF
 rw [Xy, Xy, hm] at hs
 have hmc : Qmt (Qgy c N M) r n = true := by
  unfold Qmt
  rw [Qfy (Z4 _) hrt]
  exact hs.symm
 have hwr : Qb7 r 540 = true := by
  rw [hr]
  simp only [Qb7, Qai, Xc, decide_eq_true_eq] at hw ⊢
  omega
 obtain ⟨m, hmn, hf⟩ := Qvo (by omega) hmc
 rw [← Qjc hO hne2] at hf
 rw [Qth hO hwr hne2 hf]
 exact ⟨rfl, by show (m : Int) ≤ n; omega⟩
noncomputable def K3 : Gam := K2.ext 35 (fnG eCS dCS (fun _ => True) (fun a => Qca a.1 a.2) fun r => .tp [.i r.2.1, .i r.2.2])
theorem okK3 : GOk Try.prog K3 := okK2.ext (f := 35) (fun a w => Try.call35 a w) (Qb6 (e := eCS) (d := dCS) (ok := fun _ => True) (g := fun a => Qca a.1 a.2) (eb := fun r => .tp [.i r.2.1, .i r.2.2]) fun a _ => W35 a.1 a.2)
theorem k35 (c : Cane) (w : Span) : K3 35 [.ag (Qa8 c), .ag (Qan w)] = (True, .tp [.i (Qca c w).2.1, .i (Qca c w).2.2]) :=
 (show K3 35 _ = fnG eCS dCS (fun _ => True) (fun a => Qca a.1 a.2) (fun r => .tp [.i r.2.1, .i r.2.2]) (eCS (c, w)) from rfl).trans (Qbe _ (Qo8 _))
theorem Qwv (c : Cane)  : K3 22 [.ag (Qa8 c)] = (True, .b (Qgn c)) := k22 c
theorem Qww (w : Span)  : K3 23 [.ag (Qan w)] = (True, .b (Qb7 w 540)) := k23 w
theorem Qwt (c : Cane) (k : Int)  : K3 34 [.ag (Qa8 c), .i k] = (OkC c, .b (isTB c k)) := h34 c k
theorem Qv6 (c : Cane) (w : Span)  : K3 26 [.ag (Qa8 c), .ag (Qan w)] = (True, .tp [.i (Qca c w).1, .i (Qca c w).2.2]) := h26 c w
theorem Qwy (w : Span) (n : Int)  : K3 36 [.ag (Qan w), .i n] = (True, .b (Qai n w.low w.high)) := k36 w n
theorem Qwu (c : Cane) (b i : Int)  : K3 37 [.ag (Qa8 c), .i b, .i i] = (Qdp c i, .b (Qgw c b i)) := h37 c b i
theorem Qo4 (a b : Int)  : K3 38 [.i a, .i b] = (tame 1000000 a ∧ tame 1000000 b, .i (Qak a b)) := h38 a b
theorem Qwx (c : Cane)  : K3 24 [.ag (Qa8 c)] = (fewB c, .ag (Qa8 c)) := k24 c
theorem Qws (c : Cane)  : K3 16 [.ag (Qa8 c)] = (True, .i (Qc6 c)) := h16 c
theorem Qla  : K3 18 [] = (True, .b true) := h18
set_option maxRecDepth 100000 in
set_option maxHeartbeats 8000000 in
theorem P7 (c : Cane) (k : Int) (w : Span) : Qad Try.prog 7 [.ag (Qa8 c), .i k, .ag (Qan w)] (.b true) := by
 refine Qae okK3 hmix Try.func7 cb7 cc7 cs7 cn7 ?_
 have g1 := Qwv c
 have g2 := Qww w
 have g3 := Qwt c k
 have g4 := Qv6 c w
 have g5 := k35 c w
 have g6 := Qwy w
 have g8 := Qwx c
 unfold Qa8 at g1 g3 g4 g5 g8
 unfold Qan at g2 g4 g5 g6
 by_cases hr : Qgn c = true
 ·have hC := Qs2 hr
  have hb' : fewB c := by have := hC.bents; unfold fewB; omega
  by_cases hw : Qb7 w 540 = true
  ·by_cases hk : isTB c k = true
   ·have hkm := Qro.1 hk
    have hkk := Qc0 hC hkm
    rcases Qrq hC hw with ⟨h1, h2, h3⟩ | ⟨n, ht, h1, h2⟩
    ·simp only [rc7, rs7, g1, g2, g3, g4, g5, hr, hw, hk, hC, h1, h2, h3, Qla, Qhm, Qam, Qaa, Qba, Qab, Qal, Qbq, Qac, Qaw, Qaf, Qa7, Qcx, Qdx, Qd3, Qd2, Qee, Qec, Qef, Qeb, Qdi, Qeo, Qdd, Qde, Qdw, Qdq, Qdy, Qed, noGo, Qcs, ↓Qbl, ↓Qcr, rnQ, rndQ, updL, Qfe, yres, Qff, ghO, Qek, ocV, effO, nidQ, plO, plQ, plB, Qet, Qcc, Qej, Qei, Qb3, optL, upTo, rids, Qcg, Qdz, Qdk, Qe6, Zz, Z6, Qcm, Qcv, Qc8, shV, shL, shB, Qaj, Qc9, swH, sw, renV, renL, renB, cutH, putB, lkpV, keyL, entV, Qfz, keyV, Qbh, endO, endK, endI, Qag, Qaq, Qa6, Qa1, Qep, Fam.step, Qah, Qbn, Qbm, Qat, Qbc, ug, runX, Qh6, eff, Qb2, fpR, fpQ, fpV, Qbp, hits, putB, nv, sv, Qce, evO, opv, qv, Qar, Qcq, Qcp, binV, ldV, iadV, lenV, curG, slcV, slxV, Qeu, Qb1, Qao, putAt, Qb0, Qb9, V.cells, Qax, Qb5, Qbo, Qa9, Qa5, flat, Qcf, kp, cutV, cutL, cutB, Qa2, Qau, Qa0, Qa3, ↓reduceIte, Nat.reduceEqDiff, Nat.reduceAdd, Nat.reduceSub, Nat.reduceMul, Nat.reduceLT, Nat.reduceLeDiff, Nat.reduceBEq, Int.reduceNeg, Int.reduceToNat, Zs, Zx, Int.reduceLT, Int.reduceLE, Int.reduceAdd, Int.reduceSub, Int.reduceMul, Int.reduceEq, Qc, Qd, Qy, Qw, Qe, Qf, Qh, Qr, Zl, Qg, Q9, Qz, Qm, Z7, Qx, Qu, Qi, Qj, Qq, Qv, Qp, Q8, Q0, Zb, Xf, Qs, Q6, Zq, Zr, Zd, Zo, endQ, rvs, rv1, resV, vw_i, vw_b, vw_u, Qhw, vw_z, Qb8, Qfo, Qb4, Qc5, Qeh, Qg5, Qel, zipA, Z1, Q4, beq_self_eq_true, Qk, Z8, Xi.injEq, V.i.injEq, V.b.injEq, Qt, Q1, Zy, Ze, Zu, Qo, Zw, Xe, Z9, Zi, Zm, Qb, Zf, decide_true, decide_false, decide_eq_true_eq, decide_eq_false_iff_not, true_and, and_true, and_self, false_and, and_false, forall_const, false_implies, true_implies, implies_true, reduceCtorEq, ite_true, ite_false, not_true_eq_false, not_false_eq_true, ne_eq, Q7, Z0, Z2, Zv, Zk, Za, beq_true, beq_false, Xg, Zj, Q5, Qdg, Qe5, Zc, Zg, Z3, imp_self, Ql, Q3, Qa, Q2, Zp, Zn, Classical.not_not, Zh, Qhr, Qan, eBent, Qa8, Qd0, eBox, Qbd, eI, eIs, Qh4, Qh3]
    ·obtain ⟨f1, f2⟩ := Qrh hC ht h1
     rw [h2] at g4 g5
     by_cases hn : n = 0
     ·obtain ⟨f3, f4⟩ := f1 hn
      have h0 : (n : Int) = 0 := by omega
      rw [f4, h0] at g5
      rw [f4, h0] at g4
      simp only [rc7, rs7, g1, g2, g3, g4, g5, g6, hr, hw, hk, hC, f3, Qla, Qhm, Qam, Qaa, Qba, Qab, Qal, Qbq, Qac, Qaw, Qaf, Qa7, Qcx, Qdx, Qd3, Qd2, Qee, Qec, Qef, Qeb, Qdi, Qeo, Qdd, Qde, Qdw, Qdq, Qdy, Qed, noGo, Qcs, ↓Qbl, ↓Qcr, rnQ, rndQ, updL, Qfe, yres, Qff, ghO, Qek, ocV, effO, nidQ, plO, plQ, plB, Qet, Qcc, Qej, Qei, Qb3, optL, upTo, rids, Qcg, Qdz, Qdk, Qe6, Zz, Z6, Qcm, Qcv, Qc8, shV, shL, shB, Qaj, Qc9, swH, sw, renV, renL, renB, cutH, putB, lkpV, keyL, entV, Qfz, keyV, Qbh, endO, endK, endI, Qag, Qaq, Qa6, Qa1, Qep, Fam.step, Qah, Qbn, Qbm, Qat, Qbc, ug, runX, Qh6, eff, Qb2, fpR, fpQ, fpV, Qbp, hits, putB, nv, sv, Qce, evO, opv, qv, Qar, Qcq, Qcp, binV, ldV, iadV, lenV, curG, slcV, slxV, Qeu, Qb1, Qao, putAt, Qb0, Qb9, V.cells, Qax, Qb5, Qbo, Qa9, Qa5, flat, Qcf, kp, cutV, cutL, cutB, Qa2, Qau, Qa0, Qa3, ↓reduceIte, Nat.reduceEqDiff, Nat.reduceAdd, Nat.reduceSub, Nat.reduceMul, Nat.reduceLT, Nat.reduceLeDiff, Nat.reduceBEq, Int.reduceNeg, Int.reduceToNat, Zs, Zx, Int.reduceLT, Int.reduceLE, Int.reduceAdd, Int.reduceSub, Int.reduceMul, Int.reduceEq, Qc, Qd, Qy, Qw, Qe, Qf, Qh, Qr, Zl, Qg, Q9, Qz, Qm, Z7, Qx, Qu, Qi, Qj, Qq, Qv, Qp, Q8, Q0, Zb, Xf, Qs, Q6, Zq, Zr, Zd, Zo, endQ, rvs, rv1, resV, vw_i, vw_b, vw_u, Qhw, vw_z, Qb8, Qfo, Qb4, Qc5, Qeh, Qg5, Qel, zipA, Z1, Q4, beq_self_eq_true, Qk, Z8, Xi.injEq, V.i.injEq, V.b.injEq, Qt, Q1, Zy, Ze, Zu, Qo, Zw, Xe, Z9, Zi, Zm, Qb, Zf, decide_true, decide_false, decide_eq_true_eq, decide_eq_false_iff_not, true_and, and_true, and_self, false_and, and_false, forall_const, false_implies, true_implies, implies_true, reduceCtorEq, ite_true, ite_false, not_true_eq_false, not_false_eq_true, ne_eq, Q7, Z0, Z2, Zv, Zk, Za, beq_true, beq_false, Xg, Zj, Q5, Qdg, Qe5, Zc, Zg, Z3, imp_self, Ql, Q3, Qa, Q2, Zp, Zn, Classical.not_not, Zh, Qhr, Qan, eBent, Qa8, Qd0, eBox, Qbd, eI, eIs, Qh4, Qh3]
     ·obtain ⟨f3, f4⟩ := f2 hn
      have f5 := f4 k hkm
      have hn7 : n < 7 := by
       rw [Qjc hC ht] at h1
       exact (Qnb h1).1
      obtain ⟨b, hb⟩ : ∃ b, b = Qes c w n := ⟨_, rfl⟩
      rw [← hb] at g4 g5 f3 f5
      clear hb f1 f2 f4
      have hm0 : Qdp c 0 := hC.most (by unfold tame; omega)
      have hb90 := Qkw c 0
      have hp : Qgw c b 0 = true := (Qjk hC b 0).2 f3
      have g7 := Qwu c b 0
      unfold Qa8 at g7
      have t1 : tame 1000000 b := by unfold tame; omega
      have t2 : tame 1000000 k := by unfold tame; omega
      have hbk := Qgq (b := b) (k := k) (by omega) hkk
      have i1 : inI (b - Qak b k) := by unfold inI; omega
      have hn1 : ¬ (n : Int) = 0 := by omega
      by_cases hin : Qai (b - Qak b k) w.low w.high = true
      ·simp only [rc7, rs7, g1, g2, g3, g4, g5, g6, g7, hr, hw, hk, hC, hm0, hp, t1, t2, i1, hn1, hin, Qo4, Qla, Qhm, Qam, Qaa, Qba, Qab, Qal, Qbq, Qac, Qaw, Qaf, Qa7, Qcx, Qdx, Qd3, Qd2, Qee, Qec, Qef, Qeb, Qdi, Qeo, Qdd, Qde, Qdw, Qdq, Qdy, Qed, noGo, Qcs, ↓Qbl, ↓Qcr, rnQ, rndQ, updL, Qfe, yres, Qff, ghO, Qek, ocV, effO, nidQ, plO, plQ, plB, Qet, Qcc, Qej, Qei, Qb3, optL, upTo, rids, Qcg, Qdz, Qdk, Qe6, Zz, Z6, Qcm, Qcv, Qc8, shV, shL, shB, Qaj, Qc9, swH, sw, renV, renL, renB, cutH, putB, lkpV, keyL, entV, Qfz, keyV, Qbh, endO, endK, endI, Qag, Qaq, Qa6, Qa1, Qep, Fam.step, Qah, Qbn, Qbm, Qat, Qbc, ug, runX, Qh6, eff, Qb2, fpR, fpQ, fpV, Qbp, hits, putB, nv, sv, Qce, evO, opv, qv, Qar, Qcq, Qcp, binV, ldV, iadV, lenV, curG, slcV, slxV, Qeu, Qb1, Qao, putAt, Qb0, Qb9, V.cells, Qax, Qb5, Qbo, Qa9, Qa5, flat, Qcf, kp, cutV, cutL, cutB, Qa2, Qau, Qa0, Qa3, ↓reduceIte, Nat.reduceEqDiff, Nat.reduceAdd, Nat.reduceSub, Nat.reduceMul, Nat.reduceLT, Nat.reduceLeDiff, Nat.reduceBEq, Int.reduceNeg, Int.reduceToNat, Zs, Zx, Int.reduceLT, Int.reduceLE, Int.reduceAdd, Int.reduceSub, Int.reduceMul, Int.reduceEq, Qc, Qd, Qy, Qw, Qe, Qf, Qh, Qr, Zl, Qg, Q9, Qz, Qm, Z7, Qx, Qu, Qi, Qj, Qq, Qv, Qp, Q8, Q0, Zb, Xf, Qs, Q6, Zq, Zr, Zd, Zo, endQ, rvs, rv1, resV, vw_i, vw_b, vw_u, Qhw, vw_z, Qb8, Qfo, Qb4, Qc5, Qeh, Qg5, Qel, zipA, Z1, Q4, beq_self_eq_true, Qk, Z8, Xi.injEq, V.i.injEq, V.b.injEq, Qt, Q1, Zy, Ze, Zu, Qo, Zw, Xe, Z9, Zi, Zm, Qb, Zf, decide_true, decide_false, decide_eq_true_eq, decide_eq_false_iff_not, true_and, and_true, and_self, false_and, and_false, forall_const, false_implies, true_implies, implies_true, reduceCtorEq, ite_true, ite_false, not_true_eq_false, not_false_eq_true, ne_eq, Q7, Z0, Z2, Zv, Zk, Za, beq_true, beq_false, Xg, Zj, Q5, Qdg, Qe5, Zc, Zg, Z3, imp_self, Ql, Q3, Qa, Q2, Zp, Zn, Classical.not_not, Zh, Qhr, Qan, eBent, Qa8, Qd0, eBox, Qbd, eI, eIs, Qh4, Qh3]
      ·obtain ⟨N, M, e1, e2⟩ := Qql hC hkm f3.1
       obtain ⟨hO, r1, r, r2, r3, r4⟩ := Qqm hC hw hkm f3.1 (n := n - 1) (by omega) e1 e2 f5 hin
       simp only [rc7, rs7, g1, g2, g3, g4, g5, g6, g7, g8, hr, hw, hk, hC, hm0, hp, t1, t2, i1, hn1, hin, hb', Qo4, Qla, Qhm, Qam, Qaa, Qba, Qab, Qal, Qbq, Qac, Qaw, Qaf, Qa7, Qcx, Qdx, Qd3, Qd2, Qee, Qec, Qef, Qeb, Qdi, Qeo, Qdd, Qde, Qdw, Qdq, Qdy, Qed, noGo, Qcs, ↓Qbl, ↓Qcr, rnQ, rndQ, updL, Qfe, yres, Qff, ghO, Qek, ocV, effO, nidQ, plO, plQ, plB, Qet, Qcc, Qej, Qei, Qb3, optL, upTo, rids, Qcg, Qdz, Qdk, Qe6, Zz, Z6, Qcm, Qcv, Qc8, shV, shL, shB, Qaj, Qc9, swH, sw, renV, renL, renB, cutH, putB, lkpV, keyL, entV, Qfz, keyV, Qbh, endO, endK, endI, Qag, Qaq, Qa6, Qa1, Qep, Fam.step, Qah, Qbn, Qbm, Qat, Qbc, ug, runX, Qh6, eff, Qb2, fpR, fpQ, fpV, Qbp, hits, putB, nv, sv, Qce, evO, opv, qv, Qar, Qcq, Qcp, binV, ldV, iadV, lenV, curG, slcV, slxV, Qeu, Qb1, Qao, putAt, Qb0, Qb9, V.cells, Qax, Qb5, Qbo, Qa9, Qa5, flat, Qcf, kp, cutV, cutL, cutB, Qa2, Qau, Qa0, Qa3, ↓reduceIte, Nat.reduceEqDiff, Nat.reduceAdd, Nat.reduceSub, Nat.reduceMul, Nat.reduceLT, Nat.reduceLeDiff, Nat.reduceBEq, Int.reduceNeg, Int.reduceToNat, Zs, Zx, Int.reduceLT, Int.reduceLE, Int.reduceAdd, Int.reduceSub, Int.reduceMul, Int.reduceEq, Qc, Qd, Qy, Qw, Qe, Qf, Qh, Qr, Zl, Qg, Q9, Qz, Qm, Z7, Qx, Qu, Qi, Qj, Qq, Qv, Qp, Q8, Q0, Zb, Xf, Qs, Q6, Zq, Zr, Zd, Zo, endQ, rvs, rv1, resV, vw_i, vw_b, vw_u, Qhw, vw_z, Qb8, Qfo, Qb4, Qc5, Qeh, Qg5, Qel, zipA, Z1, Q4, beq_self_eq_true, Qk, Z8, Xi.injEq, V.i.injEq, V.b.injEq, Qt, Q1, Zy, Ze, Zu, Qo, Zw, Xe, Z9, Zi, Zm, Qb, Zf, decide_true, decide_false, decide_eq_true_eq, decide_eq_false_iff_not, true_and, and_true, and_self, false_and, and_false, forall_const, false_implies, true_implies, implies_true, reduceCtorEq, ite_true, ite_false, not_true_eq_false, not_false_eq_true, ne_eq, Q7, Z0, Z2, Zv, Zk, Za, beq_true, beq_false, Xg, Zj, Q5, Qdg, Qe5, Zc, Zg, Z3, imp_self, Ql, Q3, Qa, Q2, Zp, Zn, Classical.not_not, Zh, Qhr, Qan, eBent, Qa8, Qd0, eBox, Qbd, eI, eIs, Qh4, Qh3]
       have s1 := hC.low
       have s2 := hC.high
       have s3 := hC.spread
       have s4 := hC.limit
       have s5 := hC.tire
       have tlo : ∀ i : Nat, i ≤ N → tame 1000000 (c.spring.low + (i : Int)) := fun i hi => by unfold tame; omega
       have thi : ∀ i : Nat, i ≤ M → tame 1000000 (c.spring.high - (i : Int)) := fun i hi => by unfold tame; omega
       refine Qcb N (fun i => ⟨lkp [(3, .pa (Qa8 c)), (5, .pa (Qan w)), (7, .i n), (9, .i b), (11, .i (Qak b k)), (12, .i (b - Qak b k)), (13, .ad 0 0 0)], [.cells 0 [.i (c.spring.low + i), .i c.spring.high, .sl 3 (c.bents.map eBent), .i c.wrong, .i c.limit, .i c.tire]]⟩) ?_ ?_ ?_
       ·simp only [Xd, X8, Qhm, Qam, Qaa, Qba, Qab, Qal, Qbq, Qac, Qaw, Qaf, Qa7, Qcx, Qdx, Qd3, Qd2, Qee, Qec, Qef, Qeb, Qdi, Qeo, Qdd, Qde, Qdw, Qdq, Qdy, Qed, noGo, Qcs, ↓Qbl, ↓Qcr, rnQ, rndQ, updL, Qfe, yres, Qff, ghO, Qek, ocV, effO, nidQ, plO, plQ, plB, Qet, Qcc, Qej, Qei, Qb3, optL, upTo, rids, Qcg, Qdz, Qdk, Qe6, Zz, Z6, Qcm, Qcv, Qc8, shV, shL, shB, Qaj, Qc9, swH, sw, renV, renL, renB, cutH, putB, lkpV, keyL, entV, Qfz, keyV, Qbh, endO, endK, endI, Qag, Qaq, Qa6, Qa1, Qep, Fam.step, Qah, Qbn, Qbm, Qat, Qbc, ug, runX, Qh6, eff, Qb2, fpR, fpQ, fpV, Qbp, hits, putB, nv, sv, Qce, evO, opv, qv, Qar, Qcq, Qcp, binV, ldV, iadV, lenV, curG, slcV, slxV, Qeu, Qb1, Qao, putAt, Qb0, Qb9, V.cells, Qax, Qb5, Qbo, Qa9, Qa5, flat, Qcf, kp, cutV, cutL, cutB, Qa2, Qau, Qa0, Qa3, ↓reduceIte, Nat.reduceEqDiff, Nat.reduceAdd, Nat.reduceSub, Nat.reduceMul, Nat.reduceLT, Nat.reduceLeDiff, Nat.reduceBEq, Int.reduceNeg, Int.reduceToNat, Zs, Zx, Int.reduceLT, Int.reduceLE, Int.reduceAdd, Int.reduceSub, Int.reduceMul, Int.reduceEq, Qc, Qd, Qy, Qw, Qe, Qf, Qh, Qr, Zl, Qg, Q9, Qz, Qm, Z7, Qx, Qu, Qi, Qj, Qq, Qv, Qp, Q8, Q0, Zb, Xf, Qs, Q6, Zq, Zr, Zd, Zo, endQ, rvs, rv1, resV, vw_i, vw_b, vw_u, Qhw, vw_z, Qb8, Qfo, Qb4, Qc5, Qeh, Qg5, Qel, zipA, Z1, Q4, beq_self_eq_true, Qk, Z8, Xi.injEq, V.i.injEq, V.b.injEq, Qt, Q1, Zy, Ze, Zu, Qo, Zw, Xe, Z9, Zi, Zm, Qb, Zf, decide_true, decide_false, decide_eq_true_eq, decide_eq_false_iff_not, true_and, and_true, and_self, false_and, and_false, forall_const, false_implies, true_implies, implies_true, reduceCtorEq, ite_true, ite_false, not_true_eq_false, not_false_eq_true, ne_eq, Q7, Z0, Z2, Zv, Zk, Za, beq_true, beq_false, Xg, Zj, Q5, Qdg, Qe5, Zc, Zg, Z3, imp_self, Ql, Q3, Qa, Q2, Zp, Zn, Classical.not_not, Zh, Qhr, Qan, eBent, Qa8, Qd0, eBox, Qbd, eI, eIs, Qh4, Qh3]
       ·intro i hi
        have a1 := e1.1 i hi
        have a2 := tlo i (by omega)
        have a3 : inI (c.spring.low + (i : Int) + 1) := by unfold inI; omega
        simp only [Qo4, t1, a2, a1, a3, Xa, Xb, Xw, Qhm, Qam, Qaa, Qba, Qab, Qal, Qbq, Qac, Qaw, Qaf, Qa7, Qcx, Qdx, Qd3, Qd2, Qee, Qec, Qef, Qeb, Qdi, Qeo, Qdd, Qde, Qdw, Qdq, Qdy, Qed, noGo, Qcs, ↓Qbl, ↓Qcr, rnQ, rndQ, updL, Qfe, yres, Qff, ghO, Qek, ocV, effO, nidQ, plO, plQ, plB, Qet, Qcc, Qej, Qei, Qb3, optL, upTo, rids, Qcg, Qdz, Qdk, Qe6, Zz, Z6, Qcm, Qcv, Qc8, shV, shL, shB, Qaj, Qc9, swH, sw, renV, renL, renB, cutH, putB, lkpV, keyL, entV, Qfz, keyV, Qbh, endO, endK, endI, Qag, Qaq, Qa6, Qa1, Qep, Fam.step, Qah, Qbn, Qbm, Qat, Qbc, ug, runX, Qh6, eff, Qb2, fpR, fpQ, fpV, Qbp, hits, putB, nv, sv, Qce, evO, opv, qv, Qar, Qcq, Qcp, binV, ldV, iadV, lenV, curG, slcV, slxV, Qeu, Qb1, Qao, putAt, Qb0, Qb9, V.cells, Qax, Qb5, Qbo, Qa9, Qa5, flat, Qcf, kp, cutV, cutL, cutB, Qa2, Qau, Qa0, Qa3, ↓reduceIte, Nat.reduceEqDiff, Nat.reduceAdd, Nat.reduceSub, Nat.reduceMul, Nat.reduceLT, Nat.reduceLeDiff, Nat.reduceBEq, Int.reduceNeg, Int.reduceToNat, Zs, Zx, Int.reduceLT, Int.reduceLE, Int.reduceAdd, Int.reduceSub, Int.reduceMul, Int.reduceEq, Qc, Qd, Qy, Qw, Qe, Qf, Qh, Qr, Zl, Qg, Q9, Qz, Qm, Z7, Qx, Qu, Qi, Qj, Qq, Qv, Qp, Q8, Q0, Zb, Xf, Qs, Q6, Zq, Zr, Zd, Zo, endQ, rvs, rv1, resV, vw_i, vw_b, vw_u, Qhw, vw_z, Qb8, Qfo, Qb4, Qc5, Qeh, Qg5, Qel, zipA, Z1, Q4, beq_self_eq_true, Qk, Z8, Xi.injEq, V.i.injEq, V.b.injEq, Qt, Q1, Zy, Ze, Zu, Qo, Zw, Xe, Z9, Zi, Zm, Qb, Zf, decide_true, decide_false, decide_eq_true_eq, decide_eq_false_iff_not, true_and, and_true, and_self, false_and, and_false, forall_const, false_implies, true_implies, implies_true, reduceCtorEq, ite_true, ite_false, not_true_eq_false, not_false_eq_true, ne_eq, Q7, Z0, Z2, Zv, Zk, Za, beq_true, beq_false, Xg, Zj, Q5, Qdg, Qe5, Zc, Zg, Z3, imp_self, Ql, Q3, Qa, Q2, Zp, Zn, Classical.not_not, Zh, Qhr, Qan, eBent, Qa8, Qd0, eBox, Qbd, eI, eIs, Qh4, Qh3]
        rw [← Xw]; exact a3
       ·have a1 := e1.2.1
        have a2 := tlo N (Xq _)
        simp only [Qo4, t1, a2, a1, Qhm, Qam, Qaa, Qba, Qab, Qal, Qbq, Qac, Qaw, Qaf, Qa7, Qcx, Qdx, Qd3, Qd2, Qee, Qec, Qef, Qeb, Qdi, Qeo, Qdd, Qde, Qdw, Qdq, Qdy, Qed, noGo, Qcs, ↓Qbl, ↓Qcr, rnQ, rndQ, updL, Qfe, yres, Qff, ghO, Qek, ocV, effO, nidQ, plO, plQ, plB, Qet, Qcc, Qej, Qei, Qb3, optL, upTo, rids, Qcg, Qdz, Qdk, Qe6, Zz, Z6, Qcm, Qcv, Qc8, shV, shL, shB, Qaj, Qc9, swH, sw, renV, renL, renB, cutH, putB, lkpV, keyL, entV, Qfz, keyV, Qbh, endO, endK, endI, Qag, Qaq, Qa6, Qa1, Qep, Fam.step, Qah, Qbn, Qbm, Qat, Qbc, ug, runX, Qh6, eff, Qb2, fpR, fpQ, fpV, Qbp, hits, putB, nv, sv, Qce, evO, opv, qv, Qar, Qcq, Qcp, binV, ldV, iadV, lenV, curG, slcV, slxV, Qeu, Qb1, Qao, putAt, Qb0, Qb9, V.cells, Qax, Qb5, Qbo, Qa9, Qa5, flat, Qcf, kp, cutV, cutL, cutB, Qa2, Qau, Qa0, Qa3, ↓reduceIte, Nat.reduceEqDiff, Nat.reduceAdd, Nat.reduceSub, Nat.reduceMul, Nat.reduceLT, Nat.reduceLeDiff, Nat.reduceBEq, Int.reduceNeg, Int.reduceToNat, Zs, Zx, Int.reduceLT, Int.reduceLE, Int.reduceAdd, Int.reduceSub, Int.reduceMul, Int.reduceEq, Qc, Qd, Qy, Qw, Qe, Qf, Qh, Qr, Zl, Qg, Q9, Qz, Qm, Z7, Qx, Qu, Qi, Qj, Qq, Qv, Qp, Q8, Q0, Zb, Xf, Qs, Q6, Zq, Zr, Zd, Zo, endQ, rvs, rv1, resV, vw_i, vw_b, vw_u, Qhw, vw_z, Qb8, Qfo, Qb4, Qc5, Qeh, Qg5, Qel, zipA, Z1, Q4, beq_self_eq_true, Qk, Z8, Xi.injEq, V.i.injEq, V.b.injEq, Qt, Q1, Zy, Ze, Zu, Qo, Zw, Xe, Z9, Zi, Zm, Qb, Zf, decide_true, decide_false, decide_eq_true_eq, decide_eq_false_iff_not, true_and, and_true, and_self, false_and, and_false, forall_const, false_implies, true_implies, implies_true, reduceCtorEq, ite_true, ite_false, not_true_eq_false, not_false_eq_true, ne_eq, Q7, Z0, Z2, Zv, Zk, Za, beq_true, beq_false, Xg, Zj, Q5, Qdg, Qe5, Zc, Zg, Z3, imp_self, Ql, Q3, Qa, Q2, Zp, Zn, Classical.not_not, Zh, Qhr, Qan, eBent, Qa8, Qd0, eBox, Qbd, eI, eIs, Qh4, Qh3]
        refine Qcb M (fun i => ⟨lkp [(3, .pa (Qa8 c)), (5, .pa (Qan w)), (7, .i n), (9, .i b), (11, .i (Qak b k)), (12, .i (b - Qak b k)), (13, .ad 0 0 0)], [.cells 0 [.i (c.spring.low + N), .i (c.spring.high - i), .sl 3 (c.bents.map eBent), .i c.wrong, .i c.limit, .i c.tire]]⟩) ?_ ?_ ?_
        ·simp only [Xd, Int.sub_zero, Qhm, Qam, Qaa, Qba, Qab, Qal, Qbq, Qac, Qaw, Qaf, Qa7, Qcx, Qdx, Qd3, Qd2, Qee, Qec, Qef, Qeb, Qdi, Qeo, Qdd, Qde, Qdw, Qdq, Qdy, Qed, noGo, Qcs, ↓Qbl, ↓Qcr, rnQ, rndQ, updL, Qfe, yres, Qff, ghO, Qek, ocV, effO, nidQ, plO, plQ, plB, Qet, Qcc, Qej, Qei, Qb3, optL, upTo, rids, Qcg, Qdz, Qdk, Qe6, Zz, Z6, Qcm, Qcv, Qc8, shV, shL, shB, Qaj, Qc9, swH, sw, renV, renL, renB, cutH, putB, lkpV, keyL, entV, Qfz, keyV, Qbh, endO, endK, endI, Qag, Qaq, Qa6, Qa1, Qep, Fam.step, Qah, Qbn, Qbm, Qat, Qbc, ug, runX, Qh6, eff, Qb2, fpR, fpQ, fpV, Qbp, hits, putB, nv, sv, Qce, evO, opv, qv, Qar, Qcq, Qcp, binV, ldV, iadV, lenV, curG, slcV, slxV, Qeu, Qb1, Qao, putAt, Qb0, Qb9, V.cells, Qax, Qb5, Qbo, Qa9, Qa5, flat, Qcf, kp, cutV, cutL, cutB, Qa2, Qau, Qa0, Qa3, ↓reduceIte, Nat.reduceEqDiff, Nat.reduceAdd, Nat.reduceSub, Nat.reduceMul, Nat.reduceLT, Nat.reduceLeDiff, Nat.reduceBEq, Int.reduceNeg, Int.reduceToNat, Zs, Zx, Int.reduceLT, Int.reduceLE, Int.reduceAdd, Int.reduceSub, Int.reduceMul, Int.reduceEq, Qc, Qd, Qy, Qw, Qe, Qf, Qh, Qr, Zl, Qg, Q9, Qz, Qm, Z7, Qx, Qu, Qi, Qj, Qq, Qv, Qp, Q8, Q0, Zb, Xf, Qs, Q6, Zq, Zr, Zd, Zo, endQ, rvs, rv1, resV, vw_i, vw_b, vw_u, Qhw, vw_z, Qb8, Qfo, Qb4, Qc5, Qeh, Qg5, Qel, zipA, Z1, Q4, beq_self_eq_true, Qk, Z8, Xi.injEq, V.i.injEq, V.b.injEq, Qt, Q1, Zy, Ze, Zu, Qo, Zw, Xe, Z9, Zi, Zm, Qb, Zf, decide_true, decide_false, decide_eq_true_eq, decide_eq_false_iff_not, true_and, and_true, and_self, false_and, and_false, forall_const, false_implies, true_implies, implies_true, reduceCtorEq, ite_true, ite_false, not_true_eq_false, not_false_eq_true, ne_eq, Q7, Z0, Z2, Zv, Zk, Za, beq_true, beq_false, Xg, Zj, Q5, Qdg, Qe5, Zc, Zg, Z3, imp_self, Ql, Q3, Qa, Q2, Zp, Zn, Classical.not_not, Zh, Qhr, Qan, eBent, Qa8, Qd0, eBox, Qbd, eI, eIs, Qh4, Qh3]
        ·intro i hi
         have b1 := e2.1 i hi
         have b2 := thi i (by omega)
         have b3 : inI (c.spring.high - (i : Int) - 1) := by unfold inI; omega
         simp only [Qo4, t1, b2, b1, b3, Xa, Xb, Qhm, Qam, Qaa, Qba, Qab, Qal, Qbq, Qac, Qaw, Qaf, Qa7, Qcx, Qdx, Qd3, Qd2, Qee, Qec, Qef, Qeb, Qdi, Qeo, Qdd, Qde, Qdw, Qdq, Qdy, Qed, noGo, Qcs, ↓Qbl, ↓Qcr, rnQ, rndQ, updL, Qfe, yres, Qff, ghO, Qek, ocV, effO, nidQ, plO, plQ, plB, Qet, Qcc, Qej, Qei, Qb3, optL, upTo, rids, Qcg, Qdz, Qdk, Qe6, Zz, Z6, Qcm, Qcv, Qc8, shV, shL, shB, Qaj, Qc9, swH, sw, renV, renL, renB, cutH, putB, lkpV, keyL, entV, Qfz, keyV, Qbh, endO, endK, endI, Qag, Qaq, Qa6, Qa1, Qep, Fam.step, Qah, Qbn, Qbm, Qat, Qbc, ug, runX, Qh6, eff, Qb2, fpR, fpQ, fpV, Qbp, hits, putB, nv, sv, Qce, evO, opv, qv, Qar, Qcq, Qcp, binV, ldV, iadV, lenV, curG, slcV, slxV, Qeu, Qb1, Qao, putAt, Qb0, Qb9, V.cells, Qax, Qb5, Qbo, Qa9, Qa5, flat, Qcf, kp, cutV, cutL, cutB, Qa2, Qau, Qa0, Qa3, ↓reduceIte, Nat.reduceEqDiff, Nat.reduceAdd, Nat.reduceSub, Nat.reduceMul, Nat.reduceLT, Nat.reduceLeDiff, Nat.reduceBEq, Int.reduceNeg, Int.reduceToNat, Zs, Zx, Int.reduceLT, Int.reduceLE, Int.reduceAdd, Int.reduceSub, Int.reduceMul, Int.reduceEq, Qc, Qd, Qy, Qw, Qe, Qf, Qh, Qr, Zl, Qg, Q9, Qz, Qm, Z7, Qx, Qu, Qi, Qj, Qq, Qv, Qp, Q8, Q0, Zb, Xf, Qs, Q6, Zq, Zr, Zd, Zo, endQ, rvs, rv1, resV, vw_i, vw_b, vw_u, Qhw, vw_z, Qb8, Qfo, Qb4, Qc5, Qeh, Qg5, Qel, zipA, Z1, Q4, beq_self_eq_true, Qk, Z8, Xi.injEq, V.i.injEq, V.b.injEq, Qt, Q1, Zy, Ze, Zu, Qo, Zw, Xe, Z9, Zi, Zm, Qb, Zf, decide_true, decide_false, decide_eq_true_eq, decide_eq_false_iff_not, true_and, and_true, and_self, false_and, and_false, forall_const, false_implies, true_implies, implies_true, reduceCtorEq, ite_true, ite_false, not_true_eq_false, not_false_eq_true, ne_eq, Q7, Z0, Z2, Zv, Zk, Za, beq_true, beq_false, Xg, Zj, Q5, Qdg, Qe5, Zc, Zg, Z3, imp_self, Ql, Q3, Qa, Q2, Zp, Zn, Classical.not_not, Zh, Qhr, Qan, eBent, Qa8, Qd0, eBox, Qbd, eI, eIs, Qh4, Qh3]
         rw [show c.spring.high - (i : Int) - 1 = c.spring.high - ((i : Int) + 1) by omega]
        ·have b1 := e2.2.1
         have b2 := thi M (Xq _)
         have g9 := Qws (Qgy c N M)
         have g10 := Qv6 (Qgy c N M) r
         rw [Qf6.2 hO] at g9
         rw [r3] at g10
         obtain ⟨m, hm⟩ : ∃ m, m = (Qca (Qgy c N M) r).1 := ⟨_, rfl⟩
         rw [← hm] at g10 r4
         rw [r2] at g10
         unfold Qgy Qa8 at g9 g10
         unfold Qan at g10
         have c1 : inI (c.limit - c.tire) := by unfold inI; omega
         have c2 : m < n := by omega
         have hwS : (0 ≤ w.low ∧ w.low ≤ w.high) ∧ w.high ≤ 540 := by simpa [Qb7, Qai] using hw
         have c3 : inI (w.low - (b - Qak b k)) ∧ inI (w.high - (b - Qak b k)) := by unfold inI; omega
         have c4 : ¬ w.high - (b - Qak b k) < 0 := by omega
         simp only [Qo4, t1, b2, b1, g9, g10, c1, c2, c3, c4, Qla, Qhm, Qam, Qaa, Qba, Qab, Qal, Qbq, Qac, Qaw, Qaf, Qa7, Qcx, Qdx, Qd3, Qd2, Qee, Qec, Qef, Qeb, Qdi, Qeo, Qdd, Qde, Qdw, Qdq, Qdy, Qed, noGo, Qcs, ↓Qbl, ↓Qcr, rnQ, rndQ, updL, Qfe, yres, Qff, ghO, Qek, ocV, effO, nidQ, plO, plQ, plB, Qet, Qcc, Qej, Qei, Qb3, optL, upTo, rids, Qcg, Qdz, Qdk, Qe6, Zz, Z6, Qcm, Qcv, Qc8, shV, shL, shB, Qaj, Qc9, swH, sw, renV, renL, renB, cutH, putB, lkpV, keyL, entV, Qfz, keyV, Qbh, endO, endK, endI, Qag, Qaq, Qa6, Qa1, Qep, Fam.step, Qah, Qbn, Qbm, Qat, Qbc, ug, runX, Qh6, eff, Qb2, fpR, fpQ, fpV, Qbp, hits, putB, nv, sv, Qce, evO, opv, qv, Qar, Qcq, Qcp, binV, ldV, iadV, lenV, curG, slcV, slxV, Qeu, Qb1, Qao, putAt, Qb0, Qb9, V.cells, Qax, Qb5, Qbo, Qa9, Qa5, flat, Qcf, kp, cutV, cutL, cutB, Qa2, Qau, Qa0, Qa3, ↓reduceIte, Nat.reduceEqDiff, Nat.reduceAdd, Nat.reduceSub, Nat.reduceMul, Nat.reduceLT, Nat.reduceLeDiff, Nat.reduceBEq, Int.reduceNeg, Int.reduceToNat, Zs, Zx, Int.reduceLT, Int.reduceLE, Int.reduceAdd, Int.reduceSub, Int.reduceMul, Int.reduceEq, Qc, Qd, Qy, Qw, Qe, Qf, Qh, Qr, Zl, Qg, Q9, Qz, Qm, Z7, Qx, Qu, Qi, Qj, Qq, Qv, Qp, Q8, Q0, Zb, Xf, Qs, Q6, Zq, Zr, Zd, Zo, endQ, rvs, rv1, resV, vw_i, vw_b, vw_u, Qhw, vw_z, Qb8, Qfo, Qb4, Qc5, Qeh, Qg5, Qel, zipA, Z1, Q4, beq_self_eq_true, Qk, Z8, Xi.injEq, V.i.injEq, V.b.injEq, Qt, Q1, Zy, Ze, Zu, Qo, Zw, Xe, Z9, Zi, Zm, Qb, Zf, decide_true, decide_false, decide_eq_true_eq, decide_eq_false_iff_not, true_and, and_true, and_self, false_and, and_false, forall_const, false_implies, true_implies, implies_true, reduceCtorEq, ite_true, ite_false, not_true_eq_false, not_false_eq_true, ne_eq, Q7, Z0, Z2, Zv, Zk, Za, beq_true, beq_false, Xg, Zj, Q5, Qdg, Qe5, Zc, Zg, Z3, imp_self, Ql, Q3, Qa, Q2, Zp, Zn, Classical.not_not, Zh, Qhr, Qan, eBent, Qa8, Qd0, eBox, Qbd, eI, eIs, Qh4, Qh3]
   ·simp only [rc7, rs7, g1, g2, g3, hr, hw, hk, hC, Qla, Qhm, Qam, Qaa, Qba, Qab, Qal, Qbq, Qac, Qaw, Qaf, Qa7, Qcx, Qdx, Qd3, Qd2, Qee, Qec, Qef, Qeb, Qdi, Qeo, Qdd, Qde, Qdw, Qdq, Qdy, Qed, noGo, Qcs, ↓Qbl, ↓Qcr, rnQ, rndQ, updL, Qfe, yres, Qff, ghO, Qek, ocV, effO, nidQ, plO, plQ, plB, Qet, Qcc, Qej, Qei, Qb3, optL, upTo, rids, Qcg, Qdz, Qdk, Qe6, Zz, Z6, Qcm, Qcv, Qc8, shV, shL, shB, Qaj, Qc9, swH, sw, renV, renL, renB, cutH, putB, lkpV, keyL, entV, Qfz, keyV, Qbh, endO, endK, endI, Qag, Qaq, Qa6, Qa1, Qep, Fam.step, Qah, Qbn, Qbm, Qat, Qbc, ug, runX, Qh6, eff, Qb2, fpR, fpQ, fpV, Qbp, hits, putB, nv, sv, Qce, evO, opv, qv, Qar, Qcq, Qcp, binV, ldV, iadV, lenV, curG, slcV, slxV, Qeu, Qb1, Qao, putAt, Qb0, Qb9, V.cells, Qax, Qb5, Qbo, Qa9, Qa5, flat, Qcf, kp, cutV, cutL, cutB, Qa2, Qau, Qa0, Qa3, ↓reduceIte, Nat.reduceEqDiff, Nat.reduceAdd, Nat.reduceSub, Nat.reduceMul, Nat.reduceLT, Nat.reduceLeDiff, Nat.reduceBEq, Int.reduceNeg, Int.reduceToNat, Zs, Zx, Int.reduceLT, Int.reduceLE, Int.reduceAdd, Int.reduceSub, Int.reduceMul, Int.reduceEq, Qc, Qd, Qy, Qw, Qe, Qf, Qh, Qr, Zl, Qg, Q9, Qz, Qm, Z7, Qx, Qu, Qi, Qj, Qq, Qv, Qp, Q8, Q0, Zb, Xf, Qs, Q6, Zq, Zr, Zd, Zo, endQ, rvs, rv1, resV, vw_i, vw_b, vw_u, Qhw, vw_z, Qb8, Qfo, Qb4, Qc5, Qeh, Qg5, Qel, zipA, Z1, Q4, beq_self_eq_true, Qk, Z8, Xi.injEq, V.i.injEq, V.b.injEq, Qt, Q1, Zy, Ze, Zu, Qo, Zw, Xe, Z9, Zi, Zm, Qb, Zf, decide_true, decide_false, decide_eq_true_eq, decide_eq_false_iff_not, true_and, and_true, and_self, false_and, and_false, forall_const, false_implies, true_implies, implies_true, reduceCtorEq, ite_true, ite_false, not_true_eq_false, not_false_eq_true, ne_eq, Q7, Z0, Z2, Zv, Zk, Za, beq_true, beq_false, Xg, Zj, Q5, Qdg, Qe5, Zc, Zg, Z3, imp_self, Ql, Q3, Qa, Q2, Zp, Zn, Classical.not_not, Zh, Qhr, Qan, eBent, Qa8, Qd0, eBox, Qbd, eI, eIs, Qh4, Qh3]
  ·simp only [rc7, rs7, g1, g2, hr, hw, Qla, Qhm, Qam, Qaa, Qba, Qab, Qal, Qbq, Qac, Qaw, Qaf, Qa7, Qcx, Qdx, Qd3, Qd2, Qee, Qec, Qef, Qeb, Qdi, Qeo, Qdd, Qde, Qdw, Qdq, Qdy, Qed, noGo, Qcs, ↓Qbl, ↓Qcr, rnQ, rndQ, updL, Qfe, yres, Qff, ghO, Qek, ocV, effO, nidQ, plO, plQ, plB, Qet, Qcc, Qej, Qei, Qb3, optL, upTo, rids, Qcg, Qdz, Qdk, Qe6, Zz, Z6, Qcm, Qcv, Qc8, shV, shL, shB, Qaj, Qc9, swH, sw, renV, renL, renB, cutH, putB, lkpV, keyL, entV, Qfz, keyV, Qbh, endO, endK, endI, Qag, Qaq, Qa6, Qa1, Qep, Fam.step, Qah, Qbn, Qbm, Qat, Qbc, ug, runX, Qh6, eff, Qb2, fpR, fpQ, fpV, Qbp, hits, putB, nv, sv, Qce, evO, opv, qv, Qar, Qcq, Qcp, binV, ldV, iadV, lenV, curG, slcV, slxV, Qeu, Qb1, Qao, putAt, Qb0, Qb9, V.cells, Qax, Qb5, Qbo, Qa9, Qa5, flat, Qcf, kp, cutV, cutL, cutB, Qa2, Qau, Qa0, Qa3, ↓reduceIte, Nat.reduceEqDiff, Nat.reduceAdd, Nat.reduceSub, Nat.reduceMul, Nat.reduceLT, Nat.reduceLeDiff, Nat.reduceBEq, Int.reduceNeg, Int.reduceToNat, Zs, Zx, Int.reduceLT, Int.reduceLE, Int.reduceAdd, Int.reduceSub, Int.reduceMul, Int.reduceEq, Qc, Qd, Qy, Qw, Qe, Qf, Qh, Qr, Zl, Qg, Q9, Qz, Qm, Z7, Qx, Qu, Qi, Qj, Qq, Qv, Qp, Q8, Q0, Zb, Xf, Qs, Q6, Zq, Zr, Zd, Zo, endQ, rvs, rv1, resV, vw_i, vw_b, vw_u, Qhw, vw_z, Qb8, Qfo, Qb4, Qc5, Qeh, Qg5, Qel, zipA, Z1, Q4, beq_self_eq_true, Qk, Z8, Xi.injEq, V.i.injEq, V.b.injEq, Qt, Q1, Zy, Ze, Zu, Qo, Zw, Xe, Z9, Zi, Zm, Qb, Zf, decide_true, decide_false, decide_eq_true_eq, decide_eq_false_iff_not, true_and, and_true, and_self, false_and, and_false, forall_const, false_implies, true_implies, implies_true, reduceCtorEq, ite_true, ite_false, not_true_eq_false, not_false_eq_true, ne_eq, Q7, Z0, Z2, Zv, Zk, Za, beq_true, beq_false, Xg, Zj, Q5, Qdg, Qe5, Zc, Zg, Z3, imp_self, Ql, Q3, Qa, Q2, Zp, Zn, Classical.not_not, Zh, Qhr, Qan, eBent, Qa8, Qd0, eBox, Qbd, eI, eIs, Qh4, Qh3]
 ·simp only [rc7, rs7, g1, hr, Qla, Qhm, Qam, Qaa, Qba, Qab, Qal, Qbq, Qac, Qaw, Qaf, Qa7, Qcx, Qdx, Qd3, Qd2, Qee, Qec, Qef, Qeb, Qdi, Qeo, Qdd, Qde, Qdw, Qdq, Qdy, Qed, noGo, Qcs, ↓Qbl, ↓Qcr, rnQ, rndQ, updL, Qfe, yres, Qff, ghO, Qek, ocV, effO, nidQ, plO, plQ, plB, Qet, Qcc, Qej, Qei, Qb3, optL, upTo, rids, Qcg, Qdz, Qdk, Qe6, Zz, Z6, Qcm, Qcv, Qc8, shV, shL, shB, Qaj, Qc9, swH, sw, renV, renL, renB, cutH, putB, lkpV, keyL, entV, Qfz, keyV, Qbh, endO, endK, endI, Qag, Qaq, Qa6, Qa1, Qep, Fam.step, Qah, Qbn, Qbm, Qat, Qbc, ug, runX, Qh6, eff, Qb2, fpR, fpQ, fpV, Qbp, hits, putB, nv, sv, Qce, evO, opv, qv, Qar, Qcq, Qcp, binV, ldV, iadV, lenV, curG, slcV, slxV, Qeu, Qb1, Qao, putAt, Qb0, Qb9, V.cells, Qax, Qb5, Qbo, Qa9, Qa5, flat, Qcf, kp, cutV, cutL, cutB, Qa2, Qau, Qa0, Qa3, ↓reduceIte, Nat.reduceEqDiff, Nat.reduceAdd, Nat.reduceSub, Nat.reduceMul, Nat.reduceLT, Nat.reduceLeDiff, Nat.reduceBEq, Int.reduceNeg, Int.reduceToNat, Zs, Zx, Int.reduceLT, Int.reduceLE, Int.reduceAdd, Int.reduceSub, Int.reduceMul, Int.reduceEq, Qc, Qd, Qy, Qw, Qe, Qf, Qh, Qr, Zl, Qg, Q9, Qz, Qm, Z7, Qx, Qu, Qi, Qj, Qq, Qv, Qp, Q8, Q0, Zb, Xf, Qs, Q6, Zq, Zr, Zd, Zo, endQ, rvs, rv1, resV, vw_i, vw_b, vw_u, Qhw, vw_z, Qb8, Qfo, Qb4, Qc5, Qeh, Qg5, Qel, zipA, Z1, Q4, beq_self_eq_true, Qk, Z8, Xi.injEq, V.i.injEq, V.b.injEq, Qt, Q1, Zy, Ze, Zu, Qo, Zw, Xe, Z9, Zi, Zm, Qb, Zf, decide_true, decide_false, decide_eq_true_eq, decide_eq_false_iff_not, true_and, and_true, and_self, false_and, and_false, forall_const, false_implies, true_implies, implies_true, reduceCtorEq, ite_true, ite_false, not_true_eq_false, not_false_eq_true, ne_eq, Q7, Z0, Z2, Zv, Zk, Za, beq_true, beq_false, Xg, Zj, Q5, Qdg, Qe5, Zc, Zg, Z3, imp_self, Ql, Q3, Qa, Q2, Zp, Zn, Classical.not_not, Zh, Qhr, Qan, eBent, Qa8, Qd0, eBox, Qbd, eI, eIs, Qh4, Qh3]
end Go.C06
