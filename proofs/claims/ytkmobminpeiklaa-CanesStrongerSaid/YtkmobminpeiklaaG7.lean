import Derived.Test.YtkmobminpeiklaaG6
import Derived.Test.YtkmobminpeiklaaG3
import Derived.Test.YtkmobminpeiklaaChecked
set_option linter.all false
open List renaming take_succ_cons → Qb, length_cons → Qc, map_cons → Qd, length_nil → Qe, drop_succ_cons → Qf, map_nil → Qg, append_nil → Qh, getElem?_cons_zero → Qk, headD_cons → Qm, getElem?_cons_succ → Qn, take_nil → Qo, drop_zero → Qp, all_cons → Qq, getD_eq_getElem?_getD → Qr, all_nil → Qs, nil_append → Qy, getElem?_eq_getElem → Qz, set_cons_zero → Q0, length_map → Q1, take_zero → Q2, cons_append → Q3, drop_nil → Q5, set_cons_succ → Q7, replicate_zero → Q8, getElem?_nil → Za, any_eq_true → Zb, getElem?_map → Zc, mem_of_getElem? → Zd, contains_nil → Zo, isEmpty_nil → Zp, replicate_succ → Zq, pairwise_iff_getElem → Zr, length_pos_iff → Zs, all_eq_true → Zu, range → Zw, any_nil → Zx, ne_nil_of_mem → Zy, mem_filter → Zz, countP_eq_length → Z0, getElem?_eq_some_iff → Z1, contains_cons → Z2, find?_eq_some_iff_getElem → Z3, flatten_nil → Z4, eq_nil_of_length_eq_zero → Z5, find?_eq_none → Z6, exists_mem_of_ne_nil → Z7, mem_of_find?_eq_some → Z8, take_of_length_le → Xd, getElem?_eq_none → Xf, mem_iff_getElem → Xh, getElem?_of_mem → Xk, sum_cons → Xl, getElem_range → Xn, flatten_cons → Xq, isEmpty_cons → Xs, mem_range'_1 → Xu, getElem_mem → Xv, length_take → Xw, find?_some → X0
open Nat renaming zero_add → Qi, le_refl → Zv, mul_one → Z9, le_of_not_lt → Xb, add_zero → Xt, zero_le → Xx
open Bool renaming false_eq_true → Qa, or_false → Qj, and_self → Ql, true_eq_false → Qt, and_true → Qu, not_true → Qw, not_false → Qx, and_false → Q6, false_and → Q9, and_eq_true → Zh, xor_self → Zj, not_eq_true' → Zn, decide_eq_true → Zt, false_or → Xa, not_eq_true → Xc, or_true → Xe, and_eq_false_iff → Xg, or_eq_false_iff → Xj, true_and → Xm, not_eq_false' → Xo, not_eq_false → Xr, or_eq_true → Xy, eq_iff_iff → Xz
open Option renaming getD_some → Qv, map_some → Q4, getD_none → Zm
open Int renaming toNat_natCast → Ze, le_refl → Zf, natCast_nonneg → Zg, natCast_zero → Zi, natCast_add → Zk, natCast_one → Zl, toNat_zero → Xi, add_zero → Xp
set_option linter.unusedSimpArgs false
set_option linter.unusedVariables false
namespace Go.C06
open Go.Fam Go.Proofs
theorem Qma (a b : Int) : (ints a b).Pairwise (· < ·) := by
 rw [Zr]
 intro i j hi hj hij
 rw [Qfd] at hi hj
 have h1 := Qgc (lo := a) (hi := b) (k := i) hi
 have h2 := Qgc (lo := a) (hi := b) (k := j) hj
 rw [Z1] at h1 h2
 obtain ⟨_, h1⟩ := h1
 obtain ⟨_, h2⟩ := h2
 rw [h1, h2]; omega
theorem Qdc (c : Cane) : (Qa4 c).Pairwise (· < ·) := (Qma _ _).sublist List.filter_sublist
theorem Qir {l : List Int} (h : l.Pairwise (· < ·)) {k : Int} (hk : k ∈ l) : l.getD 0 0 ≤ k ∧ k ≤ l.getD (l.length - 1) 0 := by
 obtain ⟨i, hi, rfl⟩ := Xh.1 hk
 rw [Zr] at h
 simp only [Qr]
 rw [Qz (show 0 < l.length by omega), Qz (show l.length - 1 < l.length by omega)]
 simp only [Qv]
 constructor
 ·by_cases e : i = 0
  ·subst e; exact Zf _
  ·have := h 0 i (by omega) hi (by omega); omega
 ·by_cases e : i = l.length - 1
  ·subst e; exact Zf _
  ·have := h i (l.length - 1) hi (by omega) (by omega); omega
theorem Qji {c : Cane} {k : Int} (hk : k ∈ Qa4 c) : trF c ≤ k ∧ k ≤ trL c := Qir (Qdc c) hk
theorem Qdd {k k' : Int} (hk : 0 ≤ k) (h : k ≤ k') : ∀ {l : List Int}, (∀ n ∈ l, 1 ≤ n ∧ n ≤ 90) → Qaq l k' ≤ Qaq l k := by
 intro l
 induction l with
 | nil => intro _; exact Zf _
 | cons n l ih =>
  intro hl
  have h1 := Qku (b := n) (by have := hl n (by simp); omega) hk h
  have h3 := ih fun m hm => hl m (by simp [hm])
  unfold Qaq at h3 ⊢
  simp only [Qd, Xl]
  omega
theorem Quk {c : Cane} (ht : Qa4 c ≠ []) : trF c ∈ Qa4 c := by
 unfold trF
 have := Zs.2 ht
 rw [Qr, Qz this]
 exact Xv _
theorem Qul {c : Cane} (ht : Qa4 c ≠ []) : trL c ∈ Qa4 c := by
 unfold trL
 have := Zs.2 ht
 rw [Qr, Qz (show (Qa4 c).length - 1 < (Qa4 c).length by omega)]
 exact Xv _
theorem Qhs {c : Cane} (hc : OkC c) (ht : Qa4 c ≠ []) {l : List Int} (hl : ∀ n ∈ l, 1 ≤ n ∧ n ≤ 90) (w : Span) :
  Qcb l w (Qa4 c) = (Qa4 c).length ↔ w.low ≤ Qaq l (trL c) ∧ Qaq l (trF c) ≤ w.high := by
 unfold Qcb
 rw [Z0]
 simp only [Qal, Zh, decide_eq_true_eq]
 constructor
 ·intro h
  exact ⟨(h _ (Qul ht)).1, (h _ (Quk ht)).2⟩
 ·intro h k hk
  have h1 := Qji hk
  have h2 := Qca hc hk
  have h3 := Qnl hc ht
  have h4 := Qdd (k := k) (k' := trL c) h2.1 h1.2 hl
  have h5 := Qdd (k := trF c) (k' := k) h3.1 h1.1 hl
  omega
def Qew (c : Cane) (ks : List Int) (w : Span) : Nat → List Int → Bool
 | 0, f => decide (Qcb f w ks = ks.length)
 | n + 1, f => (ints 1 (Qc2 c f.length)).any fun b => Qew c ks w n (f ++ [b])
theorem Qnv {c : Cane} (hc : OkC c) (ht : Qa4 c ≠ []) (w : Span) : ∀ (n : Nat) (f : List Int), Poss c f → (Qew c (Qa4 c) w n f = true ↔ ∃ m, m.length = n ∧ Sure c w (f ++ m)) := by
 intro n
 induction n with
 | zero =>
  intro f hf
  rw [Qew, decide_eq_true_eq, Qhs hc ht hf.in_]
  constructor
  ·intro h; exact ⟨[], rfl, by rw [Qh]; exact ⟨hf, h⟩⟩
  ·rintro ⟨m, hm, hs⟩
   rw [Z5 hm, Qh] at hs
   exact hs.2
 | succ n ih =>
  intro f hf
  rw [Qew, Zb]
  constructor
  ·rintro ⟨b, hb, h⟩
   rw [Qdb] at hb
   obtain ⟨m, hm, hs⟩ := (ih (f ++ [b]) (Qgi.2 ⟨hf, hb⟩)).1 h
   exact ⟨b :: m, by simp [hm], by simpa using hs⟩
  ·rintro ⟨m, hm, hs⟩
   cases m with
   | nil => simp at hm
   | cons b m =>
    have hp : Poss c (f ++ [b]) := by
     intro i hi
     have := hs.1 i (by simp at hi ⊢; omega)
     rw [show f ++ b :: m = (f ++ [b]) ++ m by simp, Qfv hi] at this
     exact this
    refine ⟨b, Qdb.2 (Qgi.1 hp).2, (ih _ hp).2 ⟨m, by simpa using hm, by simpa using hs⟩⟩
theorem Qrz (c : Cane) : Poss c [] := fun i hi => absurd hi (Nat.not_lt_zero _)
theorem Qrg {c : Cane} (hc : OkC c) (ht : Qa4 c ≠ []) (w : Span) : fewN c w = (Zw 7).find? fun n => Qew c (Qa4 c) w n [] := by
 have key : ∀ n, Qew c (Qa4 c) w n [] = true ↔ ∃ m, m.length = n ∧ Sure c w m := fun n => by simpa using Qnv hc ht w n [] (Qrz c)
 cases hf : (Zw 7).find? fun n => Qew c (Qa4 c) w n [] with
 | none =>
  rw [Qg6]
  intro l hl
  refine Nat.lt_of_not_le fun h6 => ?_
  rw [Z6] at hf
  exact hf l.length (by simp; omega) ((key _).2 ⟨l, rfl, hl⟩)
 | some n =>
  rw [Z3] at hf
  obtain ⟨h1, i, hi, he, hlt⟩ := hf
  simp only [List.length_range] at hi
  simp only [Xn] at he hlt
  subst he
  obtain ⟨m, hm, hs⟩ := (key _).1 h1
  refine Qdw.2 ⟨by omega, ⟨m, hs, hm⟩, fun l hl => Xb fun h6 => ?_⟩
  have := hlt l.length h6
  rw [(key _).2 ⟨l, rfl, hl⟩] at this
  cases this
def exC : Cane := ⟨⟨180, 220⟩, [⟨50, ⟨10, 10⟩⟩], 0, 40, 10⟩
def exS : Box := ⟨2, [⟨10, 5⟩, ⟨20, 3⟩, ⟨5, 4⟩]⟩
theorem Qw1 : OkC exC := (Qq6 _).1 (by decide +kernel)
theorem Qnw : Qa4 exC = (Zw 20).map fun (n : Nat) => (200 + n : Int) := by decide +kernel
theorem Qtl : fewR exC ⟨31, 31⟩ = (2, 0) := by
 unfold fewR
 rw [if_pos (by decide +kernel), Qrg Qw1 (by rw [Qnw]; decide)]
 have e : ((Zw 7).find? fun n => Qew exC (Qa4 exC) ⟨31, 31⟩ n []) = some 2 := by decide +kernel
 rw [e]; rfl
theorem Qmr : (Qbu exC ⟨31, 31⟩).1 = 2 ∧ (Qbu exC ⟨31, 31⟩).2.2 = 0 := by decide +kernel
theorem Qsm : stL exC ⟨0, 0⟩ [] = (Zw 20).map (fun (n : Nat) => (200 + n : Int)) ∧ stE exC ⟨0, 0⟩ [] = 0 := by decide +kernel
theorem Qp6 : Qbk exC [39] = (⟨31, 32⟩, 0) := by decide +kernel
theorem Qp7 : Qen exS = (27, 0) := by decide +kernel
end Go.C06
set_option linter.unusedSimpArgs false
set_option linter.unusedVariables false
namespace Go.C06
open Go.Fam Go.Proofs
variable {Γ : Gam}
theorem W57 : Qah Try.prog 57 [] (.ag (Qa8 exC)) := by
 refine Qag Qo9 hmix Try.func57 cb57 cc57 cs57 cn57 ?_
 simp only [rc57, rs57, Qaa, Qab, Qac, Qa7, Qg4, putB, Qad, Qa6, Qa1, Fam.step, Qaf, Qbf, Qaw, putB, nv, sv, evO, opv, qv, ldV, Qay, putAt, Qbc, Qbq, V.cells, Qap, Qb2, Qa9, Qa5, Qa2, Qau, Qa0, Qa3, ↓reduceIte, Nat.reduceEqDiff, Nat.reduceAdd, Nat.reduceMul, Nat.reduceLeDiff, Qd, Qg, Qq, Qs, Qc, Qe, Qf, Qp, Q5, Qb, Q2, Qo, Q3, Qy, Qh, Qk, Q0, Q8, Zq, endQ, rvs, rv1, resV, vw_i, Qav, Qas, zipA, Qi, Ql, Qj, true_and, and_self, reduceCtorEq, not_false_eq_true, ne_eq, Qa8]
 rfl
theorem W58 : Qah Try.prog 58 [] (.ag (eBox exS)) := by
 refine Qag Qo9 hmix Try.func58 cb58 cc58 cs58 cn58 ?_
 simp only [rc58, rs58, Qaa, Qab, Qac, Qa7, putB, Qad, Qa6, Qa1, Fam.step, Qaf, Qbf, Qaw, putB, nv, sv, evO, opv, qv, ldV, Qay, putAt, Qbc, Qbq, V.cells, Qap, Qb2, Qa9, Qa5, Qa2, Qau, Qa0, Qa3, ↓reduceIte, Nat.reduceEqDiff, Nat.reduceAdd, Nat.reduceMul, Nat.reduceLeDiff, Qd, Qg, Qq, Qs, Qc, Qe, Qf, Qp, Q5, Qb, Q2, Qo, Q3, Qy, Qh, Qk, Q0, Q8, Zq, endQ, rvs, rv1, resV, vw_i, Qav, Qas, zipA, Qi, Ql, Qj, true_and, and_self, reduceCtorEq, not_false_eq_true, ne_eq, eBox]
 rfl
def cst (v : V) : List V → Prop × V | [] => (True, v) | _ => (False, .u)
theorem Qov {f : Nat} {v : V} (h : Qah Try.prog f [] v) (vs : List V) (h2 : (cst v vs).1) : Qah Try.prog f vs (cst v vs).2 := by
 unfold cst at h2 ⊢
 split at h2
 ·exact h
 ·exact h2.elim
noncomputable def H30 : Gam := ((((H29.ext 57 (cst (.ag (Qa8 exC)))).ext 58 (cst (.ag (eBox exS)))).ext 34 (fnG eCI dCI (fun a => OkC a.1) (fun a => isTB a.1 a.2) .b)).ext 21 (fnG eLI dLI (fun a => Qct a.1 ∧ tame 1000 a.2) (fun a => Qaq a.1 a.2) .i)).ext 17 (fnG eCL dCL (fun a => OkC a.1) (fun a => areB a.1 a.2) .b)
theorem Qu0 : GOk Try.prog H30 := by
 have k1 := Qo9.ext (f := 57) (r := cst (.ag (Qa8 exC))) (fun a w => Try.call57 a w) (Qov W57)
 have k2 := k1.ext (f := 58) (r := cst (.ag (eBox exS))) (fun a w => Try.call58 a w) (Qov W58)
 have k3 := k2.ext (f := 34) (fun a w => Try.call34 a w) (Qb6 (e := eCI) (d := dCI) (ok := fun a => OkC a.1) (g := fun a => isTB a.1 a.2) (eb := .b) fun a h => W34 a.1 a.2 h)
 have k4 := k3.ext (f := 21) (fun a w => Try.call21 a w) (Qb6 (e := eLI) (d := dLI) (ok := fun a => Qct a.1 ∧ tame 1000 a.2) (g := fun a => Qaq a.1 a.2) (eb := .i) fun a h => W21 a.1 a.2 h)
 exact k4.ext (f := 17) (fun a w => Try.call17 a w) (Qb6 (e := eCL) (d := dCL) (ok := fun a => OkC a.1) (g := fun a => areB a.1 a.2) (eb := .b) fun a h => W17 a.1 a.2 h)
theorem h57 : H30 57 [] = (True, .ag (Qa8 exC)) := rfl
theorem h58 : H30 58 [] = (True, .ag (eBox exS)) := rfl
theorem h34 (c : Cane) (k : Int) : H30 34 [.ag (Qa8 c), .i k] = (OkC c, .b (isTB c k)) :=
 (show H30 34 _ = fnG eCI dCI (fun a => OkC a.1) (fun a => isTB a.1 a.2) .b (eCI (c, k)) from rfl).trans (Qb7 _ (Qte _))
theorem h21 (l : List Int) (k : Int) : H30 21 [.sl 1 (l.map eI), .i k] = (Qct l ∧ tame 1000 k, .i (Qaq l k)) :=
 (show H30 21 _ = fnG eLI dLI (fun a => Qct a.1 ∧ tame 1000 a.2) (fun a => Qaq a.1 a.2) .i (eLI (l, k)) from rfl).trans (Qb7 _ (Qtg _))
theorem h17 (c : Cane) (l : List Int) : H30 17 [.ag (Qa8 c), .sl 1 (l.map eI)] = (OkC c, .b (areB c l)) :=
 (show H30 17 _ = fnG eCL dCL (fun a => OkC a.1) (fun a => areB a.1 a.2) .b (eCL (c, l)) from rfl).trans (Qb7 _ (Qtf _))
theorem Qv7 (c : Cane)  : H30 19 [.ag (Qa8 c)] = (True, .tp [.sl 1 ((stL c ⟨0, 0⟩ []).map eI), .i (stE c ⟨0, 0⟩ [])]) := h19 c
theorem Qv8 (c : Cane) (l : List Int)  : H30 20 [.ag (Qa8 c), .sl 1 (l.map eI)] = (True, .tp [.ag (Qan (Qbk c l).1), .i (Qbk c l).2]) := h20 c l
theorem Qv9 (c : Cane) (w : Span)  : H30 25 [.ag (Qa8 c), .ag (Qan w)] = (True, .tp [.i (fewR c w).1, .i (fewR c w).2]) := h25 c w
theorem Qva (c : Cane) (w : Span)  : H30 26 [.ag (Qa8 c), .ag (Qan w)] = (True, .tp [.i (Qbu c w).1, .i (Qbu c w).2.2]) := h26 c w
theorem Qvb (s : Box)  : H30 51 [.ag (eBox s)] = (True, .tp [.i (Qen s).1, .i (Qen s).2]) := h51 s
theorem eq23 : Qax Try.prog 23 2 := Qax.of (fs := _) (show Try.prog.underlying 23 = some (.struct (Try.prog.fieldsOf 23)) by kernel_rfl) (by kernel_rfl) (by kernel_rfl)
set_option maxRecDepth 100000 in
set_option maxHeartbeats 4000000 in
theorem W18 : Qah Try.prog 18 [] (.b true) := by
 refine Qag Qu0 hmix Try.func18 cb18 cc18 cs18 cn18 ?_
 obtain ⟨c, hc⟩ : ∃ c, c = exC := ⟨_, rfl⟩
 obtain ⟨s, hs⟩ : ∃ s, s = exS := ⟨_, rfl⟩
 obtain ⟨L, hL⟩ : ∃ L : List Int, L = (Zw 20).map fun (n : Nat) => (200 + n : Int) := ⟨_, rfl⟩
 have g1 := Qv7 c
 have g2 := Qv8 c [39]
 have g3 := Qv9 c ⟨31, 31⟩
 have g4 := Qva c ⟨31, 31⟩
 have g5 := Qvb s
 have g6 := h57
 have g7 := h58
 rw [hc, Qsm.1, Qsm.2, ← hL, ← hc] at g1
 rw [hc, Qp6, ← hc] at g2
 rw [hc, Qtl, ← hc] at g3
 rw [hc, Qmr.1, Qmr.2, ← hc] at g4
 rw [hs, Qp7, ← hs] at g5
 rw [← hc] at g6
 rw [← hs] at g7
 have l1 : (L.length : Int) = 20 := by rw [hL]; rfl
 have l2 : L[0]? = some 200 := by rw [hL]; rfl
 clear hL hc hs
 unfold Qa8 at g1 g2 g3 g4 g6
 unfold eBox at g5 g7
 simp only [Qd, Qg, Qan, eI] at g1 g2 g3 g4 g5 g6 g7
 simp only [rc18, rs18, g1, g2, g3, g4, g5, g6, g7, l1, l2, Qaa, Qab, Qac, Qa7, Qg4, putB, Qad, Qa6, Qa1, Fam.step, Qaf, Qbf, Qb4, Qaw, Qaz, ug, putB, nv, sv, evO, opv, qv, Qai, binV, ldV, iadV, lenV, Qar, Qay, putAt, Qbc, Qbq, V.cells, Qap, Qb2, Qbm, Qa9, Qa5, flat, Qbt, Qa2, Qau, Qa0, Qa3, ↓reduceIte, Nat.reduceEqDiff, Nat.reduceAdd, Nat.reduceMul, Nat.reduceLT, Nat.reduceLeDiff, Xi, Int.reduceLT, Int.reduceLE, Qd, Qg, Qq, Qs, Qc, Qe, Qf, Qp, Q5, Qb, Q2, Qo, Qm, Q3, Qy, Qh, Qk, Qn, Qv, Q0, Q7, Q8, Zq, endQ, rvs, rv1, resV, vw_i, vw_b, Qav, Qas, zipA, beq_self_eq_true, Qi, V.b.injEq, Ql, Qu, Q6, Qj, Qa, Qt, decide_true, true_and, and_true, and_self, forall_const, implies_true, reduceCtorEq, not_false_eq_true, ne_eq, Q4, beq_true, Qdi, Zt, imp_self, Q1, Qr, Zc, eI]
 exact ⟨eq23, rfl⟩
theorem W71 (c : Cane) (h : OkC c) : Qah Try.prog 71 [.ag (Qa8 c)] (.sl 1 ((Qa4 c).map eI)) := by
 refine Qag Qu0 hmix Try.func71 cb71 cc71 cs71 cn71 ?_
 have k1 := h.low
 have k2 := h.le
 have k3 := h.high
 have k4 := h.spread
 simp only [rc71, rs71, Qaa, Qab, Qak, Qa7, Qnf, Qad, Qa6, Qa1, Fam.step, Qaf, evO, opv, qv, ldV, V.cells, Qap, Qa9, Qa5, Qa2, Qa0, Qa3, ↓reduceIte, Nat.reduceEqDiff, Nat.reduceAdd, Nat.reduceLeDiff, Qd, Qg, Qc, Qe, Qp, Qm, Qy, vw_i, Qav, Qas, zipA, Qi, Qj, Qa, true_and, and_self, Qa8]
 obtain ⟨T, hT⟩ : ∃ T : Nat → List Int, T = fun i => ((ints c.spring.low c.spring.high).take i).filter (Qe8 c) := ⟨_, rfl⟩
 have hlen : ∀ i, (T i).length ≤ 41 := fun i => by
  rw [hT]
  refine Nat.le_trans (List.length_filter_le _ _) ?_
  rw [Xw, Qfd]; omega
 refine Qce (c.spring.high + 1 - c.spring.low).toNat (fun i => ⟨lkp [(1, .pa (Qa8 c)), (3, .rf 0 (T i).length 0 (T i).length 1), (4, .i (c.spring.low + i))], [.cells (T i).length ((T i).map V.i)]⟩) ?_ ?_ ?_
 ·have h0 : T 0 = [] := by rw [hT]; rfl
  simp only [Zi, Xp, h0, kp, Qa0, Qa3, ↓reduceIte, Nat.reduceEqDiff, Qd, Qg, Qe, Qa8]
 ·intro i hi
  have hx := Qgc hi
  have hlt : c.spring.low + (i : Int) ≤ c.spring.high := by omega
  have h3 : inI (c.spring.low + (i : Int) + 1) := by unfold inI; omega
  have g1 := h34 c (c.spring.low + i)
  unfold Qa8 at g1
  have hw : isTB c (c.spring.low + i) = Qe8 c (c.spring.low + i) := by
   have : Qal (c.spring.low + i) c.spring.low c.spring.high = true := by simp only [Qal, Zh, decide_eq_true_eq]; omega
   simp [isTB, this]
  have hs : T (i + 1) = if Qe8 c (c.spring.low + i) = true then T i ++ [c.spring.low + i] else T i := by
   rw [hT]
   simp only [Qbo hx, List.filter_append, List.filter_cons, List.filter_nil]
   split <;> simp
  have hl1 := hlen i
  have hl2 : ((T i).map V.i).length = (T i).length := by simp
  have hfl : Qc0 ((T i).length + 1) := by unfold Qc0; omega
  have happ : (T i).map V.i ++ [V.i (c.spring.low + i)] = (T i ++ [c.spring.low + (i : Int)]).map V.i := by simp
  simp only [hlt, g1, h, hw, Qaj, Qaa, Qab, Qae, Qc6, Qak, Qa7, Qg4, putB, Qad, Qat, Qa6, Qa1, Fam.step, Qaf, Qbf, Qaw, putB, nv, sv, Qd5, evO, opv, qv, binV, ldV, Qar, Qay, putAt, Qbc, Qbq, V.cells, Qap, Qb2, Qa9, Qa5, flat, kp, Qa2, Qa0, Qa3, ↓reduceIte, Nat.reduceEqDiff, Nat.reduceAdd, Nat.reduceMul, Nat.reduceLT, Nat.reduceLeDiff, Qd, Qg, Qq, Qs, Qc, Qe, Qf, Qp, Qb, Q2, Qo, Qm, Q3, Qy, Qh, Qk, Q0, Q8, Zq, vw_i, Qav, Qas, Qi, Ql, Qj, Qa, decide_true, true_and, and_self, implies_true, reduceCtorEq, not_false_eq_true, ne_eq, Q1, Xc, Qa8]
  refine ⟨fun e => ?_, fun e => ?_⟩
  ·rw [if_pos e] at hs
   simp only [hs, hfl, happ, h3, Z9, Zk, Zl, Xq, Z4, List.length_append, Qc, Qe, Qi, Qc, Qe, Qh, Qi, true_and, and_self]
   rw [Int.add_assoc]
  ·rw [if_neg (by simp [e])] at hs
   simp only [hs, h3, Zk, Zl, true_and]
   rw [Int.add_assoc]
 ·have hgt : ¬ (c.spring.low + ((c.spring.high + 1 - c.spring.low).toNat : Int) ≤ c.spring.high) := by omega
  have hE : T (c.spring.high + 1 - c.spring.low).toNat = Qa4 c := by
   rw [hT]
   simp only
   rw [Xd (by rw [Qfd]; omega)]; rfl
  simp only [hgt, hE, Z9, Zv, Qmp, vw_I, Qaa, Qab, Qae, Qba, Qac, Qa7, Qad, Qat, Qa6, Qa1, Fam.step, Qaf, evO, opv, qv, binV, ldV, Qa2, Qa0, Qa3, ↓reduceIte, Nat.reduceEqDiff, Nat.reduceAdd, Nat.reduceLeDiff, Qd, Qg, Qc, Qe, Qf, Qp, Qm, Qk, endQ, rvs, rv1, resV, Qhp, Qi, Qa, decide_false, and_self, Q1, Qa8]
noncomputable def H31 : Gam := (H30.ext 18 (cst (.b true))).ext 71 (fnG eC1 dC1 OkC Qa4 fun l => .sl 1 (l.map eI))
theorem Qu1 : GOk Try.prog H31 := (Qu0.ext (f := 18) (r := cst (.b true)) (fun a w => Try.call18 a w) (Qov W18)).ext (f := 71) (fun a w => Try.call71 a w) (Qb6 (e := eC1) (d := dC1) (ok := OkC) (g := Qa4) (eb := fun l => .sl 1 (l.map eI)) fun c h => W71 c h)
theorem h18 : H31 18 [] = (True, .b true) := rfl
theorem h71 (c : Cane) : H31 71 [.ag (Qa8 c)] = (OkC c, .sl 1 ((Qa4 c).map eI)) := (show H31 71 _ = fnG eC1 dC1 OkC Qa4 (fun l => .sl 1 (l.map eI)) (eC1 c) from rfl).trans (Qb7 _ (Qi0 _))
theorem Qve (n lo hi : Int)  : H31 56 [.i n, .i lo, .i hi] = (True, .b (Qal n lo hi)) := h56 n lo hi
theorem Qvd (c : Cane) (b i : Int)  : H31 37 [.ag (Qa8 c), .i b, .i i] = (Qdl c i, .b (Qh3 c b i)) := h37 c b i
theorem Qvc (c : Cane)  : H31 16 [.ag (Qa8 c)] = (True, .i (Qby c)) := h16 c
theorem Qvf (w : Span)  : H31 89 [.ag (Qan w)] = (True, .b (Qb5 w 540)) := h89 w
theorem W42 (c : Cane) (h : OkC c) : Qah Try.prog 42 [.ag (Qa8 c)] (.sl 1 ((Qa4 c).map eI)) := by
 refine Qag Qu1 hmix Try.func42 cb42 cc42 cs42 cn42 ?_
 have g1 := h71 c
 unfold Qa8 at g1
 simp only [rc42, rs42, g1, h, Qaa, Qab, Qac, Qa7, Qad, Qa6, Qa1, Fam.step, Qaf, evO, opv, qv, ldV, Qar, V.cells, Qap, Qa9, Qa5, flat, Qa2, Qa0, Qa3, ↓reduceIte, Nat.reduceEqDiff, Nat.reduceAdd, Nat.reduceLT, Nat.reduceLeDiff, Qd, Qg, Qc, Qe, Qb, Qo, Qh, endQ, rvs, rv1, resV, vw_i, Qav, Qas, zipA, Qi, Qj, Qa, and_self, imp_self, Qa8]
theorem Qln {c : Cane} (h : OkC c) (b : Int) (i : Nat) : Qh3 c b i = true ↔ 1 ≤ b ∧ b ≤ Qc2 c i := by
 have h1 := h.limit
 have h2 := h.tire
 have h3 : 0 ≤ c.tire * (i : Int) := Int.mul_nonneg h2.1 (by omega)
 simp only [Qh3, Qc2, Zh, decide_eq_true_eq]
 omega
theorem Qfa {c : Cane} (h : OkC c) (l : List Int) : areB c l = true ↔ l.length ≤ 6 ∧ Poss c l := by
 unfold areB Poss
 simp only [Zh, decide_eq_true_eq, Zu, List.mem_range, Qln h]
theorem W62 (c : Cane) (l : List Int) (w : Span) : Qah Try.prog 62 [.ag (Qa8 c), .sl 1 (l.map eI), .ag (Qan w)] (.tp [.sl 1 ((stL c w l).map eI), .i (stE c w l)]) := by
 refine Qag Qu1 hmix Try.func62 cb62 cc62 cs62 cn62 ?_
 have g1 := Qvc c
 have g2 := Qvf w
 have g4 := h71 c
 unfold Qa8 at g1 g4
 unfold Qan at g2
 simp only [rc62, rs62, g1, Qaj, Qaa, Qab, Qae, Qc6, Qak, Qac, Qa7, Qad, Qa6, Qa1, Fam.step, Qaf, Qb4, Qaz, ug, evO, opv, qv, binV, ldV, lenV, Qar, V.cells, Qap, Qa9, Qa5, flat, Qa2, Qa0, Qa3, ↓reduceIte, Nat.reduceEqDiff, Nat.reduceAdd, Nat.reduceLT, Nat.reduceLeDiff, Qd, Qg, Qq, Qs, Qc, Qe, Qb, Qo, Qh, Za, endQ, rvs, rv1, resV, vw_i, vw_z, Qav, Qas, Qd6, zipA, Qi, Ql, Qu, Qj, Qa, decide_eq_true_eq, decide_eq_false_iff_not, true_and, and_true, and_self, false_implies, implies_true, reduceCtorEq, beq_false, Zn, imp_self, Q1, Xc, Classical.not_not, Qan, Qa8]
 refine ⟨fun h => ?_, fun h => ?_⟩
 ·have e : stE c w l = Qby c := by unfold stE; rw [if_pos h]
  have e2 : stL c w l = [] := by unfold stL; rw [e, if_neg h]
  simp only [e, e2, Qg]
 ·have hC := Qdr.1 h
  simp only [g2, Qai, decide_eq_true_eq, true_and, and_true, Qhl, imp_self]
  refine ⟨fun hb => ?_, fun hb => ?_⟩
  ·have e : stE c w l = 1 := by
    unfold stE
    rw [if_neg (by simp [h]), if_pos]
    by_cases h1 : Qb5 w 540 = true
    ·left
     simp [h1] at hb
     omega
    ·right; left; simpa using h1
   have e2 : stL c w l = [] := by unfold stL; rw [e]; rfl
   simp only [e, e2, Qg]
  ·have hl6 : l.length ≤ 6 ∧ Qb5 w 540 = true := by
    simp only [Xj, decide_eq_false_iff_not, Xo] at hb
    exact ⟨by omega, hb.2⟩
   refine Qco l.length (fun i => ⟨lkp [(1, .sl 1 (l.map eI)), (3, .pa (Qa8 c)), (9, .i i)], []⟩) (fun i => ∀ (j : Nat) n, j < i → l[j]? = some n → Qal n 1 90 = true) ?_ ?_ ?_ ?_
   ·simp only [Zi, kp, Qa0, Qa3, ↓reduceIte, Nat.reduceEqDiff, Qd, Qg, Qa8]
   ·intro j n hj; omega
   ·intro i hi hcr
    obtain ⟨n, hn⟩ : ∃ n, l[i]? = some n := ⟨_, Qz hi⟩
    have hlt : (i : Int) < l.length := by omega
    have h4 : inI ((i : Int) + 1) := by unfold inI; omega
    simp only [hn, hlt, Qve, h4, Zk, Zl, Qaj, Qaa, Qab, Qae, Qc6, Qak, Qac, Qa7, Qad, Qat, Qa6, Qa1, Fam.step, Qaf, evO, opv, qv, binV, ldV, iadV, lenV, Qar, Qa9, Qa5, flat, kp, Qa2, Qa0, Qa3, ↓reduceIte, Nat.reduceEqDiff, Nat.reduceLT, Nat.reduceLeDiff, Qd, Qg, Qc, Qe, Qm, Qh, Za, Qv, endQ, rvs, rv1, resV, vw_i, vw_z, Qd6, Zg, Qi, Qj, Qa, decide_true, true_and, and_true, and_self, implies_true, Q4, Zn, Q1, Ze, Qr, Zc, Xr, Qa8, eI]
    refine ⟨fun hw => ?_, fun hw => ?_⟩
    ·have e : stE c w l = 1 := by
      unfold stE
      rw [if_neg (by simp [h]), if_pos]
      right; right
      rw [Zb]
      exact ⟨n, Zd hn, by simpa using hw⟩
     have e2 : stL c w l = [] := by unfold stL; rw [e]; rfl
     simp only [e, e2, Qg]
    ·intro j m hj hm
     by_cases hji : j < i
     ·exact hcr j m hji hm
     ·have : j = i := by omega
      subst this
      rw [hn] at hm; cases hm
      simpa using hw
   ·intro hcr
    have h77 : ¬ ((l.length : Int) < l.length) := by omega
    have hns : ¬ (6 < l.length ∨ Qb5 w 540 = false ∨ (l.any fun n => !Qal n 1 90) = true) := by
     rintro (h1 | h1 | h1)
     ·omega
     ·rw [hl6.2] at h1; cases h1
     ·rw [Zb] at h1
      obtain ⟨n, hn, hn2⟩ := h1
      obtain ⟨j, hj⟩ := Xk hn
      rw [hcr j n (Qam hj) hj] at hn2
      cases hn2
    simp only [h77, Qaa, Qab, Qae, Qak, Qba, Qa7, Qad, Qat, Qa6, Qa1, Fam.step, Qaf, evO, opv, qv, binV, lenV, Qa2, Qa0, Qa3, ↓reduceIte, Nat.reduceEqDiff, Qd, Qg, Qa, decide_false, true_and, Q1, Qa8]
    refine Qco l.length (fun i => ⟨lkp [(1, .sl 1 (l.map eI)), (3, .pa (Qa8 c)), (10, .i i)], []⟩) (fun i => ∀ j : Nat, j < i → ¬ Qc2 c j < l.getD j 0) ?_ ?_ ?_ ?_
    ·simp only [Zi, kp, Qa0, Qa3, ↓reduceIte, Nat.reduceEqDiff, Qd, Qg, Qa8]
    ·intro j hj; omega
    ·intro i hi hc2
     obtain ⟨n, hn⟩ : ∃ n, l[i]? = some n := ⟨_, Qz hi⟩
     have hd : l.getD i 0 = n := by rw [Qr, hn]; rfl
     have hlt : (i : Int) < l.length := by omega
     have h4 : inI ((i : Int) + 1) := by unfold inI; omega
     have g5 := Qvd c n i
     unfold Qa8 at g5
     have hm := hC.most (i := i) (by unfold tame; omega)
     have hw := hcr i n hi hn
     have hp := Qln hC n i
     simp only [Qal, Zh, decide_eq_true_eq] at hw
     simp only [hn, hlt, g5, hm, h4, Zk, Zl, Qaj, Qaa, Qbl, Qab, Qae, Qc6, Qak, Qac, Qa7, Qb9, Qad, Qat, Qa6, Qa1, Fam.step, Qaf, runX, eff, Qb8, fpR, fpQ, fpV, Qbz, hits, evO, opv, qv, binV, ldV, iadV, lenV, Qar, Qa9, Qa5, flat, kp, Qa2, Qa0, Qa3, ↓reduceIte, Nat.reduceEqDiff, Nat.reduceAdd, Nat.reduceLT, Nat.reduceLeDiff, Qd, Qg, Qs, Qc, Qe, Qb, Qo, Qm, Q3, Qy, Qh, Za, Qv, Zm, Q8, Zp, endQ, rvs, rv1, resV, vw_i, vw_z, Qav, Qas, Qd6, Zg, Qi, Ql, Qu, Q9, Qj, Qw, Qx, Qa, decide_true, true_and, and_true, and_self, implies_true, Q4, Zx, Zo, Zn, Q1, Ze, Qr, Zc, Xr, Qa8, eI]
     refine ⟨fun hq => ?_, fun hq => ?_⟩
     ·have e0 : Qev c l = true := by
       unfold Qev
       rw [Zb]
       refine ⟨i, by simpa using hi, ?_⟩
       rw [hd, decide_eq_true_eq]
       have : ¬ Qh3 c n i = true := by simpa using hq
       rw [hp] at this
       omega
      have e : stE c w l = 61 := by unfold stE; rw [if_neg (by simp [h]), if_neg hns, if_pos e0]
      have e2 : stL c w l = [] := by unfold stL; rw [e]; rfl
      simp only [e, e2, Qg]
     ·intro j hj
      by_cases hji : j < i
      ·rw [← Qr]; exact hc2 j hji
      ·have : j = i := by omega
       subst this
       rw [← Qr, hd]
       have := hp.1 (by simpa using hq)
       omega
    ·intro hc2
     have e0 : ¬ Qev c l = true := by
      unfold Qev
      rw [Zb]
      rintro ⟨i, hi, hi2⟩
      exact hc2 i (by simpa using hi) (by simpa using hi2)
     simp only [h77, g4, hC, Qaj, Qaa, Qab, Qae, Qc6, Qba, Qac, Qa7, Qad, Qat, Qa6, Qa1, Fam.step, Qaf, evO, opv, qv, binV, ldV, lenV, Qar, Qa9, Qa5, flat, Qa2, Qa0, Qa3, ↓reduceIte, Nat.reduceEqDiff, Nat.reduceAdd, Nat.reduceLT, Nat.reduceLeDiff, Qd, Qg, Qc, Qe, Qb, Qo, Qh, Za, endQ, rvs, rv1, resV, vw_i, vw_z, Qav, Qas, Qd6, Qi, Qj, Qa, decide_false, decide_eq_true_eq, true_and, and_self, imp_self, Q1, Qa8]
     refine ⟨fun ht => ?_, fun ht => ?_⟩
     ·have ht : Qa4 c = [] := Z5 (by omega)
      have e : stE c w l = 3 := by unfold stE; rw [if_neg (by simp [h]), if_neg hns, if_neg e0, if_pos ht]
      have e2 : stL c w l = [] := by unfold stL; rw [e]; rfl
      simp only [e, e2, Qg]
     ·have ht : ¬ Qa4 c = [] := fun e => by rw [e] at ht; simp at ht
      have e : stE c w l = 0 := by unfold stE; rw [if_neg (by simp [h]), if_neg hns, if_neg e0, if_neg ht]
      have e2 : stL c w l = Qa4 c := by unfold stL; rw [if_pos e]
      simp only [e, e2]
end Go.C06
set_option linter.unusedSimpArgs false
set_option linter.unusedVariables false
namespace Go.C06
open Go.Fam Go.Proofs
variable {Γ : Gam}
noncomputable def H32 : Gam := (H31.ext 42 (fnG eC1 dC1 OkC Qa4 fun l => .sl 1 (l.map eI))).ext 62 (fnG eCLS dCLS (fun _ => True) (fun a => (stL a.1 a.2.2 a.2.1, stE a.1 a.2.2 a.2.1)) fun r => .tp [.sl 1 (r.1.map eI), .i r.2])
theorem Qu2 : GOk Try.prog H32 := (Qu1.ext (f := 42) (fun a w => Try.call42 a w) (Qb6 (e := eC1) (d := dC1) (ok := OkC) (g := Qa4) (eb := fun l => .sl 1 (l.map eI)) fun c h => W42 c h)).ext (f := 62) (fun a w => Try.call62 a w)
 (Qb6 (e := eCLS) (d := dCLS) (ok := fun _ => True) (g := fun a => (stL a.1 a.2.2 a.2.1, stE a.1 a.2.2 a.2.1)) (eb := fun r => .tp [.sl 1 (r.1.map eI), .i r.2]) fun a _ => W62 a.1 a.2.1 a.2.2)
theorem h62 (c : Cane) (l : List Int) (w : Span) : H32 62 [.ag (Qa8 c), .sl 1 (l.map eI), .ag (Qan w)] = (True, .tp [.sl 1 ((stL c w l).map eI), .i (stE c w l)]) :=
 (show H32 62 _ = fnG eCLS dCLS (fun _ => True) (fun a => (stL a.1 a.2.2 a.2.1, stE a.1 a.2.2 a.2.1)) (fun r => .tp [.sl 1 (r.1.map eI), .i r.2]) (eCLS (c, l, w)) from rfl).trans (Qb7 _ (Qp1 _))
theorem Qvh (n lo hi : Int)  : H32 56 [.i n, .i lo, .i hi] = (True, .b (Qal n lo hi)) := h56 n lo hi
theorem Qvg (l : List Int) (k : Int)  : H32 21 [.sl 1 (l.map eI), .i k] = (Qct l ∧ tame 1000 k, .i (Qaq l k)) := h21 l k
theorem W27 (c : Cane) : Qah Try.prog 27 [.ag (Qa8 c)] (.tp [.sl 1 ((stL c ⟨0, 0⟩ []).map eI), .i (stE c ⟨0, 0⟩ [])]) := by
 refine Qag Qu2 hmix Try.func27 cb27 cc27 cs27 cn27 ?_
 have g1 := h62 c [] ⟨0, 0⟩
 unfold Qa8 Qan at g1
 simp only [Qg] at g1
 simp only [rc27, rs27, g1, Qaa, Qab, Qac, Qa7, Qad, Qa6, Qa1, Fam.step, Qaf, evO, opv, qv, ldV, Qar, Qay, Qbc, V.cells, Qap, Qa9, Qa5, flat, Qbt, Qa2, Qa0, Qa3, ↓reduceIte, Nat.reduceEqDiff, Nat.reduceAdd, Nat.reduceLT, Nat.reduceLeDiff, Qd, Qg, Qc, Qe, Qb, Qo, Qh, Qk, Qn, Za, Qv, endQ, rvs, rv1, resV, vw_i, vw_z, Qav, Qas, Qd6, zipA, Qi, Ql, Qu, Qj, Qa, and_self, imp_self, Qa8]
theorem W70 (ks l : List Int) (w : Span) (h : Qct l ∧ ks.length ≤ 1000 ∧ ∀ k ∈ ks, tame 1000 k) : Qah Try.prog 70 [.sl 1 (ks.map eI), .sl 1 (l.map eI), .ag (Qan w)] (.i (Qcb l w ks)) := by
 refine Qag Qu2 hmix Try.func70 cb70 cc70 cs70 cn70 ?_
 simp only [rc70, rs70, Qaa, Qab, Qak, Qa7, Qad, Qa6, Qa1, Fam.step, Qaf, evO, opv, qv, V.cells, Qap, Qa9, Qa5, Qa2, Qa0, Qa3, ↓reduceIte, Nat.reduceEqDiff, Nat.reduceAdd, Qd, Qg, vw_i, Qas, zipA, Qi, Qj, true_and, and_self, reduceCtorEq, Qan]
 refine Qce ks.length (fun i => ⟨lkp [(0, .sl 1 (ks.map eI)), (1, .sl 1 (l.map eI)), (5, .pa (Qan w)), (7, .i (Qcb l w (ks.take i))), (8, .i i)], []⟩) ?_ ?_ ?_
 ·simp only [Zi, Qcb, List.countP_nil, kp, Qa0, Qa3, ↓reduceIte, Nat.reduceEqDiff, Qd, Qg, Q2, reduceCtorEq, Qan]
 ·intro i hi
  obtain ⟨k, hk⟩ : ∃ k, ks[i]? = some k := ⟨_, Qz hi⟩
  have hlt : (i : Int) < ks.length := by omega
  have t1 := h.2.2 k (Zd hk)
  have hks := h.2.1
  have hg : Qcb l w (ks.take i) ≤ i := Nat.le_trans List.countP_le_length (by simp; omega)
  have h4 : inI ((i : Int) + 1) ∧ inI ((Qcb l w (ks.take i) : Int) + 1) := by unfold inI; omega
  have hct : ∀ q : Bool, Qal (Qaq l k) w.low w.high = q → (Qcb l w (ks.take (i + 1)) : Int) = Qcb l w (ks.take i) + (if q = true then 1 else 0) := by
   rintro q rfl
   unfold Qcb
   rw [Qbo hk, List.countP_append, List.countP_singleton]
   split <;> simp
  simp only [hk, hlt, Qvg, h.1, t1, Qvh, Zk, Zl, Qaj, Qaa, Qbl, Qab, Qae, Qc6, Qak, Qa7, Qb9, Qad, Qat, Qa6, Qa1, Fam.step, Qaf, runX, eff, Qb8, fpR, fpQ, fpV, Qbz, hits, evO, opv, qv, binV, ldV, iadV, lenV, Qar, Qa9, Qa5, flat, kp, Qa2, Qa0, Qa3, ↓reduceIte, Nat.reduceEqDiff, Nat.reduceAdd, Nat.reduceLT, Nat.reduceLeDiff, Qd, Qg, Qs, Qc, Qe, Qf, Qp, Qm, Q3, Qy, Qh, Za, Qv, Zm, Q8, Zp, vw_i, Qav, Zg, Qi, Ql, Qu, Q9, Qj, Qw, Qx, Qa, decide_true, true_and, and_self, implies_true, reduceCtorEq, Q4, Zx, Zo, Q1, Ze, Qr, Zc, Xc, Qan, eI]
  refine ⟨fun e => ?_, fun e => ?_⟩
  ·simp only [h4, hct true e, ↓reduceIte, and_self]
  ·simp only [h4, hct false e, Xp, ↓reduceIte, Qa, and_self]
 ·simp only [List.take_length, Qaa, Qab, Qae, Qba, Qac, Qa7, Qad, Qat, Qa6, Qa1, Fam.step, Qaf, evO, opv, qv, binV, lenV, Qa2, Qa0, Qa3, ↓reduceIte, Nat.reduceEqDiff, Qd, Qg, endQ, rvs, rv1, resV, vw_i, Int.lt_irrefl, Qa, decide_false, and_self, reduceCtorEq, Q1, Qan]
def Qlk (a : List Int × List Int × Span) : Prop := Qct a.2.1 ∧ a.1.length ≤ 1000 ∧ ∀ k ∈ a.1, tame 1000 k
def eLLS (a : List Int × List Int × Span) : List V := [.sl 1 (a.1.map eI), .sl 1 (a.2.1.map eI), .ag (Qan a.2.2)]
def dLLS : List V → List Int × List Int × Span | [.sl _ k, .sl _ l, .ag w] => (k.map dI, l.map dI, Qep w) | _ => ([], [], Qep [])
theorem Qvv (a : List Int × List Int × Span) : dLLS (eLLS a) = a := by obtain ⟨k, l, w⟩ := a; simp [dLLS, eLLS, Function.comp_def, Qi1, Qfs]
noncomputable def H33 : Gam := H32.ext 70 (fnG eLLS dLLS Qlk (fun a => (Qcb a.2.1 a.2.2 a.1 : Int)) .i)
theorem Qik : GOk Try.prog H33 := Qu2.ext (f := 70) (fun a w => Try.call70 a w) (Qb6 (e := eLLS) (d := dLLS) (ok := Qlk) (g := fun a => (Qcb a.2.1 a.2.2 a.1 : Int)) (eb := .i) fun a h => W70 a.1 a.2.1 a.2.2 h)
theorem h70 (ks l : List Int) (w : Span) : H33 70 [.sl 1 (ks.map eI), .sl 1 (l.map eI), .ag (Qan w)] = (Qlk (ks, l, w), .i (Qcb l w ks)) :=
 (show H33 70 _ = fnG eLLS dLLS Qlk (fun a => (Qcb a.2.1 a.2.2 a.1 : Int)) .i (eLLS (ks, l, w)) from rfl).trans (Qb7 _ (Qvv _))
theorem Qsi (c : Cane) (l : List Int) (w : Span)  : H33 62 [.ag (Qa8 c), .sl 1 (l.map eI), .ag (Qan w)] = (True, .tp [.sl 1 ((stL c w l).map eI), .i (stE c w l)]) := h62 c l w
theorem Qsh (l : List Int) (k : Int)  : H33 21 [.sl 1 (l.map eI), .i k] = (Qct l ∧ tame 1000 k, .i (Qaq l k)) := h21 l k
theorem Qvj (c : Cane)  : H33 16 [.ag (Qa8 c)] = (True, .i (Qby c)) := h16 c
theorem Qvi (c : Cane)  : H33 15 [.ag (Qa8 c)] = (True, .b (farB c)) := h15 c
theorem W40 (c : Cane) (l : List Int) (w : Span) : Qah Try.prog 40 [.ag (Qa8 c), .sl 1 (l.map eI), .ag (Qan w)] (.tp [.i (Qc8 c l w).1, .i (Qc8 c l w).2]) := by
 refine Qag Qik hmix Try.func40 cb40 cc40 cs40 cn40 ?_
 have g1 := Qsi c l w
 have g2 := h70 (stL c w l) l w
 unfold Qa8 Qan at g1
 unfold Qan at g2
 simp only [rc40, rs40, g1, g2, Qaj, Qaa, Qab, Qae, Qc6, Qak, Qac, Qa7, Qad, Qat, Qa6, Qa1, Fam.step, Qaf, evO, opv, qv, binV, ldV, lenV, Qar, V.cells, Qap, Qa9, Qa5, flat, Qbt, Qa2, Qa0, Qa3, ↓reduceIte, Nat.reduceEqDiff, Nat.reduceAdd, Nat.reduceLT, Nat.reduceLeDiff, Qd, Qg, Qc, Qe, Qb, Qo, Qh, Qk, Qn, Za, Qv, endQ, rvs, rv1, resV, vw_i, Qav, Qas, Qd6, zipA, Qi, Ql, Qu, Qj, Qa, decide_eq_true_eq, decide_eq_false_iff_not, true_and, and_true, and_self, implies_true, reduceCtorEq, Zn, imp_self, Q1, Classical.not_not, Qan, Qa8]
 refine ⟨fun h => ?_, fun h => ?_⟩
 ·simp only [Qc8, if_neg h]
 ·obtain ⟨h1, h2, h3, h4, h5, h6, h7⟩ := Qki h
  have hlen := Qcd c h1
  have hs : Qct l := ⟨by omega, fun n hn => by have := h4 n hn; unfold tame; omega⟩
  have hm : Qlk (stL c w l, l, w) := ⟨hs, by rw [h7]; show (Qa4 c).length ≤ 1000; omega, fun k hk => by rw [h7] at hk; have := Qca h1 hk; unfold tame; omega⟩
  rw [h7] at hm
  simp only [hm, h7, Qc8, h, fitK, ↓reduceIte, true_and]
  refine ⟨fun e => ?_, fun e => ?_⟩
  ·have e : Qcb l w (Qa4 c) = (Qa4 c).length := by omega
   simp only [e, ↓reduceIte]
  ·have e : ¬ Qcb l w (Qa4 c) = (Qa4 c).length := by omega
   simp only [e, ↓reduceIte]
   refine ⟨fun e2 => ?_, fun e2 => ?_⟩
   ·have e2 : Qcb l w (Qa4 c) = 0 := by omega
    simp only [e2, ↓reduceIte]
   ·have e2 : ¬ Qcb l w (Qa4 c) = 0 := by omega
    simp only [e2, ↓reduceIte]
theorem W46 (c : Cane) (l : List Int) : Qah Try.prog 46 [.ag (Qa8 c), .sl 1 (l.map eI)] (.tp [.ag (Qan (Qbk c l).1), .i (Qbk c l).2]) := by
 refine Qag Qik hmix Try.func46 cb46 cc46 cs46 cn46 ?_
 have g1 := Qsi c l ⟨0, 0⟩
 unfold Qa8 Qan at g1
 simp only [rc46, rs46, g1, Qaj, Qaa, Qbl, Qab, Qae, Qc6, Qak, Qac, Qa7, Qb9, optL, putB, Qad, Qa6, Qa1, Fam.step, Qaf, Qbf, Qaw, runX, eff, Qb8, fpR, fpQ, fpV, Qbz, hits, putB, nv, sv, evO, opv, qv, binV, ldV, iadV, Qar, Qay, putAt, Qbc, V.cells, Qap, Qb2, Qa9, Qa5, flat, Qbt, Qa2, Qau, Qa0, Qa3, ↓reduceIte, Nat.reduceEqDiff, Nat.reduceAdd, Nat.reduceLT, Nat.reduceLeDiff, Xi, Int.reduceLE, Qd, Qg, Qq, Qs, Qc, Qe, Qf, Qp, Q5, Qb, Q2, Qo, Q3, Qy, Qh, Qk, Qn, Za, Qv, Zm, Q0, Q7, Q8, Zq, Zp, Xs, endQ, rvs, rv1, resV, vw_i, Qav, Qas, Qd6, zipA, Qi, Xt, Ql, Qu, Xm, Q9, Qj, Xa, Qw, Qx, Qa, decide_eq_false_iff_not, true_and, and_true, and_self, reduceCtorEq, List.any_cons, Zx, Z2, Zo, Zn, imp_self, Q1, Qr, Zc, Classical.not_not, Qan, Qa8]
 refine ⟨fun h => ?_, fun h => ?_⟩
 ·simp only [Qbk, if_neg h]
 ·obtain ⟨h1, h2, h3, h4, h5, h6, h7⟩ := Qki h
  have hlen := Qcd c h1
  have hpos : 0 < (Qa4 c).length := Zs.2 h6
  obtain ⟨b, hb⟩ : ∃ b, (Qa4 c)[0]? = some b := ⟨_, Qz hpos⟩
  have hb2 := Qca h1 (Zd hb)
  have hs : Qct l := ⟨by omega, fun n hn => by have := h4 n hn; unfold tame; omega⟩
  have i3 : (0 : Int) < (Qa4 c).length := by omega
  have t2 : tame 1000 b := by unfold tame; omega
  have hlow : ∀ i : Nat, i < (Qa4 c).length → ∃ k, (Qa4 c)[i]? = some k ∧ (Qa4 c).getD i 0 = k ∧ tame 1000 k ∧ Qaq l k ≤ Qaq l b ∧ Qaq l k ≤ Qaq l ((Qa4 c).getD (i - 1) 0) := by
   intro i hi
   obtain ⟨k, hk⟩ : ∃ k, (Qa4 c)[i]? = some k := ⟨_, Qz hi⟩
   have hk2 := Qca h1 (Zd hk)
   have hd : (Qa4 c).getD i 0 = k := by rw [Qr, hk]; rfl
   have e0 : (Qa4 c).getD 0 0 = b := by rw [Qr, hb]; rfl
   have hends := Qir (Qdc c) (Zd hk)
   rw [e0] at hends
   refine ⟨k, hk, hd, by unfold tame; omega, Qdd hb2.1 hends.1 h4, ?_⟩
   by_cases hi0 : i = 0
   ·subst hi0
    rw [Nat.zero_sub, hd]; exact Zf _
   ·have hp := Zr.1 (Qdc c) (i - 1) i (by omega) hi (by omega)
    obtain ⟨k', hk'⟩ : ∃ k, (Qa4 c)[i - 1]? = some k := ⟨_, Qz (by omega)⟩
    have hd' : (Qa4 c).getD (i - 1) 0 = k' := by rw [Qr, hk']; rfl
    have hk2' := Qca h1 (Zd hk')
    rw [(Z1.1 hk).2, (Z1.1 hk').2] at hp
    rw [hd']
    exact Qdd hk2'.1 (by omega) h4
  simp only [h7, i3, hb, Qsh, hs, t2, Qb2, Qa9, flat, Nat.reduceAdd, Nat.reduceLeDiff, Qq, Qs, Qc, Qe, Qf, Qp, Q5, Qb, Q2, Qm, Q3, Qy, Qh, Qv, vw_i, Qi, Ql, Qa, true_and, and_self, implies_true, Q4, eI]
  refine ⟨?_, ?_⟩
  ·simp [Qwn, Qoa]
  refine Qce (Qa4 c).length (fun i => ⟨lkp [(1, .sl 1 (l.map eI)), (4, .ad 0 0 0), (6, .sl 1 ((Qa4 c).map eI)), (8, .ad 1 0 0), (9, .i i)], [.cells 0 [.i 0, .i 0], .cells 0 [.i (Qaq l ((Qa4 c).getD (i - 1) 0)), .i (Qaq l b)]]⟩) ?_ ?_ ?_
  ·have e0 : (Qa4 c).getD 0 0 = b := by rw [Qr, hb]; rfl
   simp only [Zi, Nat.zero_sub, e0, kp, Qa0, Qa3, ↓reduceIte, Nat.reduceEqDiff, Qd, Qg]
  ·intro i hi
   obtain ⟨k, hk, hd, tk, a1, a2⟩ := hlow i hi
   have hlt : (i : Int) < (Qa4 c).length := by omega
   have h5 : inI ((i : Int) + 1) := by unfold inI; omega
   have m1 : min (Qaq l ((Qa4 c).getD (i - 1) 0)) (Qaq l k) = Qaq l k := by omega
   have m2 : max (Qaq l b) (Qaq l k) = Qaq l b := by omega
   have hk2 : (Qa4 c)[i + 1 - 1]?.getD 0 = k := by rw [Nat.add_sub_cancel, hk]; rfl
   rw [Qr] at m1
   simp only [hk, hlt, Qsh, hs, tk, h5, Zk, Zl, m1, m2, hk2, Qaj, Qaa, Qbl, Qab, Qae, Qak, Qa7, Qb9, optL, Qad, Qat, Qa6, Qa1, Fam.step, Qaf, Qaw, runX, eff, Qb8, fpR, fpQ, fpV, Qbz, hits, nv, sv, evO, opv, qv, binV, ldV, iadV, lenV, curG, Qar, Qay, putAt, Qbc, V.cells, Qap, Qb2, Qa9, Qa5, flat, kp, Qa2, Qau, Qa0, Qa3, ↓reduceIte, Nat.reduceEqDiff, Nat.reduceAdd, Nat.reduceLT, Nat.reduceLeDiff, Qd, Qg, Qq, Qs, Qc, Qe, Qf, Qp, Q5, Qb, Q2, Qm, Q3, Qy, Qh, Qk, Qn, Za, Qv, Zm, Q0, Q7, Q8, Zp, Xs, vw_i, Qav, Zg, beq_self_eq_true, Qi, Xt, Ql, Qu, Xm, Q9, Qj, Xa, Qw, Qx, Qa, decide_true, and_self, implies_true, Q4, List.any_cons, Zx, Z2, Zo, Q1, Ze, Qr, Zc, eI]
  ·have h77 : ¬ (((Qa4 c).length : Int) < (Qa4 c).length) := by omega
   have hb0 : (Qa4 c)[0]?.getD 0 = b := by rw [hb]; rfl
   simp only [h77, Qbk, h, Qet, hb0, Qaa, Qab, Qae, Qba, Qac, Qa7, putB, Qad, Qat, Qa6, Qa1, Fam.step, Qaf, Qbf, Qaw, putB, nv, sv, evO, opv, qv, binV, ldV, lenV, putAt, V.cells, Qap, Qb2, Qa2, Qau, Qa0, Qa3, ↓reduceIte, Nat.reduceEqDiff, Nat.reduceAdd, Nat.reduceLeDiff, Qd, Qg, Qq, Qs, Qc, Qe, Qf, Qp, Q5, Qb, Q2, Qo, Qy, Qh, Qk, Qn, Q0, endQ, rvs, rv1, resV, vw_i, Qas, Qd6, Qi, Ql, Qa, decide_false, and_self, Q1, Qr]
theorem eq61 : Qax Try.prog 61 3 := Qax.of (fs := _) (show Try.prog.underlying 61 = some (.struct (Try.prog.fieldsOf 61)) by kernel_rfl) (by kernel_rfl) (by kernel_rfl)
theorem W24 (c : Cane) (h : c.bents.length ≤ 1000000) : Qah Try.prog 24 [.ag (Qa8 c)] (.ag (Qa8 c)) := by
 refine Qag Qik hmix Try.func24 cb24 cc24 cs24 cn24 ?_
 have hfl : Qc0 c.bents.length := by unfold Qc0; omega
 have k1 : Qcu 3 ((c.bents.map eBent).flatten) 0 c.bents.length = c.bents.map eBent := Qgv (e := eBent) (k := 3) (fun _ => rfl) c.bents
 have k2 : ((c.bents.map eBent).flatten).length = c.bents.length * 3 := Qjq (e := eBent) (k := 3) (fun _ => rfl) c.bents
 have k3 : ∀ (hp : List Blk), (c.bents.map eBent).map (fun r => r.map (vw hp 6)) = c.bents.map eBent := fun hp => Qif (e := eBent) hp 6 (fun _ => rfl) c.bents
 simp only [rc24, rs24, Z4, Qy, hfl, k1, k2, k3, Zv, Qaa, Qab, Qac, Qa7, putB, Qad, Qa6, Qa1, Fam.step, Qaf, Qbf, Qaw, putB, nv, sv, Qd5, evO, opv, qv, ldV, curG, Qay, putAt, Qbc, Qbq, V.cells, Qap, Qb2, Qa9, Qa5, Qa2, Qau, Qa0, Qa3, ↓reduceIte, Nat.reduceEqDiff, Nat.reduceAdd, Nat.reduceMul, Nat.reduceLeDiff, Qd, Qg, Qq, Qs, Qc, Qe, Qf, Qp, Q5, Qb, Q2, Qo, Qm, Q3, Qy, Qh, Qk, Qn, Q0, Q7, Q8, endQ, rvs, rv1, resV, vw_i, Qav, Qas, Qhp, zipA, beq_self_eq_true, Qi, Ql, Qj, Qa, and_self, Q1, Qa8]
theorem W29 (l m : List Int) (h : l.length ≤ 1000000) : Qah Try.prog 29 [.sl 1 (l.map eI), .sl 1 (m.map eI)] (.b (decide (l = m))) := by
 refine Qag Qik hmix Try.func29 cb29 cc29 cs29 cn29 ?_
 simp only [rc29, rs29, Qaj, Qaa, Qab, Qae, Qc6, Qak, Qac, Qa7, Qad, Qa6, Qa1, Fam.step, Qaf, evO, opv, qv, binV, lenV, Qa2, Qa0, Qa3, ↓reduceIte, Nat.reduceEqDiff, Qd, Qg, endQ, rvs, rv1, resV, vw_b, zipA, Qi, V.b.injEq, decide_eq_false_iff_not, true_and, and_self, reduceCtorEq, Zn, Q1, Classical.not_not]
 refine ⟨fun h1 => ?_, fun h1 => ?_⟩
 ·have : ¬ l = m := fun e => by rw [e] at h1; omega
  simp only [this, decide_false]
 ·have hlm : l.length = m.length := by omega
  refine Qco l.length (fun i => ⟨lkp [(0, .sl 1 (l.map eI)), (1, .sl 1 (m.map eI)), (5, .i i)], []⟩) (fun i => ∀ j : Nat, j < i → l[j]? = m[j]?) ?_ ?_ ?_ ?_
  ·simp only [Zi, kp, Qa0, Qa3, ↓reduceIte, Nat.reduceEqDiff, Qd, Qg, reduceCtorEq]
  ·intro j hj; omega
  ·intro i hi hc
   obtain ⟨n, hn⟩ : ∃ n, l[i]? = some n := ⟨_, Qz hi⟩
   obtain ⟨n', hn'⟩ : ∃ n, m[i]? = some n := ⟨_, Qz (by omega)⟩
   have hlt : (i : Int) < l.length := by omega
   have hlt' : (i : Int) < m.length := by omega
   have h4 : inI ((i : Int) + 1) := by unfold inI; omega
   simp only [hn, hn', hlt, hlt', h4, Zk, Zl, Qaj, Qaa, Qbl, Qab, Qae, Qc6, Qak, Qac, Qa7, Qb9, Qad, Qat, Qa6, Qa1, Fam.step, Qaf, runX, eff, Qb8, fpR, fpQ, fpV, Qbz, hits, evO, opv, qv, binV, ldV, iadV, lenV, kp, Qa2, Qa0, Qa3, ↓reduceIte, Nat.reduceEqDiff, Nat.reduceLeDiff, Qd, Qg, Qs, Qc, Qe, Qm, Q3, Qy, Qh, Za, Qv, Zm, Q8, Zp, endQ, rvs, rv1, resV, vw_b, Zg, Qi, V.b.injEq, Ql, Qu, Q9, Qj, Qw, Qx, Qa, decide_true, decide_eq_false_iff_not, true_and, and_true, and_self, reduceCtorEq, Q4, Zx, Zo, Zn, Q1, Ze, Qr, Zc, Classical.not_not, eI]
   refine ⟨fun hne => ?_, fun he => ?_⟩
   ·have : ¬ l = m := fun e => by rw [e, hn'] at hn; cases hn; exact hne rfl
    simp only [this, decide_false]
   ·intro j hj
    by_cases hji : j < i
    ·exact hc j hji
    ·have : j = i := by omega
     subst this
     rw [hn, hn', he]
  ·intro hc
   have h77 : ¬ ((l.length : Int) < l.length) := by omega
   have : l = m := List.ext_getElem? fun j => by
    by_cases hj : j < l.length
    ·exact hc j hj
    ·rw [Xf (by omega), Xf (by omega)]
   simp only [this, Qaa, Qab, Qae, Qba, Qac, Qa7, Qad, Qat, Qa6, Qa1, Fam.step, Qaf, evO, opv, qv, binV, lenV, Qa2, Qa0, Qa3, ↓reduceIte, Nat.reduceEqDiff, Qd, Qg, endQ, rvs, rv1, resV, vw_b, Int.lt_irrefl, Qa, decide_true, decide_false, and_self, reduceCtorEq, Q1]
theorem W30 (c : Cane) (h : c.bents.length ≤ 1000000) : Qah Try.prog 30 [.ag (Qa8 c), .ag (Qa8 c)] (.b true) := by
 refine Qag Qik hmix Try.func30 cb30 cc30 cs30 cn30 ?_
 simp only [rc30, rs30, eq23, Qaj, Qaa, Qab, Qae, Qak, Qa7, Qad, Qa6, Qa1, Fam.step, Qaf, Qb4, Qaz, ug, evO, opv, qv, Qai, binV, ldV, lenV, V.cells, Qap, Qbm, Qa9, Qa5, Qa2, Qa0, Qa3, ↓reduceIte, Nat.reduceEqDiff, Nat.reduceAdd, Nat.reduceLeDiff, Qd, Qg, Qq, Qs, Qc, Qe, Qf, Qp, Qb, Q2, Qm, vw_i, Qav, Qas, zipA, beq_self_eq_true, Qi, Ql, Qj, Qw, Qa, decide_true, true_and, and_self, forall_const, implies_true, reduceCtorEq, Q4, Zj, Q1, Qa8]
 refine Qce c.bents.length (fun i => ⟨lkp [(2, .pa (Qa8 c)), (3, .pa (Qa8 c)), (5, .i i)], []⟩) ?_ ?_ ?_
 ·simp only [Zi, kp, Qa0, Qa3, ↓reduceIte, Nat.reduceEqDiff, Qd, Qg, Qa8]
 ·intro i hi
  obtain ⟨b, hb⟩ : ∃ b, c.bents[i]? = some b := ⟨_, Qz hi⟩
  have hlt : (i : Int) < c.bents.length := by omega
  have h4 : inI ((i : Int) + 1) := by unfold inI; omega
  simp only [hb, hlt, h4, eq61, Zk, Zl, Qaj, Qaa, Qbl, Qab, Qae, Qak, Qa7, Qb9, Qad, Qat, Qa6, Qa1, Fam.step, Qaf, runX, eff, Qb8, fpR, fpQ, fpV, Qbz, hits, evO, opv, qv, binV, ldV, iadV, lenV, Qbm, kp, Qa2, Qa0, Qa3, ↓reduceIte, Nat.reduceEqDiff, Nat.reduceAdd, Nat.reduceLeDiff, Qd, Qg, Qs, Qc, Qe, Qf, Qp, Qb, Qo, Qm, Q3, Qy, Qh, Za, Qv, Zm, Q8, Zp, Zg, Qi, Ql, Qu, Q9, Qj, Qw, Qx, Qa, decide_true, and_self, Q4, Zx, Zo, Zj, Q1, Ze, Qr, Zc, eBent, Qa8]
 ·have h77 : ¬ ((c.bents.length : Int) < c.bents.length) := by omega
  simp only [h77, Qaa, Qab, Qae, Qba, Qac, Qa7, Qad, Qat, Qa6, Qa1, Fam.step, Qaf, evO, opv, qv, binV, ldV, lenV, Qa2, Qa0, Qa3, ↓reduceIte, Nat.reduceEqDiff, Nat.reduceAdd, Nat.reduceLeDiff, Qd, Qg, Qc, Qe, Qf, Qp, Qm, endQ, rvs, rv1, resV, vw_b, Qi, Qa, decide_false, and_self, Q1, Qa8]
def farP (c : Cane) : Bool := farB c || (decide (Qby c = 0) && (decide ((3 : Int) < c.limit) && (decide ((14 : Int) < c.limit) || decide (4 * c.tire < c.limit))))
theorem W31 (c : Cane) : Qah Try.prog 31 [.ag (Qa8 c)] (.b (farP c)) := by
 refine Qag Qik hmix Try.func31 cb31 cc31 cs31 cn31 ?_
 have g1 := Qvi c
 have g2 := Qvj c
 unfold Qa8 at g1 g2
 by_cases hf : farB c = true
 ·simp only [rc31, rs31, g1, g2, hf, farP, Qaa, Qab, Qac, Qa7, Qad, Qa6, Qa1, Fam.step, Qaf, Qb4, Qaz, ug, evO, opv, qv, Qai, binV, ldV, Qar, V.cells, Qap, Qa9, Qa5, flat, Qa2, Qa0, Qa3, ↓reduceIte, Nat.reduceEqDiff, Nat.reduceAdd, Nat.reduceLT, Nat.reduceLeDiff, Qd, Qg, Qq, Qs, Qc, Qe, Qf, Qp, Qb, Qo, Qm, Qh, endQ, rvs, rv1, resV, vw_i, vw_b, Qav, Qas, zipA, Qi, Ql, Qu, Q9, Qj, Bool.true_or, Qw, Qa, Qt, decide_eq_true_eq, decide_eq_false_iff_not, true_and, and_true, and_self, false_and, forall_const, implies_true, beq_true, beq_false, Qdi, Qhl, Zt, imp_self, Qa8]
 ·by_cases he : Qby c = 0
  ·have hC := Qdr.1 he
   have ht := hC.tire
   have hi : inI (4 * c.tire) := by unfold inI; omega
   by_cases h3 : (3 : Int) < c.limit <;> by_cases h14 : (14 : Int) < c.limit <;> simp only [rc31, rs31, g1, g2, hf, he, hi, farP, h3, h14, Qaa, Qab, Qac, Qa7, Qad, Qa6, Qa1, Fam.step, Qaf, Qb4, Qaz, ug, evO, opv, qv, Qai, binV, ldV, Qar, V.cells, Qap, Qa9, Qa5, flat, Qa2, Qa0, Qa3, ↓reduceIte, Nat.reduceEqDiff, Nat.reduceAdd, Nat.reduceLT, Nat.reduceLeDiff, Qd, Qg, Qq, Qs, Qc, Qe, Qf, Qp, Qb, Qo, Qm, Qh, endQ, rvs, rv1, resV, vw_i, vw_b, Qav, Qas, zipA, beq_self_eq_true, Qi, Ql, Qu, Xm, Q9, Q6, Qj, Xa, Xe, Bool.true_or, Qw, Qa, Qt, decide_true, decide_false, and_true, and_self, and_false, forall_const, implies_true, beq_true, beq_false, imp_self, Qa8]
  ·simp only [rc31, rs31, g1, g2, hf, he, farP, Qaa, Qab, Qac, Qa7, Qad, Qa6, Qa1, Fam.step, Qaf, Qb4, Qaz, ug, evO, opv, qv, Qai, binV, ldV, Qar, V.cells, Qap, Qa9, Qa5, flat, Qa2, Qa0, Qa3, ↓reduceIte, Nat.reduceEqDiff, Nat.reduceAdd, Nat.reduceLT, Nat.reduceLeDiff, Qd, Qg, Qq, Qs, Qc, Qe, Qf, Qp, Qb, Qo, Qm, Qh, endQ, rvs, rv1, resV, vw_i, vw_b, Qav, Qas, zipA, beq_self_eq_true, Qi, Ql, Qu, Q9, Q6, Qj, Qa, decide_false, decide_eq_true_eq, decide_eq_false_iff_not, true_and, and_true, and_self, false_and, forall_const, implies_true, beq_true, beq_false, Qhl, imp_self, Qa8]
def Qf3 (c : Cane) : Bool := !farP c && decide (Qby c = 0)
noncomputable def H34 : Gam := H33.ext 31 (fnG eC1 dC1 (fun _ => True) farP .b)
theorem Qwk : GOk Try.prog H34 := Qik.ext (f := 31) (fun a w => Try.call31 a w) (Qb6 fun c _ => W31 c)
theorem h31 (c : Cane) : H34 31 [.ag (Qa8 c)] = (True, .b (farP c)) := (show H34 31 _ = fnG eC1 dC1 (fun _ => True) farP .b (eC1 c) from rfl).trans (Qb7 _ (Qi0 _))
theorem Qvk (c : Cane)  : H34 16 [.ag (Qa8 c)] = (True, .i (Qby c)) := h16 c
theorem W22 (c : Cane) : Qah Try.prog 22 [.ag (Qa8 c)] (.b (Qf3 c)) := by
 refine Qag Qwk hmix Try.func22 cb22 cc22 cs22 cn22 ?_
 have g1 := Qvk c
 have g2 := h31 c
 unfold Qa8 at g1 g2
 simp only [rc22, rs22, g1, g2, Qaa, Qab, Qac, Qa7, Qad, Qa6, Qa1, Fam.step, Qaf, Qb4, Qaz, ug, evO, opv, qv, Qai, binV, ldV, Qar, V.cells, Qap, Qa9, Qa5, flat, Qa2, Qa0, Qa3, ↓reduceIte, Nat.reduceEqDiff, Nat.reduceAdd, Nat.reduceLT, Nat.reduceLeDiff, Qd, Qg, Qq, Qs, Qc, Qe, Qb, Qo, Qh, endQ, rvs, rv1, resV, vw_i, vw_b, Qav, Qas, zipA, Qi, V.b.injEq, Ql, Qu, Qj, Qa, true_and, and_true, and_self, implies_true, beq_true, Xo, Zn, Qdi, Bool.decide_eq_false, imp_self, Qa8]
 by_cases hf : farP c = true <;> simp [hf, Qf3]
theorem W23 (w : Span) : Qah Try.prog 23 [.ag (Qan w)] (.b (Qb5 w 540)) := by
 refine Qag Qik hmix Try.func23 cb23 cc23 cs23 cn23 ?_
 simp only [rc23, rs23, Qaa, Qab, Qac, Qa7, Qad, Qa6, Qa1, Fam.step, Qaf, Qb4, Qaz, ug, evO, opv, qv, Qai, binV, ldV, V.cells, Qap, Qa9, Qa5, Qa2, Qa0, Qa3, ↓reduceIte, Nat.reduceEqDiff, Nat.reduceAdd, Nat.reduceLeDiff, Qd, Qg, Qq, Qs, Qc, Qe, Qf, Qp, Qm, endQ, rvs, rv1, resV, vw_i, vw_b, Qas, zipA, Qi, V.b.injEq, Ql, Qu, Qj, Qa, decide_eq_true_eq, decide_eq_false_iff_not, true_and, and_true, and_self, implies_true, beq_true, Qdi, Zt, imp_self, Qan]
 by_cases h : 0 ≤ w.low <;> by_cases h2 : w.low ≤ w.high <;> simp [h, h2, Qb5, Qal]
theorem W36 (w : Span) (n : Int) : Qah Try.prog 36 [.ag (Qan w), .i n] (.b (Qal n w.low w.high)) := by
 refine Qag Qik hmix Try.func36 cb36 cc36 cs36 cn36 ?_
 simp only [rc36, rs36, Qaa, Qab, Qac, Qa7, Qad, Qa6, Qa1, Fam.step, Qaf, Qb4, Qaz, ug, evO, opv, qv, Qai, binV, ldV, V.cells, Qap, Qa9, Qa5, Qa2, Qa0, Qa3, ↓reduceIte, Nat.reduceEqDiff, Nat.reduceAdd, Nat.reduceLeDiff, Qd, Qg, Qq, Qs, Qc, Qe, Qf, Qp, Qm, endQ, rvs, rv1, resV, vw_i, vw_b, Qas, zipA, Qi, V.b.injEq, Ql, Qu, Qj, Qa, decide_eq_true_eq, decide_eq_false_iff_not, true_and, and_true, and_self, implies_true, reduceCtorEq, beq_true, Qdi, imp_self, Qan]
 by_cases h : w.low ≤ n <;> simp [h, Qal]
def Qnm (a b : Span) : Bool := decide (a.low ≤ b.low) && decide (b.high ≤ a.high)
theorem W45 (a b : Span) : Qah Try.prog 45 [.ag (Qan a), .ag (Qan b)] (.b (Qnm a b)) := by
 refine Qag Qik hmix Try.func45 cb45 cc45 cs45 cn45 ?_
 simp only [rc45, rs45, Qaa, Qab, Qac, Qa7, Qad, Qa6, Qa1, Fam.step, Qaf, Qb4, Qaz, ug, evO, opv, qv, Qai, binV, ldV, V.cells, Qap, Qa9, Qa5, Qa2, Qa0, Qa3, ↓reduceIte, Nat.reduceEqDiff, Nat.reduceAdd, Nat.reduceLeDiff, Qd, Qg, Qq, Qs, Qc, Qe, Qf, Qp, Qm, endQ, rvs, rv1, resV, vw_i, vw_b, Qas, zipA, Qi, V.b.injEq, Ql, Qu, Qj, Qa, decide_eq_true_eq, decide_eq_false_iff_not, true_and, and_true, and_self, implies_true, reduceCtorEq, beq_true, Qdi, imp_self, Qan]
 by_cases h : a.low ≤ b.low <;> simp [h, Qnm]
theorem W44 (l : List Int) (n : Int) (h : l.length ≤ 1000000) : Qah Try.prog 44 [.sl 1 (l.map eI), .i n] (.b (decide (n ∈ l))) := by
 refine Qag Qik hmix Try.func44 cb44 cc44 cs44 cn44 ?_
 simp only [rc44, rs44, Qaa, Qab, Qak, Qa7, Qad, Qa6, Qa1, Fam.step, Qaf, evO, opv, qv, Qa2, Qa0, Qa3, ↓reduceIte, Nat.reduceEqDiff, Qd, Qg, zipA, Qi, true_and, reduceCtorEq]
 refine Qco l.length (fun i => ⟨lkp [(0, .sl 1 (l.map eI)), (1, .i n), (5, .i i)], []⟩) (fun i => ∀ j : Nat, j < i → ¬ l[j]? = some n) ?_ ?_ ?_ ?_
 ·simp only [Zi, kp, Qa0, Qa3, ↓reduceIte, Nat.reduceEqDiff, Qd, Qg, reduceCtorEq]
 ·intro j hj; omega
 ·intro i hi hc
  obtain ⟨x, hx⟩ : ∃ n, l[i]? = some n := ⟨_, Qz hi⟩
  have hlt : (i : Int) < l.length := by omega
  have h4 : inI ((i : Int) + 1) := by unfold inI; omega
  simp only [hx, hlt, h4, Zk, Zl, Qaj, Qaa, Qab, Qae, Qc6, Qak, Qac, Qa7, Qad, Qat, Qa6, Qa1, Fam.step, Qaf, evO, opv, qv, binV, ldV, iadV, lenV, kp, Qa2, Qa0, Qa3, ↓reduceIte, Nat.reduceEqDiff, Nat.reduceLeDiff, Qd, Qg, Qc, Qe, Qm, Qv, endQ, rvs, rv1, resV, vw_b, Zg, Qi, V.b.injEq, Qa, decide_true, decide_eq_true_eq, true_and, and_true, and_self, reduceCtorEq, Q4, Q1, Ze, Qr, Zc, eI]
  refine ⟨fun he => ?_, fun he => ?_⟩
  ·have : n ∈ l := by rw [← he]; exact Zd hx
   simp only [this, decide_true]
  ·intro j hj
   by_cases hji : j < i
   ·exact hc j hji
   ·have : j = i := by omega
    subst this
    rw [hx]
    simpa using he
 ·intro hc
  have h77 : ¬ ((l.length : Int) < l.length) := by omega
  have : ¬ n ∈ l := fun hn => by
   obtain ⟨j, hj⟩ := Xk hn
   exact hc j (Qam hj) hj
  simp only [h77, this, Qaa, Qab, Qae, Qba, Qac, Qa7, Qad, Qat, Qa6, Qa1, Fam.step, Qaf, evO, opv, qv, binV, lenV, Qa2, Qa0, Qa3, ↓reduceIte, Nat.reduceEqDiff, Qd, Qg, endQ, rvs, rv1, resV, vw_b, Qa, decide_false, and_self, reduceCtorEq, Q1]
end Go.C06
set_option maxRecDepth 8000
namespace Go.C06
open Go.Fam Go.Proofs
def rc3 : RC := (.seq (.reg false [(cX 2 0), (cQ 4 [] (.mv (kB false)))]) (.keep [1,2] (.seq (.seq (.reg true [(cLd 13 2 true 6), (cQ 14 [13] (.call (kF 15) [(.t 13)])), (cMv 15 14), (gQ 16 15 false [2] (.ld true 6 (.t 2))), (gQ 17 15 false [16] (.call (kF 16) [(.t 16)])), (gQ 18 15 false [17] (.bin .neq (.t 17) (kI 0))), (cQ 19 [15,18] (.pick (.t 15) (kB true) (.t 18))), (cMv 20 19), (gQ 21 20 false [2] (.ld true 6 (.t 2))), (gMv 22 20 false 1), (gQ 23 20 false [21,22] (.call (kF 17) [(.t 21), (.t 22)])), (gQ 24 20 false [23] (.not (.t 23))), (cQ 25 [20,24] (.pick (.t 20) (kB true) (.t 24)))]) (.keep [1,2,25] (.cond (.t 25) (.seq (.reg false [(cQ 26 [] (.call (kF 18) [])), (cMv 4 26)]) .ret) .skip))) (.keep [1,2] (.seq (.reg false [(cLd 28 2 true 6), (cQ 29 [28] (.call (kF 19) [(.t 28)])), (cMv 27 29), (cEx 30 27 0), (cEx 31 27 1), (cMv 5 30), (cMv 6 31)]) (.keep [1,2,5,6] (.seq (.reg false [(cLd 33 2 true 6), (cMv 34 1), (cQ 35 [33,34] (.call (kF 20) [(.t 33), (.t 34)])), (cMv 32 35), (cEx 36 32 0), (cEx 37 32 1), ⟨(some 7), none, [], none, .w (.alc [(.i 0), (.i 0)])⟩, ⟨none, none, [7,36], none, .w (.st 2 (.t 7) (.t 36))⟩, (cMv 8 37)]) (.keep [1,2,5,6,7,8] (.seq (.seq (.reg true [(cMv 38 6), (cMv 39 8), (cB 40 .neq 38 39), (cMv 41 40), (gMv 42 41 false 6), (gQ 43 41 false [42] (.bin .neq (.t 42) (kI 0))), (gMv 44 41 false 43), (gMv 45 44 true 6), (gQ 46 44 true [45] (.bin .neq (.t 45) (kI 3))), (gQ 47 41 false [44,46] (.pick (.t 44) (.t 46) (kB false))), (cQ 48 [41,47] (.pick (.t 41) (kB true) (.t 47)))]) (.keep [1,2,5,6,7,48] (.cond (.t 48) (.seq (.reg false [(cQ 4 [] (.mv (kB false)))]) .ret) .skip))) (.keep [1,2,5,6,7] (.seq (.seq (.reg false [(cMv 49 6), (cC 50 .neq 49 0)]) (.keep [1,2,5,7,50] (.cond (.t 50) (.seq (.reg false [(cQ 51 [] (.call (kF 18) [])), (cMv 4 51)]) .ret) .skip))) (.keep [1,2,5,7] (.seq (.seq (.any true 0 [⟨(cMv 52 5), [], []⟩, ⟨(cLn 53 52), [], [0]⟩, ⟨(cC 54 .eql 53 0), [], [1,0]⟩, ⟨(cMv 55 54), [], [2,1,0]⟩, ⟨(gQ 56 55 false [7] (.fad 0 (.t 7))), [], [3,2,1,0]⟩, ⟨(gQ 57 55 false [56] (.ld false 1 (.t 56))), [], [4,3,2,1,0]⟩, ⟨(gMv 58 55 false 1), [], [3,2,1,0]⟩, ⟨(gMv 59 55 false 5), [], [3,2,1,0]⟩, ⟨(gMv 60 55 false 5), [], [3,2,1,0]⟩, ⟨(gQ 61 55 false [60] (.len (.t 60))), [], [8,3,2,1,0]⟩, ⟨(gQ 62 55 false [61] (.bin .sub (.t 61) (kI 1))), [], [9,8,3,2,1,0]⟩, ⟨(gQ 63 55 false [59,62] (.iad 1 (.t 59) (.t 62))), [], [7,3,2,1,0,10,9,8]⟩, ⟨(gQ 64 55 false [63] (.ld false 1 (.t 63))), [], [11,7,3,2,1,0,10,9,8]⟩, ⟨(gQ 65 55 false [58,64] (.call (kF 21) [(.t 58), (.t 64)])), [], [6,3,2,1,0,12,11,7,10,9,8]⟩, ⟨(gQ 66 55 false [57,65] (.bin .neq (.t 57) (.t 65))), [], [5,4,3,2,1,0,13,6,12,11,7,10,9,8]⟩, ⟨(cQ 67 [55,66] (.pick (.t 55) (kB true) (.t 66))), [], [3,2,1,0,14,5,4,13,6,12,11,7,10,9,8]⟩, ⟨(cMv 68 67), [], [15,3,2,1,0,14,5,4,13,6,12,11,7,10,9,8]⟩, ⟨(gQ 69 68 false [7] (.fad 1 (.t 7))), [], [16,15,3,2,1,0,14,5,4,13,6,12,11,7,10,9,8]⟩, ⟨(gQ 70 68 false [69] (.ld false 1 (.t 69))), [], [17,16,15,3,2,1,0,14,5,4,13,6,12,11,7,10,9,8]⟩, ⟨(gMv 71 68 false 1), [], [16,15,3,2,1,0,14,5,4,13,6,12,11,7,10,9,8]⟩, ⟨(gMv 72 68 false 5), [], [16,15,3,2,1,0,14,5,4,13,6,12,11,7,10,9,8]⟩, ⟨(gQ 73 68 false [72] (.iad 1 (.t 72) (kI 0))), [], [20,16,15,3,2,1,0,14,5,4,13,6,12,11,7,10,9,8]⟩, ⟨(gQ 74 68 false [73] (.ld false 1 (.t 73))), [], [21,20,16,15,3,2,1,0,14,5,4,13,6,12,11,7,10,9,8]⟩, ⟨(gQ 75 68 false [71,74] (.call (kF 21) [(.t 71), (.t 74)])), [], [19,16,15,3,2,1,0,14,5,4,13,6,12,11,7,10,9,8,22,21,20]⟩, ⟨(gQ 76 68 false [70,75] (.bin .neq (.t 70) (.t 75))), [], [18,17,16,15,3,2,1,0,14,5,4,13,6,12,11,7,10,9,8,23,19,22,21,20]⟩, ⟨(cQ 77 [68,76] (.pick (.t 68) (kB true) (.t 76))), [], [16,15,3,2,1,0,14,5,4,13,6,12,11,7,10,9,8,24,18,17,23,19,22,21,20]⟩]) (.keep [1,2,7,77] (.cond (.t 77) (.seq (.reg false [(cQ 4 [] (.mv (kB false)))]) .ret) .skip))) (.keep [1,2,7] (.seq (.reg false [(cQ 9 [] (.mv (.k (.z 1))))]) (.keep [1,2,7,9] (.seq (.seq (.reg false [(cMv 78 1), (cLn 79 78), (cC 80 .sub 79 1), (cMv 10 80)]) (.keep [1,2,7,9,10] (.block 0 (.own 9 1 (.loop [1,2,7,9,10] none (.seq (.seq (.reg false [(cMv 81 10), (cC 82 .geq 81 0)]) (.keep [1,2,7,9,10,82] (.cond (.t 82) .skip (.exit 0)))) (.keep [1,2,7,9,10] (.seq (.block 1 (.reg false [(cMv 85 9), (cMv 86 1), (cMv 87 10), (cA 88 1 86 87), (cLd 89 88 false 1), (cQ 90 [89] (.bsl 1 1 [(.i 0)] [(0,1, (.t 89))])), ⟨(some 91), none, [85,90], none, .w (.app 1 (.t 85) (.t 90))⟩, (cMv 9 91)])) (.keep [1,2,7,9,10] (.reg false [(cMv 83 10), (cC 84 .sub 83 1), (cMv 10 84)])))))))))) (.keep [2,7,9] (.seq (.seq (.reg false [(cLd 92 2 true 6), (cMv 93 9), (cQ 94 [92,93] (.call (kF 17) [(.t 92), (.t 93)])), (cN 95 94)]) (.keep [2,7,9,95] (.cond (.t 95) (.seq (.reg false [(cQ 96 [] (.call (kF 18) [])), (cMv 4 96)]) .ret) .skip))) (.keep [2,7,9] (.seq (.reg false [(cLd 98 2 true 6), (cMv 99 9), (cQ 100 [98,99] (.call (kF 20) [(.t 98), (.t 99)])), (cMv 97 100), (cEx 101 97 0), (cEx 102 97 1), ⟨(some 11), none, [], none, .w (.alc [(.i 0), (.i 0)])⟩, ⟨none, none, [11,101], none, .w (.st 2 (.t 11) (.t 101))⟩, (cMv 12 102)]) (.keep [7,11,12] (.seq (.reg true [(cMv 103 12), (cC 104 .eql 103 0), (cMv 105 104), (gQ 106 105 true [11] (.ld true 2 (.t 11))), (gQ 107 105 true [7] (.ld true 2 (.t 7))), (gQ 108 105 true [106,107] (.eqs false 23 (.t 106) (.t 107))), (cQ 109 [105,108] (.pick (.t 105) (.t 108) (kB false))), (cMv 110 109), (gQ 111 110 true [] (.call (kF 18) [])), (cQ 112 [110,111] (.pick (.t 110) (.t 111) (kB false))), (cMv 4 112)]) .ret)))))))))))))))))))))))
def pu3 : List Nat := [2,90]
def rs3 : List RV := [.t 4]
theorem cc3 : CCx Try.prog Try.f3 pu3 rc3 := by unfold CCx; kernel_rfl
theorem cb3 : CBx Try.f3 := by unfold CBx; kernel_rfl
theorem cs3 : CSx Try.prog Try.f3 rs3 := by unfold CSx; kernel_rfl
theorem cn3 : 2 ≤ Try.f3.ntmps := by decide
def rc5 : RC := (.seq (.reg false [(cX 1 0), (cQ 2 [] (.mv (kB false)))]) (.keep [1] (.seq (.seq (.reg false [(cLd 8 1 true 6), (cQ 9 [8] (.call (kF 15) [(.t 8)]))]) (.keep [1,9] (.cond (.t 9) (.seq (.reg false [(cQ 10 [] (.call (kF 18) [])), (cMv 2 10)]) .ret) .skip))) (.keep [1] (.seq (.reg false [(cLd 11 1 true 6), (cQ 12 [11] (.call (kF 24) [(.t 11)])), ⟨(some 3), none, [], none, .w (.alc [(.i 0), (.i 0), (.z 3), (.i 0), (.i 0), (.i 0)])⟩, ⟨none, none, [3,12], none, .w (.st 6 (.t 3) (.t 12))⟩]) (.keep [1,3] (.seq (.reg false [(cLd 14 3 true 6), (cQ 15 [14] (.call (kF 19) [(.t 14)])), (cMv 13 15), (cEx 16 13 0), (cEx 17 13 1), (cMv 4 16), (cMv 5 17)]) (.keep [1,3,4,5] (.seq (.reg false [(cLd 19 1 true 6), (cQ 20 [19] (.call (kF 27) [(.t 19)])), (cMv 18 20), (cEx 21 18 0), (cEx 22 18 1), (cMv 6 21), (cMv 7 22)]) (.keep [1,3,4,5,6,7] (.seq (.any true 0 [⟨(cLd 23 3 true 6), [], []⟩, ⟨(cQ 24 [23] (.call (kF 28) [(.t 23)])), [], [0]⟩, ⟨(cLd 25 1 true 6), [], []⟩, ⟨(cQ 26 [25] (.call (kF 16) [(.t 25)])), [], [2,1,0]⟩, ⟨(cB 27 .eql 24 26), [], [1,0,3,2]⟩, ⟨(cMv 28 27), [], [4,1,0,3,2]⟩, ⟨(gMv 29 28 true 4), [], [5,4,1,0,3,2]⟩, ⟨(gMv 30 28 true 6), [], [5,4,1,0,3,2]⟩, ⟨(gQ 31 28 true [29,30] (.call (kF 29) [(.t 29), (.t 30)])), [], [6,5,4,1,0,3,2,7]⟩, ⟨(cQ 32 [28,31] (.pick (.t 28) (.t 31) (kB false))), [], [5,4,1,0,3,2,8,6,7]⟩, ⟨(cMv 33 32), [], [9,5,4,1,0,3,2,8,6,7]⟩, ⟨(gMv 34 33 true 5), [], [10,9,5,4,1,0,3,2,8,6,7]⟩, ⟨(gMv 35 33 true 7), [], [10,9,5,4,1,0,3,2,8,6,7]⟩, ⟨(gQ 36 33 true [34,35] (.bin .eql (.t 34) (.t 35))), [], [11,10,9,5,4,1,0,3,2,8,6,7,12]⟩, ⟨(cQ 37 [33,36] (.pick (.t 33) (.t 36) (kB false))), [], [10,9,5,4,1,0,3,2,8,6,7,13,11,12]⟩, ⟨(cMv 38 37), [], [14,10,9,5,4,1,0,3,2,8,6,7,13,11,12]⟩, ⟨(gQ 39 38 true [3] (.ld true 6 (.t 3))), [], [15,14,10,9,5,4,1,0,3,2,8,6,7,13,11,12]⟩, ⟨(gQ 40 38 true [1] (.ld true 6 (.t 1))), [], [15,14,10,9,5,4,1,0,3,2,8,6,7,13,11,12]⟩, ⟨(gQ 41 38 true [39,40] (.call (kF 30) [(.t 39), (.t 40)])), [], [16,15,14,10,9,5,4,1,0,3,2,8,6,7,13,11,12,17]⟩, ⟨(cQ 42 [38,41] (.pick (.t 38) (.t 41) (kB false))), [], [15,14,10,9,5,4,1,0,3,2,8,6,7,13,11,12,18,16,17]⟩, ⟨(cMv 43 42), [], [19,15,14,10,9,5,4,1,0,3,2,8,6,7,13,11,12,18,16,17]⟩, ⟨(gQ 44 43 true [] (.call (kF 18) [])), [], [20,19,15,14,10,9,5,4,1,0,3,2,8,6,7,13,11,12,18,16,17]⟩, ⟨(cQ 45 [43,44] (.pick (.t 43) (.t 44) (kB false))), [], [20,19,15,14,10,9,5,4,1,0,3,2,8,6,7,13,11,12,18,16,17,21]⟩, ⟨(cMv 2 45), [], [22,20,19,15,14,10,9,5,4,1,0,3,2,8,6,7,13,11,12,18,16,17,21]⟩]) .ret)))))))))))
def pu5 : List Nat := [1]
def rs5 : List RV := [.t 2]
theorem cc5 : CCx Try.prog Try.f5 pu5 rc5 := by unfold CCx; kernel_rfl
theorem cb5 : CBx Try.f5 := by unfold CBx; kernel_rfl
theorem cs5 : CSx Try.prog Try.f5 rs5 := by unfold CSx; kernel_rfl
theorem cn5 : 1 ≤ Try.f5.ntmps := by decide
def rc12 : RC := (.seq (.reg false [(cX 3 0), (cX 5 2), (cQ 6 [] (.mv (kB false)))]) (.keep [1,3,5] (.seq (.seq (.reg true [(cLd 17 3 true 6), (cQ 18 [17] (.call (kF 15) [(.t 17)])), (cMv 19 18), (gMv 20 19 false 1), (gQ 21 19 false [20] (.len (.t 20))), (gQ 22 19 false [21] (.bin .gtr (.t 21) (kI 60))), (cQ 23 [19,22] (.pick (.t 19) (kB true) (.t 22)))]) (.keep [1,3,5,23] (.cond (.t 23) (.seq (.reg false [(cQ 24 [] (.call (kF 18) [])), (cMv 6 24)]) .ret) .skip))) (.keep [1,3,5] (.seq (.reg false [(cLd 25 3 true 6), (cQ 26 [25] (.call (kF 24) [(.t 25)])), ⟨(some 7), none, [], none, .w (.alc [(.i 0), (.i 0), (.z 3), (.i 0), (.i 0), (.i 0)])⟩, ⟨none, none, [7,26], none, .w (.st 6 (.t 7) (.t 26))⟩]) (.keep [1,3,5,7] (.seq (.reg false [⟨(some 27), none, [], none, .w (.bso 1 0 [(.i 0)] [])⟩, (cMv 28 1), ⟨(some 29), none, [27,28], none, .w (.app 1 (.t 27) (.t 28))⟩, (cMv 8 29)]) (.keep [1,3,5,7,8] (.seq (.reg false [(cLd 31 7 true 6), (cMv 32 8), (cQ 33 [31,32] (.call (kF 20) [(.t 31), (.t 32)])), (cMv 30 33), (cEx 34 30 0), (cEx 35 30 1), ⟨(some 9), none, [], none, .w (.alc [(.i 0), (.i 0)])⟩, ⟨none, none, [9,34], none, .w (.st 2 (.t 9) (.t 34))⟩, (cMv 10 35)]) (.keep [1,3,5,7,8,9,10] (.seq (.reg false [(cLd 37 3 true 6), (cMv 38 1), (cQ 39 [37,38] (.call (kF 46) [(.t 37), (.t 38)])), (cMv 36 39), (cEx 40 36 0), (cEx 41 36 1), ⟨(some 11), none, [], none, .w (.alc [(.i 0), (.i 0)])⟩, ⟨none, none, [11,40], none, .w (.st 2 (.t 11) (.t 40))⟩, (cMv 12 41)]) (.keep [1,3,5,7,8,9,10,11,12] (.seq (.reg false [(cLd 43 7 true 6), (cMv 44 8), (cLd 45 5 true 2), (cQ 46 [43,44,45] (.call (kF 43) [(.t 43), (.t 44), (.t 45)])), (cMv 42 46), (cEx 47 42 0), (cEx 48 42 1), (cMv 13 47), (cMv 14 48)]) (.keep [1,3,5,7,8,9,10,11,12,13,14] (.seq (.reg false [(cLd 50 3 true 6), (cMv 51 1), (cLd 52 5 true 2), (cQ 53 [50,51,52] (.call (kF 40) [(.t 50), (.t 51), (.t 52)])), (cMv 49 53), (cEx 54 49 0), (cEx 55 49 1), (cMv 15 54), (cMv 16 55)]) (.keep [1,3,7,8,9,10,11,12,13,14,15,16] (.seq (.reg true [(cLd 56 9 true 2), (cLd 57 11 true 2), (cQ 58 [56,57] (.eqs false 23 (.t 56) (.t 57))), (cMv 59 58), (gMv 60 59 true 10), (gMv 61 59 true 12), (gQ 62 59 true [60,61] (.bin .eql (.t 60) (.t 61))), (cQ 63 [59,62] (.pick (.t 59) (.t 62) (kB false))), (cMv 64 63), (gMv 65 64 true 13), (gMv 66 64 true 15), (gQ 67 64 true [65,66] (.bin .eql (.t 65) (.t 66))), (cQ 68 [64,67] (.pick (.t 64) (.t 67) (kB false))), (cMv 69 68), (gMv 70 69 true 14), (gMv 71 69 true 16), (gQ 72 69 true [70,71] (.bin .eql (.t 70) (.t 71))), (cQ 73 [69,72] (.pick (.t 69) (.t 72) (kB false))), (cMv 74 73), (gQ 75 74 true [7] (.ld true 6 (.t 7))), (gQ 76 74 true [3] (.ld true 6 (.t 3))), (gQ 77 74 true [75,76] (.call (kF 30) [(.t 75), (.t 76)])), (cQ 78 [74,77] (.pick (.t 74) (.t 77) (kB false))), (cMv 79 78), (gMv 80 79 true 8), (gMv 81 79 true 1), (gQ 82 79 true [80,81] (.call (kF 29) [(.t 80), (.t 81)])), (cQ 83 [79,82] (.pick (.t 79) (.t 82) (kB false))), (cMv 84 83), (gQ 85 84 true [] (.call (kF 18) [])), (cQ 86 [84,85] (.pick (.t 84) (.t 85) (kB false))), (cMv 6 86)]) .ret)))))))))))))))))
def pu12 : List Nat := [3,5]
def rs12 : List RV := [.t 6]
theorem cc12 : CCx Try.prog Try.f12 pu12 rc12 := by unfold CCx; kernel_rfl
theorem cb12 : CBx Try.f12 := by unfold CBx; kernel_rfl
theorem cs12 : CSx Try.prog Try.f12 rs12 := by unfold CSx; kernel_rfl
theorem cn12 : 3 ≤ Try.f12.ntmps := by decide
end Go.C06
set_option linter.unusedSimpArgs false
set_option linter.unusedVariables false
namespace Go.C06
open Go.Fam Go.Proofs
def fewB (c : Cane) : Prop := c.bents.length ≤ 1000000
def eCC (a : Cane × Cane) : List V := [.ag (Qa8 a.1), .ag (Qa8 a.2)]
def dCC : List V → Cane × Cane | [.ag s, .ag n] => (Qcm s, Qcm n) | _ => (Qcm [], Qcm [])
theorem Qxg (a : Cane × Cane) : dCC (eCC a) = a := by obtain ⟨s, n⟩ := a; simp [dCC, eCC, Qd9]
def eLL (a : List Int × List Int) : List V := [.sl 1 (a.1.map eI), .sl 1 (a.2.map eI)]
def dLL : List V → List Int × List Int | [.sl _ l, .sl _ m] => (l.map dI, m.map dI) | _ => ([], [])
theorem Qxi (a : List Int × List Int) : dLL (eLL a) = a := by obtain ⟨k, l⟩ := a; simp [dLL, eLL, Function.comp_def, Qi1]
def eWW (a : Span × Span) : List V := [.ag (Qan a.1), .ag (Qan a.2)]
def dWW : List V → Span × Span | [.ag s, .ag n] => (Qep s, Qep n) | _ => (Qep [], Qep [])
noncomputable def K1 : Gam := (((H34.ext 24 (fnG eC1 dC1 fewB (fun c => c) fun c => .ag (Qa8 c))).ext 29 (fnG eLL dLL (fun a => a.1.length ≤ 1000000) (fun a => decide (a.1 = a.2)) .b)).ext 30 (fnG eCC dCC (fun a => a.1 = a.2 ∧ fewB a.1) (fun _ => true) .b)).ext 27 (fnG eC1 dC1 (fun _ => True) (fun c => (stL c ⟨0, 0⟩ [], stE c ⟨0, 0⟩ [])) fun r => .tp [.sl 1 (r.1.map eI), .i r.2])
theorem okK1 : GOk Try.prog K1 := by
 have k1 := Qwk.ext (f := 24) (fun a w => Try.call24 a w) (Qb6 (e := eC1) (d := dC1) (ok := fewB) (g := fun c => c) (eb := fun c => .ag (Qa8 c)) fun c h => W24 c h)
 have k2 := k1.ext (f := 29) (fun a w => Try.call29 a w) (Qb6 (e := eLL) (d := dLL) (ok := fun a => a.1.length ≤ 1000000) (g := fun a => decide (a.1 = a.2)) (eb := .b) fun a h => W29 a.1 a.2 h)
 have k3 := k2.ext (f := 30) (fun a w => Try.call30 a w) (Qb6 (e := eCC) (d := dCC) (ok := fun a => a.1 = a.2 ∧ fewB a.1) (g := fun _ => true) (eb := .b) fun a h => by
  obtain ⟨c, d⟩ := a
  obtain ⟨h1, h2⟩ := h
  simp only at h1 h2
  subst h1
  exact W30 c h2)
 exact k3.ext (f := 27) (fun a w => Try.call27 a w) (Qb6 (e := eC1) (d := dC1) (ok := fun _ => True) (g := fun c => (stL c ⟨0, 0⟩ [], stE c ⟨0, 0⟩ [])) (eb := fun r => .tp [.sl 1 (r.1.map eI), .i r.2]) fun a _ => W27 a)
theorem k24 (c : Cane) : K1 24 [.ag (Qa8 c)] = (fewB c, .ag (Qa8 c)) := (show K1 24 _ = fnG eC1 dC1 fewB (fun c => c) (fun c => .ag (Qa8 c)) (eC1 c) from rfl).trans (Qb7 _ (Qi0 _))
theorem k29 (l m : List Int) : K1 29 [.sl 1 (l.map eI), .sl 1 (m.map eI)] = (l.length ≤ 1000000, .b (decide (l = m))) :=
 (show K1 29 _ = fnG eLL dLL (fun a => a.1.length ≤ 1000000) (fun a => decide (a.1 = a.2)) .b (eLL (l, m)) from rfl).trans (Qb7 _ (Qxi _))
theorem k30 (c : Cane) : K1 30 [.ag (Qa8 c), .ag (Qa8 c)] = (c = c ∧ fewB c, .b true) :=
 (show K1 30 _ = fnG eCC dCC (fun a => a.1 = a.2 ∧ fewB a.1) (fun _ => true) .b (eCC (c, c)) from rfl).trans (Qb7 _ (Qxg _))
theorem k27 (c : Cane) : K1 27 [.ag (Qa8 c)] = (True, .tp [.sl 1 ((stL c ⟨0, 0⟩ []).map eI), .i (stE c ⟨0, 0⟩ [])]) :=
 (show K1 27 _ = fnG eC1 dC1 (fun _ => True) (fun c => (stL c ⟨0, 0⟩ [], stE c ⟨0, 0⟩ [])) (fun r => .tp [.sl 1 (r.1.map eI), .i r.2]) (eC1 c) from rfl).trans (Qb7 _ (Qi0 _))
noncomputable def K2 : Gam := ((((((K1.ext 40 (fnG eCLS dCLS (fun _ => True) (fun a => Qc8 a.1 a.2.1 a.2.2) fun r => .tp [.i r.1, .i r.2])).ext 46 (fnG eCL dCL (fun _ => True) (fun a => Qbk a.1 a.2) fun r => .tp [.ag (Qan r.1), .i r.2])).ext 22 (fnG eC1 dC1 (fun _ => True) Qf3 .b)).ext 23 (fnG eW1 dW1 (fun _ => True) (fun w => Qb5 w 540) .b)).ext 36 (fnG eSI dSI (fun _ => True) (fun a => Qal a.2 a.1.low a.1.high) .b)).ext 45 (fnG eWW dWW (fun _ => True) (fun a => Qnm a.1 a.2) .b)).ext 44 (fnG eLI dLI (fun a => a.1.length ≤ 1000000) (fun a => decide (a.2 ∈ a.1)) .b)
theorem okK2 : GOk Try.prog K2 := by
 have k1 := okK1.ext (f := 40) (fun a w => Try.call40 a w) (Qb6 (e := eCLS) (d := dCLS) (ok := fun _ => True) (g := fun a => Qc8 a.1 a.2.1 a.2.2) (eb := fun r => .tp [.i r.1, .i r.2]) fun a _ => W40 a.1 a.2.1 a.2.2)
 have k2 := k1.ext (f := 46) (fun a w => Try.call46 a w) (Qb6 (e := eCL) (d := dCL) (ok := fun _ => True) (g := fun a => Qbk a.1 a.2) (eb := fun r => .tp [.ag (Qan r.1), .i r.2]) fun a _ => W46 a.1 a.2)
 have k3 := k2.ext (f := 22) (fun a w => Try.call22 a w) (Qb6 (e := eC1) (d := dC1) (ok := fun _ => True) (g := Qf3) (eb := .b) fun a _ => W22 a)
 have k4 := k3.ext (f := 23) (fun a w => Try.call23 a w) (Qb6 (e := eW1) (d := dW1) (ok := fun _ => True) (g := fun w => Qb5 w 540) (eb := .b) fun a _ => W23 a)
 have k5 := k4.ext (f := 36) (fun a w => Try.call36 a w) (Qb6 (e := eSI) (d := dSI) (ok := fun _ => True) (g := fun a => Qal a.2 a.1.low a.1.high) (eb := .b) fun a _ => W36 a.1 a.2)
 have k6 := k5.ext (f := 45) (fun a w => Try.call45 a w) (Qb6 (e := eWW) (d := dWW) (ok := fun _ => True) (g := fun a => Qnm a.1 a.2) (eb := .b) fun a _ => W45 a.1 a.2)
 exact k6.ext (f := 44) (fun a w => Try.call44 a w) (Qb6 (e := eLI) (d := dLI) (ok := fun a => a.1.length ≤ 1000000) (g := fun a => decide (a.2 ∈ a.1)) (eb := .b) fun a h => W44 a.1 a.2 h)
theorem k40 (c : Cane) (l : List Int) (w : Span) : K2 40 [.ag (Qa8 c), .sl 1 (l.map eI), .ag (Qan w)] = (True, .tp [.i (Qc8 c l w).1, .i (Qc8 c l w).2]) :=
 (show K2 40 _ = fnG eCLS dCLS (fun _ => True) (fun a => Qc8 a.1 a.2.1 a.2.2) (fun r => .tp [.i r.1, .i r.2]) (eCLS (c, l, w)) from rfl).trans (Qb7 _ (Qp1 _))
theorem k46 (c : Cane) (l : List Int) : K2 46 [.ag (Qa8 c), .sl 1 (l.map eI)] = (True, .tp [.ag (Qan (Qbk c l).1), .i (Qbk c l).2]) :=
 (show K2 46 _ = fnG eCL dCL (fun _ => True) (fun a => Qbk a.1 a.2) (fun r => .tp [.ag (Qan r.1), .i r.2]) (eCL (c, l)) from rfl).trans (Qb7 _ (Qtf _))
theorem k22 (c : Cane) : K2 22 [.ag (Qa8 c)] = (True, .b (Qf3 c)) := (show K2 22 _ = fnG eC1 dC1 (fun _ => True) Qf3 .b (eC1 c) from rfl).trans (Qb7 _ (Qi0 _))
theorem k23 (w : Span) : K2 23 [.ag (Qan w)] = (True, .b (Qb5 w 540)) := (show K2 23 _ = fnG eW1 dW1 (fun _ => True) (fun w => Qb5 w 540) .b (eW1 w) from rfl).trans (Qb7 _ (Qvy _))
theorem k36 (w : Span) (n : Int) : K2 36 [.ag (Qan w), .i n] = (True, .b (Qal n w.low w.high)) := (show K2 36 _ = fnG eSI dSI (fun _ => True) (fun a => Qal a.2 a.1.low a.1.high) .b (eSI (w, n)) from rfl).trans (Qb7 _ (Qvx _))
theorem k44 (l : List Int) (n : Int) : K2 44 [.sl 1 (l.map eI), .i n] = (l.length ≤ 1000000, .b (decide (n ∈ l))) := (show K2 44 _ = fnG eLI dLI (fun a => a.1.length ≤ 1000000) (fun a => decide (a.2 ∈ a.1)) .b (eLI (l, n)) from rfl).trans (Qb7 _ (Qtg _))
theorem Qt9 (c : Cane)  : K2 24 [.ag (Qa8 c)] = (fewB c, .ag (Qa8 c)) := k24 c
theorem Qvl (l m : List Int)  : K2 29 [.sl 1 (l.map eI), .sl 1 (m.map eI)] = (l.length ≤ 1000000, .b (decide (l = m))) := k29 l m
theorem Qvm (c : Cane)  : K2 30 [.ag (Qa8 c), .ag (Qa8 c)] = (c = c ∧ fewB c, .b true) := k30 c
theorem Qxa (c : Cane)  : K2 27 [.ag (Qa8 c)] = (True, .tp [.sl 1 ((stL c ⟨0, 0⟩ []).map eI), .i (stE c ⟨0, 0⟩ [])]) := k27 c
theorem Qr5 (c : Cane)  : K2 15 [.ag (Qa8 c)] = (True, .b (farB c)) := h15 c
theorem Qt5 (c : Cane)  : K2 16 [.ag (Qa8 c)] = (True, .i (Qby c)) := h16 c
theorem Qbx  : K2 18 [] = (True, .b true) := h18
theorem Qt6 (c : Cane)  : K2 19 [.ag (Qa8 c)] = (True, .tp [.sl 1 ((stL c ⟨0, 0⟩ []).map eI), .i (stE c ⟨0, 0⟩ [])]) := h19 c
theorem Qnq (c : Cane) (l : List Int)  : K2 20 [.ag (Qa8 c), .sl 1 (l.map eI)] = (True, .tp [.ag (Qan (Qbk c l).1), .i (Qbk c l).2]) := h20 c l
theorem Qr6 (l : List Int) (k : Int)  : K2 21 [.sl 1 (l.map eI), .i k] = (Qct l ∧ tame 1000 k, .i (Qaq l k)) := h21 l k
theorem Qol (c : Cane) (l : List Int)  : K2 17 [.ag (Qa8 c), .sl 1 (l.map eI)] = (OkC c, .b (areB c l)) := h17 c l
theorem Qx8 (c : Cane)  : K2 28 [.ag (Qa8 c)] = (True, .i (Qby c)) := h28 c
theorem Qt7 (c : Cane) (w : Span)  : K2 25 [.ag (Qa8 c), .ag (Qan w)] = (True, .tp [.i (fewR c w).1, .i (fewR c w).2]) := h25 c w
theorem Qt8 (c : Cane) (w : Span)  : K2 26 [.ag (Qa8 c), .ag (Qan w)] = (True, .tp [.i (Qbu c w).1, .i (Qbu c w).2.2]) := h26 c w
theorem Qx9 (c : Cane) (k : Int)  : K2 34 [.ag (Qa8 c), .i k] = (OkC c, .b (isTB c k)) := h34 c k
theorem Qom (c : Cane) (l : List Int) (w : Span)  : K2 43 [.ag (Qa8 c), .sl 1 (l.map eI), .ag (Qan w)] = (True, .tp [.i (Qc8 c l w).1, .i (Qc8 c l w).2]) := h43f c l w
end Go.C06
set_option linter.unusedSimpArgs false
set_option linter.unusedVariables false
namespace Go.C06
open Go.Fam Go.Proofs
theorem Qug (c : Cane) (w : Span) (l : List Int) : (stL c w l).length ≤ 1000000 := by
 by_cases h : stE c w l = 0
 ·obtain ⟨h1, _, _, _, _, _, h7⟩ := Qki h
  have := Qcd c h1
  rw [h7]; omega
 ·unfold stL
  rw [if_neg h]; exact Xx _
set_option maxRecDepth 100000 in
set_option maxHeartbeats 4000000 in
theorem P5 (c : Cane) : Qah Try.prog 5 [.ag (Qa8 c)] (.b true) := by
 refine Qag okK2 hmix Try.func5 cb5 cc5 cs5 cn5 ?_
 have g1 := Qr5 c
 have g2 := Qt9 c
 have g3 := Qt6 c
 have g4 := Qxa c
 have g5 := Qx8 c
 have g6 := Qt5 c
 have g7 := Qvm c
 unfold Qa8 at g1 g2 g3 g4 g5 g6 g7
 have hst := Qug c ⟨0, 0⟩ []
 by_cases hf : farB c = true
 ·simp only [rc5, rs5, g1, hf, Qbx, Qaa, Qab, Qae, Qac, Qa7, Qad, Qa6, Qa1, Fam.step, Qaf, evO, opv, qv, ldV, Qar, V.cells, Qap, Qa9, Qa5, flat, Qa2, Qa0, Qa3, ↓reduceIte, Nat.reduceEqDiff, Nat.reduceAdd, Nat.reduceLT, Nat.reduceLeDiff, Qd, Qg, Qc, Qe, Qb, Qo, Qh, endQ, rvs, rv1, resV, vw_i, vw_b, Qav, Qas, zipA, Qi, Qj, Qa, and_self, implies_true, Qa8]
 ·have hb : fewB c := by
   unfold farB at hf
   unfold fewB
   simp at hf; omega
  simp only [rc5, rs5, g1, g2, g3, g4, g5, g6, g7, hf, hb, Qbx, Qvl, hst, Qaj, Qaa, Qbl, Qab, Qae, Qac, Qa7, Qb9, putB, Qad, Qa6, Qa1, Fam.step, Qaf, Qbf, Qb4, Qaw, Qaz, ug, runX, eff, Qb8, fpR, fpQ, fpV, Qbz, hits, putB, nv, sv, evO, opv, qv, Qai, binV, ldV, Qar, putAt, V.cells, Qap, Qb2, Qa9, Qa5, flat, Qbt, Qa2, Qau, Qa0, Qa3, ↓reduceIte, Nat.reduceEqDiff, Nat.reduceAdd, Nat.reduceLT, Nat.reduceLeDiff, Qd, Qg, Qq, Qs, Qc, Qe, Qf, Qp, Q5, Qb, Q2, Qo, Q3, Qy, Qh, Qk, Qn, Za, Qv, Zm, Q0, Q8, Zp, endQ, rvs, rv1, resV, vw_i, vw_b, Qav, Qas, zipA, beq_self_eq_true, Qi, Ql, Qu, Q9, Q6, Qj, Qw, Qx, Qa, Qt, decide_true, and_self, forall_const, implies_true, Zx, Z2, Zo, imp_self, Qr, Qa8]
set_option maxRecDepth 100000 in
set_option maxHeartbeats 4000000 in
theorem P12 (c : Cane) (l : List Int) (w : Span) : Qah Try.prog 12 [.ag (Qa8 c), .sl 1 (l.map eI), .ag (Qan w)] (.b true) := by
 refine Qag okK2 hmix Try.func12 cb12 cc12 cs12 cn12 ?_
 have g1 := Qr5 c
 have g2 := Qt9 c
 have g3 := Qnq c l
 have g4 := k46 c l
 have g5 := Qom c l w
 have g6 := k40 c l w
 have g7 := Qvm c
 have g8 := Qvl l l
 unfold Qa8 at g1 g2 g3 g4 g5 g6 g7
 unfold Qan at g3 g4 g5 g6
 by_cases hf : farB c = true
 ·simp only [rc12, rs12, g1, hf, Qbx, Qaa, Qab, Qae, Qac, Qa7, Qad, Qa6, Qa1, Fam.step, Qaf, Qb4, Qaz, ug, evO, opv, qv, Qai, binV, ldV, lenV, Qar, V.cells, Qap, Qa9, Qa5, flat, Qa2, Qa0, Qa3, ↓reduceIte, Nat.reduceEqDiff, Nat.reduceAdd, Nat.reduceLT, Nat.reduceLeDiff, Qd, Qg, Qq, Qs, Qc, Qe, Qb, Qo, Qh, endQ, rvs, rv1, resV, vw_i, vw_b, Qav, Qas, zipA, Qi, Ql, Qu, Qj, Qw, Qa, Qt, and_true, and_self, forall_const, implies_true, reduceCtorEq, beq_false, imp_self, Q1, Qan, Qa8]
 ·have hb : fewB c := by
   unfold farB at hf
   unfold fewB
   simp at hf; omega
  by_cases hl : (60 : Int) < l.length
  ·simp only [rc12, rs12, g1, hf, Qbx, hl, Qaa, Qab, Qae, Qac, Qa7, Qad, Qa6, Qa1, Fam.step, Qaf, Qb4, Qaz, ug, evO, opv, qv, Qai, binV, ldV, lenV, Qar, V.cells, Qap, Qa9, Qa5, flat, Qa2, Qa0, Qa3, ↓reduceIte, Nat.reduceEqDiff, Nat.reduceAdd, Nat.reduceLT, Nat.reduceLeDiff, Qd, Qg, Qq, Qs, Qc, Qe, Qb, Qo, Qh, endQ, rvs, rv1, resV, vw_i, vw_b, Qav, Qas, zipA, beq_self_eq_true, Qi, Ql, Qj, Qa, decide_true, and_self, forall_const, implies_true, reduceCtorEq, Q1, Qan, Qa8]
  ·have hl2 : l.length ≤ 1000000 := by omega
   have hfl : Qc0 l.length := by unfold Qc0; omega
   simp only [rc12, rs12, g1, g2, g3, g4, g5, g6, g7, g8, hf, hl, hb, Qbx, hl2, hfl, Z4, Qy, Qpu, Qjm, vw_I, Zv, eq23, Qaj, Qaa, Qab, Qae, Qac, Qa7, putB, Qad, Qa6, Qa1, Fam.step, Qaf, Qbf, Qb4, Qaw, Qaz, ug, putB, nv, sv, Qd5, evO, opv, qv, Qai, binV, ldV, lenV, Qar, Qay, putAt, Qbc, Qbq, V.cells, Qap, Qb2, Qbm, Qa9, Qa5, flat, Qbt, Qa2, Qau, Qa0, Qa3, ↓reduceIte, Nat.reduceEqDiff, Nat.reduceAdd, Nat.reduceMul, Nat.reduceLT, Qd, Qg, Qq, Qs, Qc, Qe, Qf, Qp, Q5, Qb, Q2, Qo, Q3, Qy, Qh, Qk, Qn, Qv, Q0, Q7, Q8, endQ, rvs, rv1, resV, vw_i, vw_b, Qav, Qas, Qhp, zipA, beq_self_eq_true, Qi, V.b.injEq, Ql, Qu, Q6, Qj, Xe, Qa, decide_true, decide_false, true_and, and_true, and_self, forall_const, implies_true, reduceCtorEq, Q4, beq_true, Qdi, Zt, imp_self, Q1, Qan, Qa8]
   rfl
theorem Qdo {c : Cane} (hc : OkC c) {w : Span} (hw : Qb5 w 540 = true) {l : List Int} (h : areB c l = true) : stE c w l = if Qa4 c = [] then 3 else 0 := by
 obtain ⟨h6, hp⟩ := (Qfa hc l).1 h
 unfold stE
 rw [if_neg (by simpa using Qdr.2 hc), if_neg, if_neg]
 ·unfold Qev
  rw [Zb]
  rintro ⟨i, hi, h2⟩
  have := (hp i (by simpa using hi)).2
  simp only [decide_eq_true_eq] at h2
  omega
 ·rintro (h1 | h1 | h1)
  ·omega
  ·rw [hw] at h1; cases h1
  ·rw [Zb] at h1
   obtain ⟨n, hn, h2⟩ := h1
   have := hp.in_ n hn
   simp [Qal, this] at h2
theorem Qm3 (c : Cane) : areB c [] = true := rfl
theorem Qkr (l : List Int) (k : Int) : Qaq l.reverse k = Qaq l k := by
 induction l with
 | nil => rfl
 | cons n l ih =>
  rw [List.reverse_cons, Qdv, ih]
  unfold Qaq
  rw [Qd, Xl]; omega
set_option maxRecDepth 100000 in
set_option maxHeartbeats 4000000 in
theorem P3 (c : Cane) (l : List Int) : Qah Try.prog 3 [.ag (Qa8 c), .sl 1 (l.map eI)] (.b true) := by
 refine Qag okK2 hmix Try.func3 cb3 cc3 cs3 cn3 ?_
 have g1 := Qr5 c
 have g2 := Qt5 c
 have g3 := Qol c l
 have g4 := Qt6 c
 have g5 := Qnq c l
 unfold Qa8 at g1 g2 g3 g4 g5
 unfold Qan at g5
 by_cases hf : farB c = true
 ·simp only [rc3, rs3, g1, hf, Qbx, Qaa, Qab, Qae, Qac, Qa7, Qad, Qa6, Qa1, Fam.step, Qaf, Qb4, Qaz, ug, evO, opv, qv, Qd2, binV, ldV, Qar, V.cells, Qap, Qa9, Qa5, flat, Qa2, Qa0, Qa3, ↓reduceIte, Nat.reduceEqDiff, Nat.reduceAdd, Nat.reduceLT, Nat.reduceLeDiff, Qd, Qg, Qq, Qs, Qc, Qe, Qb, Qo, Qh, endQ, rvs, rv1, resV, vw_i, vw_b, Qav, Qas, zipA, Qi, Ql, Qu, Qj, Qw, Qa, Qt, true_and, and_true, and_self, false_and, forall_const, false_implies, implies_true, reduceCtorEq, beq_false, imp_self, Qa8]
 by_cases he : Qby c = 0
 ·have hC := Qdr.1 he
  by_cases ha : areB c l = true
  ·have e1 := Qdo hC (w := ⟨0, 0⟩) (by decide) ha
   have e2 := Qdo hC (w := ⟨0, 0⟩) (by decide) (Qm3 c)
   by_cases ht : Qa4 c = []
   ·rw [if_pos ht] at e1 e2
    have e3 : Qbk c l = (⟨0, 0⟩, 3) := by unfold Qbk; rw [e1]; rfl
    simp only [rc3, rs3, g1, g2, g3, g4, g5, hf, he, hC, ha, e2, e3, Qbx, Qaj, Qaa, Qab, Qae, Qac, Qa7, putB, Qad, Qa6, Qa1, Fam.step, Qaf, Qbf, Qb4, Qaw, Qaz, ug, putB, nv, sv, evO, opv, qv, Qai, binV, ldV, Qar, putAt, V.cells, Qap, Qb2, Qa9, Qa5, flat, Qbt, Qa2, Qau, Qa0, Qa3, ↓reduceIte, Nat.reduceEqDiff, Nat.reduceAdd, Nat.reduceLT, Nat.reduceLeDiff, Int.reduceEq, Qd, Qg, Qq, Qs, Qc, Qe, Qf, Q5, Qb, Q2, Qo, Qy, Qh, Qk, Qn, Qv, Q0, endQ, rvs, rv1, resV, vw_i, vw_b, Qav, Qas, zipA, beq_self_eq_true, Qi, Ql, Qu, Qj, Qw, Qx, Qa, Qt, decide_true, decide_false, and_self, forall_const, implies_true, reduceCtorEq, imp_self, Qa8]
   ·rw [if_neg ht] at e1 e2
    have e3 : Qbk c l = (Qet c l, 0) := by unfold Qbk; rw [if_pos e1]
    have e4 := (Qki e2).2.2.2.2.2.2
    obtain ⟨h6, hp⟩ := (Qfa hC l).1 ha
    have hlen := Qcd c hC
    have hpos : 0 < (Qa4 c).length := Zs.2 ht
    have hs : Qct l := ⟨by omega, fun n hn => by have := hp.in_ n hn; unfold tame; omega⟩
    obtain ⟨a, hka⟩ : ∃ a, (Qa4 c)[(Qa4 c).length - 1]? = some a := ⟨_, Qz (by omega)⟩
    obtain ⟨b, hkb⟩ : ∃ b, (Qa4 c)[0]? = some b := ⟨_, Qz hpos⟩
    have ha2 := Qca hC (Zd hka)
    have hb2 := Qca hC (Zd hkb)
    have t1 : tame 1000 a := by unfold tame; omega
    have t2 : tame 1000 b := by unfold tame; omega
    have d1 : (Qa4 c).getD ((Qa4 c).length - 1) 0 = a := by rw [Qr, hka]; rfl
    have d2 : (Qa4 c).getD 0 0 = b := by rw [Qr, hkb]; rfl
    have e5 : Qet c l = ⟨Qaq l a, Qaq l b⟩ := by unfold Qet; rw [d1, d2]
    rw [e5] at e3
    have i1 : ((Qa4 c).length : Int) - 1 = (((Qa4 c).length - 1 : Nat) : Int) := by omega
    have i2 : inI (((Qa4 c).length - 1 : Nat) : Int) := by unfold inI; omega
    have i3 : (((Qa4 c).length - 1 : Nat) : Int) < (Qa4 c).length := by omega
    have i4 : (0 : Int) < (Qa4 c).length := by omega
    have i5 : ¬ ((Qa4 c).length : Int) = 0 := by omega
    have i6 : inI ((l.length : Int) - 1) := by unfold inI; omega
    simp only [rc3, rs3, g1, g2, g3, g4, g5, hf, he, hC, ha, e2, e3, e4, Qr6, hs, t1, t2, hka, hkb, i1, i2, i3, i4, i5, i6, Qaj, Qaa, Qbl, Qab, Qae, Qak, Qa7, Qnf, Qb9, putB, Qad, Qa6, Qa1, Fam.step, Qaf, Qbf, Qb4, Qaw, Qaz, ug, runX, eff, Qb8, fpR, fpQ, fpV, Qbz, hits, putB, nv, sv, evO, opv, qv, Qai, binV, ldV, iadV, lenV, curG, Qar, putAt, V.cells, Qap, Qb2, Qa9, Qa5, flat, Qbt, Qa2, Qau, Qa0, Qa3, ↓reduceIte, Nat.reduceEqDiff, Nat.reduceAdd, Nat.reduceLT, Nat.reduceLeDiff, Xi, Int.reduceLE, Int.reduceEq, Qd, Qg, Qq, Qs, Qc, Qe, Qf, Qp, Q5, Qb, Q2, Qo, Qm, Q3, Qy, Qh, Qk, Qn, Za, Qv, Zm, Q0, Q8, Zp, vw_i, Qav, Qas, zipA, Zg, beq_self_eq_true, Qi, Xt, Ql, Qu, Q9, Q6, Qj, Qw, Qx, Qa, decide_true, decide_false, true_and, and_true, and_self, forall_const, implies_true, reduceCtorEq, Q4, Zx, Z2, Zo, beq_true, imp_self, Q1, Ze, Qr, Zc, Qa8, eI]
    obtain ⟨R, hR⟩ : ∃ R, R = l.reverse := ⟨_, rfl⟩
    have hRl : R.length = l.length := by rw [hR, List.length_reverse]
    refine Qce l.length (fun i => ⟨lkp [(1, .sl 1 (l.map eI)), (2, .pa (Qa8 c)), (7, .ad 0 0 0), (9, .rf 1 i 0 i 1), (10, .i ((l.length : Int) - 1 - i))], [.cells 0 [.i (Qaq l a), .i (Qaq l b)], .cells i ((R.take i).map V.i)]⟩) ?_ ?_ ?_
    ·simp only [Zi, Int.sub_zero, Q2, Qg, kp, Qa0, Qa3, ↓reduceIte, Nat.reduceEqDiff, Qd, Qg, Q2, Qa8]
    ·intro i hi
     obtain ⟨n, hn⟩ : ∃ n, n = l.length - 1 - i := ⟨_, rfl⟩
     obtain ⟨x, hx⟩ : ∃ x, l[n]? = some x := ⟨_, Qz (by omega)⟩
     have hxr : R[i]? = some x := by rw [hR, List.getElem?_reverse hi, ← hn]; exact hx
     have j1 : (l.length : Int) - 1 - i = (n : Int) := by omega
     have j2 : (n : Int) < l.length := by omega
     have j3 : inI ((n : Int) - 1) ∧ inI (n : Int) := by unfold inI; omega
     have j4 : ((R.take i).map V.i).length = i := by rw [Q1, Xw]; omega
     have j5 : Qc0 (i + 1) := by unfold Qc0; omega
     have j6 : (R.take i).map V.i ++ [V.i x] = (R.take (i + 1)).map V.i := by rw [Qbo hxr]; simp
     have j7 : (l.length : Int) - 1 - ((i + 1 : Nat) : Int) = (n : Int) - 1 := by omega
     have j8 : (0 : Int) ≤ n := by omega
     rw [j7]
     simp only [j1, j2, hx, j3, j4, j5, j6, j8, Z9, Zv, Xq, Z4, Qaj, Qaa, Qab, Qae, Qak, Qa7, Qg4, putB, Qad, Qat, Qa6, Qa1, Fam.step, Qaf, Qbf, Qaw, putB, nv, sv, Qd5, evO, opv, qv, binV, ldV, iadV, Qay, putAt, Qbc, Qbq, V.cells, Qap, Qb2, Qa9, Qa5, kp, Qa2, Qa0, Qa3, ↓reduceIte, Nat.reduceEqDiff, Qd, Qg, Qq, Qs, Qc, Qe, Qf, Q5, Qb, Q2, Qo, Qm, Qy, Qh, Qk, Qn, Qv, Q0, Q7, Q8, Zq, vw_i, Qi, Ql, Qj, Qa, decide_true, and_self, reduceCtorEq, not_false_eq_true, ne_eq, Q4, Q1, Ze, Qr, Zc, Qa8, eI]
    ·have j1 : (l.length : Int) - 1 - (l.length : Int) = -1 := by omega
     have j2 : R.take l.length = R := Xd (by omega)
     have g6 := Qol c R
     have g7 := Qnq c R
     unfold Qa8 at g6 g7
     unfold Qan at g7
     have hck := Qmp R
     rw [hRl] at hck
     have hl2 : (R.map V.i).length = l.length := by rw [Q1, hRl]
     by_cases hr : areB c R = true
     ·have f1 := Qdo hC (w := ⟨0, 0⟩) (by decide) hr
      rw [if_neg ht] at f1
      have f3 : Qbk c R = (⟨Qaq l a, Qaq l b⟩, 0) := by
       unfold Qbk Qet
       rw [if_pos f1, d1, d2, hR, Qkr, Qkr]
      simp only [j1, j2, hl2, Z9, Zv, hck, vw_I, g6, g7, hC, hr, f3, eq23, Qbx, Qaj, Qaa, Qab, Qae, Qba, Qac, Qa7, putB, Qad, Qat, Qa6, Qa1, Fam.step, Qaf, Qbf, Qb4, Qaw, Qaz, ug, putB, nv, sv, evO, opv, qv, Qai, binV, ldV, Qar, putAt, V.cells, Qap, Qb2, Qbm, Qa9, Qa5, flat, Qbt, Qa2, Qau, Qa0, Qa3, ↓reduceIte, Nat.reduceEqDiff, Nat.reduceAdd, Nat.reduceLT, Int.reduceNeg, Int.reduceLE, Qd, Qg, Qq, Qs, Qc, Qe, Qf, Qp, Q5, Qb, Q2, Qo, Q3, Qy, Qh, Qk, Qn, Qv, Q0, Q7, endQ, rvs, rv1, resV, vw_i, vw_b, Qav, Qas, Qhp, beq_self_eq_true, Qi, V.b.injEq, Ql, Qu, Qj, Xe, Qw, Qa, Qt, decide_true, decide_false, true_and, and_self, forall_const, implies_true, Q4, beq_true, Qdi, Zt, imp_self, Qa8]
      rfl
     ·simp only [j1, j2, hl2, Z9, Zv, hck, vw_I, g6, hC, hr, Qbx, Qaa, Qab, Qae, Qba, Qac, Qa7, Qad, Qat, Qa6, Qa1, Fam.step, Qaf, evO, opv, qv, binV, ldV, Qar, Qa9, Qa5, flat, Qa2, Qa0, Qa3, ↓reduceIte, Nat.reduceEqDiff, Nat.reduceAdd, Nat.reduceLT, Int.reduceNeg, Int.reduceLE, Qd, Qg, Qc, Qe, Qb, Qo, Qh, Qk, Qn, endQ, rvs, rv1, resV, vw_i, vw_b, Qav, Qas, Qhp, Qi, Qj, Xe, Qx, Qa, decide_false, and_self, forall_const, implies_true, Qa8]
  ·simp only [rc3, rs3, g1, g2, g3, hf, he, hC, ha, Qbx, Qaa, Qab, Qae, Qac, Qa7, Qad, Qa6, Qa1, Fam.step, Qaf, Qb4, Qaz, ug, evO, opv, qv, Qai, binV, ldV, Qar, V.cells, Qap, Qa9, Qa5, flat, Qa2, Qa0, Qa3, ↓reduceIte, Nat.reduceEqDiff, Nat.reduceAdd, Nat.reduceLT, Nat.reduceLeDiff, Qd, Qg, Qq, Qs, Qc, Qe, Qb, Qo, Qh, endQ, rvs, rv1, resV, vw_i, vw_b, Qav, Qas, zipA, beq_self_eq_true, Qi, Ql, Qj, Qw, Qx, Qa, decide_true, and_self, forall_const, implies_true, reduceCtorEq, Qa8]
 ·simp only [rc3, rs3, g1, g2, hf, he, Qbx, Qaa, Qab, Qae, Qac, Qa7, Qad, Qa6, Qa1, Fam.step, Qaf, Qb4, Qaz, ug, evO, opv, qv, Qai, Qd2, binV, ldV, Qar, V.cells, Qap, Qa9, Qa5, flat, Qa2, Qa0, Qa3, ↓reduceIte, Nat.reduceEqDiff, Nat.reduceAdd, Nat.reduceLT, Nat.reduceLeDiff, Qd, Qg, Qq, Qs, Qc, Qe, Qb, Qo, Qh, endQ, rvs, rv1, resV, vw_i, vw_b, Qav, Qas, zipA, beq_self_eq_true, Qi, Ql, Qu, Qj, Qw, Qx, Qa, Qt, decide_false, true_and, and_true, and_self, false_and, forall_const, false_implies, implies_true, reduceCtorEq, beq_false, imp_self, Qa8]
end Go.C06
set_option maxRecDepth 8000
namespace Go.C06
open Go.Fam Go.Proofs
def rc10 : RC := (.seq (.reg false [(cX 2 0), (cX 3 1), (cQ 4 [] (.mv (kB false)))]) (.keep [2,3] (.seq (.seq (.reg true [(cLd 11 2 true 6), (cQ 12 [11] (.call (kF 22) [(.t 11)])), (cN 13 12), (cMv 14 13), (gQ 15 14 false [3] (.fad 1 (.t 3))), (gQ 16 14 false [15] (.ld true 2 (.t 15))), (gQ 17 14 false [16] (.call (kF 23) [(.t 16)])), (gQ 18 14 false [17] (.not (.t 17))), (cQ 19 [14,18] (.pick (.t 14) (kB true) (.t 18))), (cMv 20 19), (gQ 21 20 false [2] (.ld true 6 (.t 2))), (gQ 22 20 false [3] (.fad 0 (.t 3))), (gQ 23 20 false [22] (.ld false 1 (.t 22))), (gQ 24 20 false [21,23] (.call (kF 17) [(.t 21), (.t 23)])), (gQ 25 20 false [24] (.not (.t 24))), (cQ 26 [20,25] (.pick (.t 20) (kB true) (.t 25)))]) (.keep [2,3,26] (.cond (.t 26) (.seq (.reg false [(cQ 27 [] (.call (kF 18) [])), (cMv 4 27)]) .ret) .skip))) (.keep [2,3] (.seq (.reg false [(cLd 29 2 true 6), (cFa 30 3 1), (cLd 31 30 true 2), (cQ 32 [29,31] (.call (kF 25) [(.t 29), (.t 31)])), (cMv 28 32), (cEx 33 28 0), (cEx 34 28 1), (cMv 5 33), (cMv 6 34)]) (.keep [2,3,5,6] (.seq (.reg false [(cLd 36 2 true 6), (cFa 37 3 1), (cLd 38 37 true 2), (cQ 39 [36,38] (.call (kF 26) [(.t 36), (.t 38)])), (cMv 35 39), (cEx 40 35 0), (cEx 41 35 1), (cMv 7 40), (cMv 8 41)]) (.keep [2,3,5,6,7,8] (.seq (.reg false [(cLd 43 2 true 6), (cFa 44 3 0), (cLd 45 44 false 1), (cFa 46 3 1), (cLd 47 46 true 2), (cQ 48 [43,45,47] (.call (kF 43) [(.t 43), (.t 45), (.t 47)])), (cMv 42 48), (cEx 49 42 0), (cEx 50 42 1), (cMv 9 49), (cMv 10 50)]) (.keep [3,5,6,7,8,9,10] (.seq (.seq (.reg true [(cMv 51 6), (cC 52 .neq 51 0), (cMv 53 52), (gMv 54 53 true 6), (gQ 55 53 true [54] (.bin .neq (.t 54) (kI 3))), (cQ 56 [53,55] (.pick (.t 53) (.t 55) (kB false))), (cMv 57 56), (gMv 58 57 false 8), (gQ 59 57 false [58] (.bin .neq (.t 58) (kI 0))), (gMv 60 57 false 59), (gMv 61 60 true 8), (gQ 62 60 true [61] (.bin .neq (.t 61) (kI 3))), (gQ 63 57 false [60,62] (.pick (.t 60) (.t 62) (kB false))), (cQ 64 [57,63] (.pick (.t 57) (kB true) (.t 63))), (cMv 65 64), (gMv 66 65 false 6), (gQ 67 65 false [66] (.bin .eql (.t 66) (kI 0))), (gMv 68 65 false 67), (gMv 69 68 true 8), (gQ 70 68 true [69] (.bin .neq (.t 69) (kI 0))), (gMv 71 68 true 70), (gMv 72 71 false 7), (gMv 73 71 false 5), (gQ 74 71 false [72,73] (.bin .gtr (.t 72) (.t 73))), (gQ 75 68 true [71,74] (.pick (.t 71) (kB true) (.t 74))), (gMv 76 68 true 75), (gMv 77 76 false 7), (gQ 78 76 false [77] (.bin .lss (.t 77) (kI 0))), (gQ 79 68 true [76,78] (.pick (.t 76) (kB true) (.t 78))), (gQ 80 65 false [68,79] (.pick (.t 68) (.t 79) (kB false))), (cQ 81 [65,80] (.pick (.t 65) (kB true) (.t 80))), (cMv 82 81), (gMv 83 82 false 10), (gQ 84 82 false [83] (.bin .neq (.t 83) (kI 0))), (gMv 85 82 false 84), (gMv 86 85 true 10), (gQ 87 85 true [86] (.bin .neq (.t 86) (kI 3))), (gQ 88 82 false [85,87] (.pick (.t 85) (.t 87) (kB false))), (cQ 89 [82,88] (.pick (.t 82) (kB true) (.t 88)))]) (.keep [3,5,6,9,10,89] (.cond (.t 89) (.seq (.reg false [(cQ 4 [] (.mv (kB false)))]) .ret) .skip))) (.keep [3,5,6,9,10] (.seq (.seq (.reg true [(cMv 90 10), (cC 91 .eql 90 0), (cMv 92 91), (gMv 93 92 true 9), (gQ 94 92 true [93] (.bin .eql (.t 93) (kI 1))), (cQ 95 [92,94] (.pick (.t 92) (.t 94) (kB false)))]) (.keep [3,5,6,95] (.cond (.t 95) (.seq (.reg true [(cMv 96 6), (cC 97 .eql 96 0), (cMv 98 97), (gMv 99 98 true 5), (gQ 100 98 true [3] (.fad 0 (.t 3))), (gQ 101 98 true [100] (.ld false 1 (.t 100))), (gQ 102 98 true [101] (.len (.t 101))), (gQ 103 98 true [99,102] (.bin .leq (.t 99) (.t 102))), (cQ 104 [98,103] (.pick (.t 98) (.t 103) (kB false))), (cMv 105 104), (gQ 106 105 true [] (.call (kF 18) [])), (cQ 107 [105,106] (.pick (.t 105) (.t 106) (kB false))), (cMv 4 107)]) .ret) .skip))) (.keep [] (.seq (.reg false [(cQ 108 [] (.call (kF 18) [])), (cMv 4 108)]) .ret)))))))))))))))
def pu10 : List Nat := [2,3]
def rs10 : List RV := [.t 4]
theorem cc10 : CCx Try.prog Try.f10 pu10 rc10 := by unfold CCx; kernel_rfl
theorem cb10 : CBx Try.f10 := by unfold CBx; kernel_rfl
theorem cs10 : CSx Try.prog Try.f10 rs10 := by unfold CSx; kernel_rfl
theorem cn10 : 2 ≤ Try.f10.ntmps := by decide
def rc4 : RC := (.seq (.reg false [(cX 3 0), (cX 4 1), (cQ 6 [] (.mv (kB false)))]) (.keep [2,3,4] (.seq (.seq (.reg true [(cLd 20 3 true 6), (cQ 21 [20] (.call (kF 22) [(.t 20)])), (cN 22 21), (cMv 23 22), (gQ 24 23 false [4] (.fad 1 (.t 4))), (gQ 25 23 false [24] (.ld true 2 (.t 24))), (gQ 26 23 false [25] (.call (kF 23) [(.t 25)])), (gQ 27 23 false [26] (.not (.t 26))), (cQ 28 [23,27] (.pick (.t 23) (kB true) (.t 27))), (cMv 29 28), (gQ 30 29 false [3] (.ld true 6 (.t 3))), (gQ 31 29 false [4] (.fad 0 (.t 4))), (gQ 32 29 false [31] (.ld false 1 (.t 31))), (gQ 33 29 false [30,32] (.call (kF 17) [(.t 30), (.t 32)])), (gQ 34 29 false [33] (.not (.t 33))), (cQ 35 [29,34] (.pick (.t 29) (kB true) (.t 34))), (cMv 36 35), (gMv 37 36 false 2), (gQ 38 36 false [37] (.bin .lss (.t 37) (kI 0))), (cQ 39 [36,38] (.pick (.t 36) (kB true) (.t 38))), (cMv 40 39), (gMv 41 40 false 2), (gQ 42 40 false [3] (.fad 5 (.t 3))), (gQ 43 40 false [42] (.ld false 1 (.t 42))), (gQ 44 40 false [41,43] (.bin .gtr (.t 41) (.t 43))), (cQ 45 [40,44] (.pick (.t 40) (kB true) (.t 44)))]) (.keep [2,3,4,45] (.cond (.t 45) (.seq (.reg false [(cQ 46 [] (.call (kF 18) [])), (cMv 6 46)]) .ret) .skip))) (.keep [2,3,4] (.seq (.reg false [(cLd 47 3 true 6), (cQ 48 [47] (.call (kF 24) [(.t 47)])), ⟨(some 7), none, [], none, .w (.alc [(.i 0), (.i 0), (.z 3), (.i 0), (.i 0), (.i 0)])⟩, ⟨none, none, [7,48], none, .w (.st 6 (.t 7) (.t 48))⟩]) (.keep [2,3,4,7] (.seq (.reg false [(cFa 49 7 5), (cLd 50 49 false 1), (cMv 51 2), (cB 52 .sub 50 51), (cFa 53 7 5), ⟨none, none, [53,52], none, .w (.st 1 (.t 53) (.t 52))⟩]) (.keep [3,4,7] (.seq (.reg false [(cLd 55 3 true 6), (cFa 56 4 0), (cLd 57 56 false 1), (cQ 58 [55,57] (.call (kF 20) [(.t 55), (.t 57)])), (cMv 54 58), (cEx 59 54 0), (cEx 60 54 1), ⟨(some 8), none, [], none, .w (.alc [(.i 0), (.i 0)])⟩, ⟨none, none, [8,59], none, .w (.st 2 (.t 8) (.t 59))⟩, (cMv 9 60)]) (.keep [3,4,7,8,9] (.seq (.reg false [(cLd 62 7 true 6), (cFa 63 4 0), (cLd 64 63 false 1), (cQ 65 [62,64] (.call (kF 20) [(.t 62), (.t 64)])), (cMv 61 65), (cEx 66 61 0), (cEx 67 61 1), ⟨(some 10), none, [], none, .w (.alc [(.i 0), (.i 0)])⟩, ⟨none, none, [10,66], none, .w (.st 2 (.t 10) (.t 66))⟩, (cMv 11 67)]) (.keep [3,4,7,8,9,10,11] (.seq (.seq (.reg true [(cMv 68 9), (cMv 69 11), (cB 70 .neq 68 69), (cMv 71 70), (gQ 72 71 false [8] (.ld true 2 (.t 8))), (gQ 73 71 false [10] (.ld true 2 (.t 10))), (gQ 74 71 false [72,73] (.eqs true 23 (.t 72) (.t 73))), (cQ 75 [71,74] (.pick (.t 71) (kB true) (.t 74))), (cMv 76 75), (gMv 77 76 false 9), (gQ 78 76 false [77] (.bin .neq (.t 77) (kI 0))), (gMv 79 76 false 78), (gMv 80 79 true 9), (gQ 81 79 true [80] (.bin .neq (.t 80) (kI 3))), (gQ 82 76 false [79,81] (.pick (.t 79) (.t 81) (kB false))), (cQ 83 [76,82] (.pick (.t 76) (kB true) (.t 82)))]) (.keep [3,4,7,83] (.cond (.t 83) (.seq (.reg false [(cQ 6 [] (.mv (kB false)))]) .ret) .skip))) (.keep [3,4,7] (.seq (.seq (.reg false [(cLd 84 7 true 6), (cQ 85 [84] (.call (kF 22) [(.t 84)])), (cN 86 85)]) (.keep [3,4,7,86] (.cond (.t 86) (.seq (.reg false [(cQ 87 [] (.call (kF 18) [])), (cMv 6 87)]) .ret) .skip))) (.keep [3,4,7] (.seq (.reg false [(cLd 89 3 true 6), (cFa 90 4 1), (cLd 91 90 true 2), (cQ 92 [89,91] (.call (kF 25) [(.t 89), (.t 91)])), (cMv 88 92), (cEx 93 88 0), (cEx 94 88 1), (cMv 12 93), (cMv 13 94)]) (.keep [3,4,7,12,13] (.seq (.reg false [(cLd 96 7 true 6), (cFa 97 4 1), (cLd 98 97 true 2), (cQ 99 [96,98] (.call (kF 25) [(.t 96), (.t 98)])), (cMv 95 99), (cEx 100 95 0), (cEx 101 95 1), (cMv 14 100), (cMv 15 101)]) (.keep [3,4,7,12,13,14,15] (.seq (.reg false [(cLd 103 3 true 6), (cFa 104 4 1), (cLd 105 104 true 2), (cQ 106 [103,105] (.call (kF 26) [(.t 103), (.t 105)])), (cMv 102 106), (cEx 107 102 0), (cEx 108 102 1), (cMv 16 107), (cMv 17 108)]) (.keep [4,7,12,13,14,15,16,17] (.seq (.reg false [(cLd 110 7 true 6), (cFa 111 4 1), (cLd 112 111 true 2), (cQ 113 [110,112] (.call (kF 26) [(.t 110), (.t 112)])), (cMv 109 113), (cEx 114 109 0), (cEx 115 109 1), (cMv 18 114), (cMv 19 115)]) (.keep [12,13,14,15,16,17,18,19] (.seq (.reg true [(cMv 116 13), (cC 117 .neq 116 0), (cMv 118 117), (gMv 119 118 false 15), (gQ 120 118 false [119] (.bin .eql (.t 119) (kI 0))), (gMv 121 118 false 120), (gMv 122 121 true 14), (gMv 123 121 true 12), (gQ 124 121 true [122,123] (.bin .leq (.t 122) (.t 123))), (gQ 125 118 false [121,124] (.pick (.t 121) (.t 124) (kB false))), (cQ 126 [118,125] (.pick (.t 118) (kB true) (.t 125))), (cMv 127 126), (gMv 128 127 true 17), (gQ 129 127 true [128] (.bin .neq (.t 128) (kI 0))), (gMv 130 127 true 129), (gMv 131 130 false 19), (gQ 132 130 false [131] (.bin .eql (.t 131) (kI 0))), (gMv 133 130 false 132), (gMv 134 133 true 18), (gMv 135 133 true 16), (gQ 136 133 true [134,135] (.bin .leq (.t 134) (.t 135))), (gQ 137 130 false [133,136] (.pick (.t 133) (.t 136) (kB false))), (gQ 138 127 true [130,137] (.pick (.t 130) (kB true) (.t 137))), (cQ 139 [127,138] (.pick (.t 127) (.t 138) (kB false))), (cMv 140 139), (gQ 141 140 true [] (.call (kF 18) [])), (cQ 142 [140,141] (.pick (.t 140) (.t 141) (kB false))), (cMv 6 142)]) .ret)))))))))))))))))))))))))
def pu4 : List Nat := [3,4]
def rs4 : List RV := [.t 6]
theorem cc4 : CCx Try.prog Try.f4 pu4 rc4 := by unfold CCx; kernel_rfl
theorem cb4 : CBx Try.f4 := by unfold CBx; kernel_rfl
theorem cs4 : CSx Try.prog Try.f4 rs4 := by unfold CSx; kernel_rfl
theorem cn4 : 3 ≤ Try.f4.ntmps := by decide
def rc9 : RC := (.seq (.reg false [(cX 3 0), (cX 5 2), (cQ 6 [] (.mv (kB false)))]) (.keep [1,3,5] (.seq (.seq (.reg true [(cLd 15 3 true 6), (cQ 16 [15] (.call (kF 15) [(.t 15)])), (cMv 17 16), (gQ 18 17 false [3] (.ld true 6 (.t 3))), (gQ 19 17 false [18] (.call (kF 16) [(.t 18)])), (gQ 20 17 false [19] (.bin .neq (.t 19) (kI 0))), (cQ 21 [17,20] (.pick (.t 17) (kB true) (.t 20))), (cMv 22 21), (gQ 23 22 false [3] (.ld true 6 (.t 3))), (gMv 24 22 false 1), (gQ 25 22 false [23,24] (.call (kF 34) [(.t 23), (.t 24)])), (gQ 26 22 false [25] (.not (.t 25))), (cQ 27 [22,26] (.pick (.t 22) (kB true) (.t 26))), (cMv 28 27), (gQ 29 28 false [3] (.ld true 6 (.t 3))), (gQ 30 28 false [5] (.fad 0 (.t 5))), (gQ 31 28 false [30] (.ld false 1 (.t 30))), (gQ 32 28 false [29,31] (.call (kF 17) [(.t 29), (.t 31)])), (gQ 33 28 false [32] (.not (.t 32))), (cQ 34 [28,33] (.pick (.t 28) (kB true) (.t 33))), (cMv 35 34), (gQ 36 35 false [5] (.fad 1 (.t 5))), (gQ 37 35 false [36] (.ld true 2 (.t 36))), (gQ 38 35 false [37] (.call (kF 23) [(.t 37)])), (gQ 39 35 false [38] (.not (.t 38))), (cQ 40 [35,39] (.pick (.t 35) (kB true) (.t 39)))]) (.keep [1,3,5,40] (.cond (.t 40) (.seq (.reg false [(cQ 41 [] (.call (kF 18) [])), (cMv 6 41)]) .ret) .skip))) (.keep [1,3,5] (.seq (.reg false [(cLd 43 3 true 6), (cQ 44 [43] (.call (kF 19) [(.t 43)])), (cMv 42 44), (cEx 45 42 0), (cEx 46 42 1), (cMv 7 45), (cMv 8 46)]) (.keep [1,3,5,7,8] (.seq (.reg false [(cLd 48 3 true 6), (cFa 49 5 0), (cLd 50 49 false 1), (cQ 51 [48,50] (.call (kF 20) [(.t 48), (.t 50)])), (cMv 47 51), (cEx 52 47 0), (cEx 53 47 1), ⟨(some 9), none, [], none, .w (.alc [(.i 0), (.i 0)])⟩, ⟨none, none, [9,52], none, .w (.st 2 (.t 9) (.t 52))⟩, (cMv 10 53)]) (.keep [1,3,5,7,8,9,10] (.seq (.reg false [(cLd 55 3 true 6), (cFa 56 5 0), (cLd 57 56 false 1), (cFa 58 5 1), (cLd 59 58 true 2), (cQ 60 [55,57,59] (.call (kF 43) [(.t 55), (.t 57), (.t 59)])), (cMv 54 60), (cEx 61 54 0), (cEx 62 54 1), (cMv 11 61), (cMv 12 62)]) (.keep [1,5,7,8,9,10,11,12] (.seq (.reg false [(cFa 63 5 0), (cLd 64 63 false 1), (cMv 65 1), (cQ 66 [64,65] (.call (kF 21) [(.t 64), (.t 65)])), (cMv 13 66)]) (.keep [1,5,7,8,9,10,11,12,13] (.seq (.seq (.reg true [(cMv 67 8), (cC 68 .neq 67 0), (cMv 69 68), (gMv 70 69 false 10), (gQ 71 69 false [70] (.bin .neq (.t 70) (kI 0))), (cQ 72 [69,71] (.pick (.t 69) (kB true) (.t 71))), (cMv 73 72), (gMv 74 73 false 12), (gQ 75 73 false [74] (.bin .neq (.t 74) (kI 0))), (cQ 76 [73,75] (.pick (.t 73) (kB true) (.t 75))), (cMv 77 76), (gMv 78 77 false 7), (gMv 79 77 false 1), (gQ 80 77 false [78,79] (.call (kF 44) [(.t 78), (.t 79)])), (gQ 81 77 false [80] (.not (.t 80))), (cQ 82 [77,81] (.pick (.t 77) (kB true) (.t 81))), (cMv 83 82), (gQ 84 83 false [9] (.ld true 2 (.t 9))), (gMv 85 83 false 13), (gQ 86 83 false [84,85] (.call (kF 36) [(.t 84), (.t 85)])), (gQ 87 83 false [86] (.not (.t 86))), (cQ 88 [83,87] (.pick (.t 83) (kB true) (.t 87)))]) (.keep [5,11,13,88] (.cond (.t 88) (.seq (.reg false [(cQ 6 [] (.mv (kB false)))]) .ret) .skip))) (.keep [5,11,13] (.seq (.reg false [(cFa 89 5 1), (cLd 90 89 true 2), (cMv 91 13), (cQ 92 [90,91] (.call (kF 36) [(.t 90), (.t 91)])), (cMv 14 92)]) (.keep [11,14] (.seq (.reg true [(cMv 93 11), (cC 94 .eql 93 1), (cMv 95 94), (gMv 96 95 true 14), (cQ 97 [95,96] (.pick (.t 95) (.t 96) (kB false))), (cMv 98 97), (gMv 99 98 false 11), (gQ 100 98 false [99] (.bin .eql (.t 99) (kI 2))), (gMv 101 98 false 100), (gMv 102 101 true 14), (gQ 103 101 true [102] (.not (.t 102))), (gQ 104 98 false [101,103] (.pick (.t 101) (.t 103) (kB false))), (cQ 105 [98,104] (.pick (.t 98) (kB true) (.t 104))), (cMv 106 105), (gMv 107 106 false 11), (gQ 108 106 false [107] (.bin .eql (.t 107) (kI 3))), (cQ 109 [106,108] (.pick (.t 106) (kB true) (.t 108))), (cMv 110 109), (gQ 111 110 true [] (.call (kF 18) [])), (cQ 112 [110,111] (.pick (.t 110) (.t 111) (kB false))), (cMv 6 112)]) .ret)))))))))))))))))
def pu9 : List Nat := [3,5]
def rs9 : List RV := [.t 6]
theorem cc9 : CCx Try.prog Try.f9 pu9 rc9 := by unfold CCx; kernel_rfl
theorem cb9 : CBx Try.f9 := by unfold CBx; kernel_rfl
theorem cs9 : CSx Try.prog Try.f9 rs9 := by unfold CSx; kernel_rfl
theorem cn9 : 3 ≤ Try.f9.ntmps := by decide
end Go.C06
set_option linter.unusedSimpArgs false
set_option linter.unusedVariables false
namespace Go.C06
open Go.Fam Go.Proofs
theorem Qrp {c : Cane} {k : Int} : isTB c k = true ↔ k ∈ Qa4 c := by
 rw [Qff]
 simp only [isTB, Qal, Zh, decide_eq_true_eq]
theorem Qpa {c : Cane} (hC : OkC c) {l : List Int} {w : Span} (h : stE c w l = 0) {k : Int} (hk : k ∈ Qa4 c) :
  (Qc8 c l w).2 = 0 ∧ (((Qc8 c l w).1 = 1 ∧ Qal (Qaq l k) w.low w.high = true) ∨ ((Qc8 c l w).1 = 2 ∧ Qal (Qaq l k) w.low w.high = false) ∨ (Qc8 c l w).1 = 3) := by
 have e : Qc8 c l w = (fitK (Qcb l w (Qa4 c)) (Qa4 c).length, 0) := by unfold Qc8; rw [if_pos h]
 rw [e]
 refine ⟨rfl, ?_⟩
 simp only [fitK]
 split
 ·rename_i h1
  left
  unfold Qcb at h1
  rw [Z0] at h1
  exact ⟨rfl, h1 k hk⟩
 ·split
  ·rename_i h1 h2
   right; left
   unfold Qcb at h2
   rw [List.countP_eq_zero] at h2
   exact ⟨rfl, by simpa using h2 k hk⟩
  ·right; right; rfl
theorem Qns {c : Cane} (hC : OkC c) {l : List Int} (hl : ∀ n ∈ l, 1 ≤ n ∧ n ≤ 90) {k : Int} (hk : k ∈ Qa4 c) : Qal (Qaq l k) (Qet c l).low (Qet c l).high = true := by
 have ht : Qa4 c ≠ [] := Zy hk
 have h1 := Qji hk
 have h2 := Qca hC hk
 have h3 := Qnl hC ht
 have h4 := Qdd (k := k) (k' := trL c) h2.1 h1.2 hl
 have h5 := Qdd (k := trF c) (k' := k) h3.1 h1.1 hl
 simp only [Qal, Zh, decide_eq_true_eq]
 exact ⟨h4, h5⟩
set_option maxRecDepth 100000 in
set_option maxHeartbeats 4000000 in
theorem P9 (c : Cane) (k : Int) (l : List Int) (w : Span) : Qah Try.prog 9 [.ag (Qa8 c), .i k, .ag [.sl 1 (l.map eI), .i w.low, .i w.high]] (.b true) := by
 refine Qag okK2 hmix Try.func9 cb9 cc9 cs9 cn9 ?_
 have g1 := Qr5 c
 have g2 := Qt5 c
 have g3 := Qx9 c k
 have g4 := Qol c l
 have g5 := k23 w
 have g6 := Qt6 c
 have g7 := Qnq c l
 have g8 := Qom c l w
 unfold Qa8 at g1 g2 g3 g4 g6 g7 g8
 unfold Qan at g5 g7 g8
 by_cases hf : farB c = true
 ·simp only [rc9, rs9, g1, hf, Qbx, Qaa, Qab, Qae, Qac, Qa7, Qad, Qa6, Qa1, Fam.step, Qaf, Qb4, Qaz, ug, evO, opv, qv, Qd2, binV, ldV, Qar, V.cells, Qap, Qa9, Qa5, flat, Qa2, Qa0, Qa3, ↓reduceIte, Nat.reduceEqDiff, Nat.reduceAdd, Nat.reduceLT, Nat.reduceLeDiff, Qd, Qg, Qq, Qs, Qc, Qe, Qf, Qp, Qb, Qo, Qm, Qh, endQ, rvs, rv1, resV, vw_i, vw_b, Qav, Qas, zipA, Qi, Ql, Qu, Qj, Qw, Qa, Qt, true_and, and_true, and_self, false_and, forall_const, false_implies, implies_true, reduceCtorEq, beq_false, imp_self, Qa8]
 by_cases he : Qby c = 0
 ·have hC := Qdr.1 he
  by_cases hk : isTB c k = true
  ·by_cases ha : areB c l = true
   ·by_cases hw : Qb5 w 540 = true
    ·have hkm := Qrp.1 hk
     have ht : Qa4 c ≠ [] := Zy hkm
     have e1 := Qdo hC (w := ⟨0, 0⟩) (by decide) ha
     have e2 := Qdo hC (w := ⟨0, 0⟩) (by decide) (Qm3 c)
     have e3 := Qdo hC hw ha
     rw [if_neg ht] at e1 e2 e3
     have e4 := (Qki e2).2.2.2.2.2.2
     have e5 : Qbk c l = (Qet c l, 0) := by unfold Qbk; rw [if_pos e1]
     obtain ⟨h6, hp⟩ := (Qfa hC l).1 ha
     have hin := Qns hC hp.in_ hkm
     have hkk := Qca hC hkm
     have t1 : tame 1000 k := by unfold tame; omega
     have hs : Qct l := ⟨by omega, fun n hn => by have := hp.in_ n hn; unfold tame; omega⟩
     have hlen := Qcd c hC
     have hl2 : (Qa4 c).length ≤ 1000000 := by omega
     have g9 := k36 (Qet c l)
     have g10 := k36 w
     unfold Qan at g9 g10
     obtain ⟨f1, f2⟩ := Qpa hC e3 hkm
     rcases f2 with ⟨f2, f3⟩ | ⟨f2, f3⟩ | f2
     ·simp only [rc9, rs9, g1, g2, g3, g4, g5, g6, g7, g8, g9, g10, hf, he, hC, hk, ha, hw, e2, e4, e5, f1, f2, f3, Qr6, k44, hs, t1, hl2, hkm, hin, Qbx, Qaj, Qaa, Qab, Qae, Qac, Qa7, putB, Qad, Qa6, Qa1, Fam.step, Qaf, Qbf, Qb4, Qaw, Qaz, ug, putB, nv, sv, evO, opv, qv, Qai, binV, ldV, Qar, putAt, V.cells, Qap, Qb2, Qa9, Qa5, flat, Qbt, Qa2, Qau, Qa0, Qa3, ↓reduceIte, Nat.reduceEqDiff, Nat.reduceAdd, Nat.reduceLT, Nat.reduceLeDiff, Int.reduceEq, Qd, Qg, Qq, Qs, Qc, Qe, Qf, Qp, Q5, Qb, Q2, Qo, Qm, Qy, Qh, Qk, Qn, Qv, Q0, endQ, rvs, rv1, resV, vw_i, vw_b, Qav, Qas, zipA, beq_self_eq_true, Qi, Ql, Qu, Qj, Qw, Qa, Qt, decide_true, decide_false, and_true, and_self, forall_const, implies_true, reduceCtorEq, beq_true, beq_false, imp_self, Qa8]
     ·simp only [rc9, rs9, g1, g2, g3, g4, g5, g6, g7, g8, g9, g10, hf, he, hC, hk, ha, hw, e2, e4, e5, f1, f2, f3, Qr6, k44, hs, t1, hl2, hkm, hin, Qbx, Qaj, Qaa, Qab, Qae, Qac, Qa7, putB, Qad, Qa6, Qa1, Fam.step, Qaf, Qbf, Qb4, Qaw, Qaz, ug, putB, nv, sv, evO, opv, qv, Qai, binV, ldV, Qar, putAt, V.cells, Qap, Qb2, Qa9, Qa5, flat, Qbt, Qa2, Qau, Qa0, Qa3, ↓reduceIte, Nat.reduceEqDiff, Nat.reduceAdd, Nat.reduceLT, Nat.reduceLeDiff, Int.reduceEq, Qd, Qg, Qq, Qs, Qc, Qe, Qf, Qp, Q5, Qb, Q2, Qo, Qm, Qy, Qh, Qk, Qn, Qv, Q0, endQ, rvs, rv1, resV, vw_i, vw_b, Qav, Qas, zipA, beq_self_eq_true, Qi, Ql, Qu, Qj, Qw, Qx, Qa, Qt, decide_true, decide_false, and_true, and_self, forall_const, implies_true, reduceCtorEq, beq_true, beq_false, imp_self, Qa8]
     ·simp only [rc9, rs9, g1, g2, g3, g4, g5, g6, g7, g8, g9, g10, hf, he, hC, hk, ha, hw, e2, e4, e5, f1, f2, Qr6, k44, hs, t1, hl2, hkm, hin, Qbx, Qaj, Qaa, Qab, Qae, Qac, Qa7, putB, Qad, Qa6, Qa1, Fam.step, Qaf, Qbf, Qb4, Qaw, Qaz, ug, putB, nv, sv, evO, opv, qv, Qai, binV, ldV, Qar, putAt, V.cells, Qap, Qb2, Qa9, Qa5, flat, Qbt, Qa2, Qau, Qa0, Qa3, ↓reduceIte, Nat.reduceEqDiff, Nat.reduceAdd, Nat.reduceLT, Nat.reduceLeDiff, Int.reduceEq, Qd, Qg, Qq, Qs, Qc, Qe, Qf, Qp, Q5, Qb, Q2, Qo, Qm, Qy, Qh, Qk, Qn, Qv, Q0, endQ, rvs, rv1, resV, vw_i, vw_b, Qav, Qas, zipA, beq_self_eq_true, Qi, Ql, Qu, Q6, Qj, Qw, Qa, Qt, decide_true, decide_false, and_true, and_self, forall_const, implies_true, reduceCtorEq, beq_true, imp_self, Qa8]
    ·simp only [rc9, rs9, g1, g2, g3, g4, g5, hf, he, hC, hk, ha, hw, Qbx, Qaa, Qab, Qae, Qac, Qa7, Qad, Qa6, Qa1, Fam.step, Qaf, Qb4, Qaz, ug, evO, opv, qv, Qai, binV, ldV, Qar, V.cells, Qap, Qa9, Qa5, flat, Qa2, Qa0, Qa3, ↓reduceIte, Nat.reduceEqDiff, Nat.reduceAdd, Nat.reduceLT, Nat.reduceLeDiff, Qd, Qg, Qq, Qs, Qc, Qe, Qf, Qp, Qb, Qo, Qm, Qh, endQ, rvs, rv1, resV, vw_i, vw_b, Qav, Qas, zipA, beq_self_eq_true, Qi, Ql, Qj, Qw, Qx, Qa, decide_true, and_self, forall_const, implies_true, reduceCtorEq, Qa8]
   ·simp only [rc9, rs9, g1, g2, g3, g4, hf, he, hC, hk, ha, Qbx, Qaa, Qab, Qae, Qac, Qa7, Qad, Qa6, Qa1, Fam.step, Qaf, Qb4, Qaz, ug, evO, opv, qv, Qai, Qd2, binV, ldV, Qar, V.cells, Qap, Qa9, Qa5, flat, Qa2, Qa0, Qa3, ↓reduceIte, Nat.reduceEqDiff, Nat.reduceAdd, Nat.reduceLT, Nat.reduceLeDiff, Qd, Qg, Qq, Qs, Qc, Qe, Qf, Qp, Qb, Qo, Qm, Qh, endQ, rvs, rv1, resV, vw_i, vw_b, Qav, Qas, zipA, beq_self_eq_true, Qi, Ql, Qu, Qj, Qw, Qx, Qa, Qt, decide_true, true_and, and_true, and_self, false_and, forall_const, false_implies, implies_true, reduceCtorEq, beq_false, imp_self, Qa8]
  ·simp only [rc9, rs9, g1, g2, g3, hf, he, hC, hk, Qbx, Qaa, Qab, Qae, Qac, Qa7, Qad, Qa6, Qa1, Fam.step, Qaf, Qb4, Qaz, ug, evO, opv, qv, Qai, Qd2, binV, ldV, Qar, V.cells, Qap, Qa9, Qa5, flat, Qa2, Qa0, Qa3, ↓reduceIte, Nat.reduceEqDiff, Nat.reduceAdd, Nat.reduceLT, Nat.reduceLeDiff, Qd, Qg, Qq, Qs, Qc, Qe, Qf, Qp, Qb, Qo, Qm, Qh, endQ, rvs, rv1, resV, vw_i, vw_b, Qav, Qas, zipA, beq_self_eq_true, Qi, Ql, Qu, Qj, Qw, Qx, Qa, Qt, decide_true, true_and, and_true, and_self, false_and, forall_const, false_implies, implies_true, reduceCtorEq, beq_false, imp_self, Qa8]
 ·simp only [rc9, rs9, g1, g2, hf, he, Qbx, Qaa, Qab, Qae, Qac, Qa7, Qad, Qa6, Qa1, Fam.step, Qaf, Qb4, Qaz, ug, evO, opv, qv, Qai, Qd2, binV, ldV, Qar, V.cells, Qap, Qa9, Qa5, flat, Qa2, Qa0, Qa3, ↓reduceIte, Nat.reduceEqDiff, Nat.reduceAdd, Nat.reduceLT, Nat.reduceLeDiff, Qd, Qg, Qq, Qs, Qc, Qe, Qf, Qp, Qb, Qo, Qm, Qh, endQ, rvs, rv1, resV, vw_i, vw_b, Qav, Qas, zipA, beq_self_eq_true, Qi, Ql, Qu, Qj, Qw, Qx, Qa, Qt, decide_false, true_and, and_true, and_self, false_and, forall_const, false_implies, implies_true, reduceCtorEq, beq_false, imp_self, Qa8]
end Go.C06
set_option linter.unusedSimpArgs false
set_option linter.unusedVariables false
namespace Go.C06
open Go.Fam Go.Proofs
def Qdx (c : Cane) (w : Span) : Nat → Int → Int → List Int → Bool
 | 0, a, _, _ => Qal a w.low w.high
 | n + 1, a, i, T => Qal a w.low w.high || (ints 1 (Qc2 c i)).any fun b => T.all fun k => Qdx c w n (a + b - Qb1 b k) (i + 1) (T.filter fun k' => decide (Qb1 b k' = Qb1 b k))
theorem Qgz {c c' : Cane} {w w' : Span} (hc : ∀ i : Int, 0 ≤ i → Qc2 c i ≤ Qc2 c' i) (hw : w'.low ≤ w.low ∧ w.high ≤ w'.high) :
  ∀ (n : Nat) (a i : Int) (T T' : List Int), 0 ≤ i → (∀ k ∈ T', k ∈ T) → Qdx c w n a i T = true → Qdx c' w' n a i T' = true := by
 have hin : ∀ a, Qal a w.low w.high = true → Qal a w'.low w'.high = true := fun a h => by
  simp only [Qal, Zh, decide_eq_true_eq] at h ⊢; omega
 intro n
 induction n with
 | zero => intro a i T T' _ _ h; exact hin a h
 | succ n ih =>
  intro a i T T' hi hT h
  rw [Qdx, Xy] at h ⊢
  rcases h with h | h
  ·exact .inl (hin a h)
  ·right
   rw [Zb] at h ⊢
   obtain ⟨b, hb, h⟩ := h
   rw [Qdb] at hb
   have hm := hc i hi
   refine ⟨b, Qdb.2 (by omega), ?_⟩
   rw [Zu] at h ⊢
   intro k hk
   refine ih _ _ _ _ (by omega) (fun k' hk' => ?_) (h k (hT k hk))
   rw [Zz] at hk' ⊢
   exact ⟨hT k' hk'.1, hk'.2⟩
theorem Qli {c : Cane} {w : Span} {n : Nat} {a i : Int} {T T' : List Int} (hi : 0 ≤ i) (h : ∀ k, k ∈ T ↔ k ∈ T') : Qdx c w n a i T = Qdx c w n a i T' := by
 rw [Xz]
 exact ⟨Qgz (fun _ _ => Zf _) ⟨Zf _, Zf _⟩ n a i T T' hi fun k hk => (h k).2 hk, Qgz (fun _ _ => Zf _) ⟨Zf _, Zf _⟩ n a i T' T hi fun k hk => (h k).1 hk⟩
theorem Qo5 {c : Cane} {w : Span} : ∀ (n : Nat) (a i : Int) (T : List Int), w.high < a → T ≠ [] → (∀ k ∈ T, 0 ≤ k ∧ k ≤ 500) → Qdx c w n a i T = false := by
 intro n
 induction n with
 | zero => intro a i T h _ _; simp only [Qdx, Qal, Xg, decide_eq_false_iff_not]; omega
 | succ n ih =>
  intro a i T h hT hk
  rw [Qdx, Xj]
  refine ⟨by simp only [Qal, Xg, decide_eq_false_iff_not]; omega, ?_⟩
  rw [List.any_eq_false]
  intro b hb
  rw [Qdb] at hb
  obtain ⟨k, hkT⟩ := Z7 T hT
  have h1 := Qjl (b := b) (k := k) (by omega) (hk k hkT)
  rw [Zu]
  intro h2
  have := h2 k hkT
  rw [ih (a + b - Qb1 b k) (i + 1) _ (by omega) (Zy (Zz.2 ⟨hkT, by simp⟩)) (fun k' hk' => hk k' (Zz.1 hk').1)] at this
  cases this
theorem Qo6 {c : Cane} {w : Span} : ∀ (l : List Int) (a i : Int) (T : List Int), T ≠ [] → (∀ j : Nat, j < l.length → 1 ≤ l.getD j 0 ∧ l.getD j 0 ≤ Qc2 c (i + j)) → (∀ k ∈ T, Qal (a + Qaq l k) w.low w.high = true) → Qdx c w l.length a i T = true := by
 intro l
 induction l with
 | nil =>
  intro a i T hT _ h
  obtain ⟨k, hk⟩ := Z7 T hT
  have := h k hk
  simpa [Qaq, Qdx] using this
 | cons b l ih =>
  intro a i T hT hp h
  rw [Qc, Qdx, Xy]
  right
  rw [Zb]
  have hb := hp 0 (by simp)
  simp only [List.getD_cons_zero, Zi, Xp] at hb
  refine ⟨b, Qdb.2 hb, ?_⟩
  rw [Zu]
  intro k hk
  refine ih _ _ _ (Zy (Zz.2 ⟨hk, by simp⟩)) (fun j hj => ?_) fun k' hk' => ?_
  ·have := hp (j + 1) (by simp; omega)
   rw [List.getD_cons_succ] at this
   rw [Zk, Zl] at this
   rw [show i + 1 + (j : Int) = i + (j + 1) by omega]
   exact this
  ·rw [Zz, decide_eq_true_eq] at hk'
   have := h k' hk'.1
   have e : a + Qaq (b :: l) k' = a + b - Qb1 b k + Qaq l k' := by
    unfold Qaq
    rw [Qd, Xl, hk'.2]; omega
   rw [e] at this
   exact this
theorem Qrn {b : Int} {ts : List Int} {l : Nat} (hm : ∀ i j : Nat, i ≤ j → j ≤ l → Qb1 b (ts.getD i 0) ≤ Qb1 b (ts.getD j 0)) :
  ∀ (n f : Nat), l + 1 ≤ f + n → (∀ p ∈ grpF b ts l f, f ≤ p.1 ∧ p.1 ≤ p.2 ∧ p.2 ≤ l ∧ ∀ j, f ≤ j → j ≤ l → (Qb1 b (ts.getD j 0) = Qb1 b (ts.getD p.1 0) ↔ p.1 ≤ j ∧ j ≤ p.2)) ∧
   ∀ j, f ≤ j → j ≤ l → ∃ p ∈ grpF b ts l f, p.1 ≤ j ∧ j ≤ p.2 := by
 intro n
 induction n with
 | zero =>
  intro f hf
  have e : grpF b ts l f = [] := by
   unfold grpF grpP
   rw [if_neg (by omega)]
  rw [e]
  exact ⟨fun p hp => (by cases hp), fun j h1 h2 => (by omega)⟩
 | succ n ih =>
  intro f hf
  by_cases hfl : f ≤ l
  ·rw [Qi9 hfl]
   obtain ⟨t1, t2, t3⟩ := Qqx (bend := b) (v := Qb1 b (ts.getD f 0)) (ts := ts) hfl
   have t4 := Quj (bend := b) (v := Qb1 b (ts.getD f 0)) (ts := ts) hfl
   obtain ⟨e, he⟩ : ∃ e, e = endP b ts l f := ⟨_, rfl⟩
   have he2 : toF b (Qb1 b (ts.getD f 0)) ts l f = e := he.symm
   rw [he2] at t1 t2 t3 t4
   rw [← he]
   obtain ⟨i1, i2⟩ := ih (e + 1) (by omega)
   have hin : ∀ j, f ≤ j → j ≤ e → Qb1 b (ts.getD j 0) = Qb1 b (ts.getD f 0) := fun j h1 h2 => by
    by_cases hj : j = f
    ·rw [hj]
    ·exact t3 j (by omega) h2
   have hout : ∀ j, e < j → j ≤ l → Qb1 b (ts.getD f 0) < Qb1 b (ts.getD j 0) := fun j h1 h2 => by
    have k1 := t4 (by omega)
    have k2 := hm f (e + 1) (by omega) (by omega)
    have k3 := hm (e + 1) j (by omega) h2
    omega
   refine ⟨fun p hp => ?_, fun j h1 h2 => ?_⟩
   ·rcases List.mem_cons.1 hp with rfl | hp
    ·refine ⟨Zv _, t1, t2, fun j h1 h2 => ⟨fun h => ⟨h1, ?_⟩, fun h => hin j h1 h.2⟩⟩
     refine Xb fun h3 => ?_
     have := hout j h3 h2
     have h' : Qb1 b (ts.getD j 0) = Qb1 b (ts.getD f 0) := h
     omega
    ·obtain ⟨a1, a2, a3, a4⟩ := i1 p hp
     refine ⟨by omega, a2, a3, fun j h1 h2 => ?_⟩
     by_cases hj : e < j
     ·exact a4 j hj h2
     ·have k1 := hin j h1 (by omega)
      have k2 := hout p.1 (by omega) (by omega)
      constructor
      ·intro h; omega
      ·intro h; omega
   ·by_cases hj : e < j
    ·obtain ⟨p, hp, hpj⟩ := i2 j hj h2
     exact ⟨p, List.mem_cons_of_mem _ hp, hpj⟩
    ·exact ⟨(f, e), List.mem_cons_self, h1, by show j ≤ e; omega⟩
  ·have e : grpF b ts l f = [] := by
    unfold grpF grpP
    rw [if_neg hfl]
   rw [e]
   exact ⟨fun p hp => (by cases hp), fun j h1 h2 => (by omega)⟩
def seg (ts : List Int) (f l : Nat) : List Int := (List.range' f (l + 1 - f)).map fun j => ts.getD j 0
theorem Qfx {ts : List Int} {f l : Nat} {k : Int} : k ∈ seg ts f l ↔ ∃ j, f ≤ j ∧ j ≤ l ∧ ts.getD j 0 = k := by
 unfold seg
 rw [List.mem_map]
 constructor
 ·rintro ⟨j, hj, rfl⟩
  rw [Xu] at hj
  exact ⟨j, hj.1, by omega, rfl⟩
 ·rintro ⟨j, h1, h2, rfl⟩
  exact ⟨j, Xu.2 (by omega), rfl⟩
theorem Qtm {p : Int → Bool} {L : List Int} (h : ∀ x ∈ L, 0 ≤ x) : 0 ≤ (L.find? p).getD (-1) ↔ L.any p = true := by
 cases hf : L.find? p with
 | none =>
  rw [Z6] at hf
  simp only [Zm, Zb]
  constructor
  ·intro h; omega
  ·rintro ⟨x, hx, hp⟩; exact absurd hp (hf x hx)
 | some x =>
  have h1 := X0 hf
  have h2 := Z8 hf
  simp only [Qv, Zb]
  exact ⟨fun _ => ⟨x, h2, h1⟩, fun _ => h x h2⟩
theorem Qqb {c : Cane} {w : Span} {ts : List Int} (hs : ts.Pairwise (· < ·)) (hk : ∀ k ∈ ts, 0 ≤ k ∧ k ≤ 500) :
  ∀ (n : Nat) (a num : Int) (f l : Nat), 0 ≤ num → f ≤ l → l < ts.length → (0 ≤ Qh2 c w ts n a num f l ↔ Qdx c w n a num (seg ts f l) = true) := by
 have hkd : ∀ j, j < ts.length → 0 ≤ ts.getD j 0 ∧ ts.getD j 0 ≤ 500 := fun j hj => hk _ (Qdh hj)
 have hmn : ∀ b, 0 ≤ b → ∀ i j : Nat, i ≤ j → j < ts.length → Qb1 b (ts.getD i 0) ≤ Qb1 b (ts.getD j 0) := by
  intro b hb i j hij hj
  refine Qku hb (hkd i (by omega)).1 ?_
  by_cases e : i = j
  ·rw [e]; exact Zf _
  ·have := Zr.1 hs i j (by omega) hj (by omega)
   simp only [Qr]
   rw [Qz (show i < ts.length by omega), Qz hj]
   simp only [Qv]; omega
 intro n
 induction n with
 | zero =>
  intro a num f l _ _ _
  rw [Qh2, Qdx]
  split
  ·rename_i h; simp [h]
  ·rename_i h; simp [h]
 | succ n ih =>
  intro a num f l hnum hfl hl
  have hne : seg ts f l ≠ [] := Zy (Qfx.2 ⟨f, Zv _, hfl, rfl⟩)
  have hin : ∀ k ∈ seg ts f l, 0 ≤ k ∧ k ≤ 500 := fun k hk' => by
   obtain ⟨j, j1, j2, rfl⟩ := Qfx.1 hk'
   exact hkd j (by omega)
  by_cases hw : Qal a w.low w.high = true
  ·rw [Qh2, if_pos hw, Qdx, hw]; simp
  ·by_cases hh : w.high < a
   ·rw [Qh2, if_neg hw, if_pos hh, Qo5 _ _ _ _ hh hne hin]; simp
   ·rw [Qh2, if_neg hw, if_neg hh, Qdx, Qtm (fun x hx => by rw [Qdb] at hx; omega)]
    simp only [hw, Xa]
    rw [Zb, Zb]
    have key : ∀ b ∈ ints 1 (Qc2 c num), ((grpF b ts l f).all fun p => decide (0 ≤ Qh2 c w ts n (a + b - Qb1 b (ts.getD p.1 0)) (num + 1) p.1 p.2)) = true ↔
      ((seg ts f l).all fun k => Qdx c w n (a + b - Qb1 b k) (num + 1) ((seg ts f l).filter fun k' => decide (Qb1 b k' = Qb1 b k))) = true := by
     intro b hb
     rw [Qdb] at hb
     obtain ⟨s1, s2⟩ := Qrn (b := b) (ts := ts) (l := l) (fun i j h1 h2 => hmn b (by omega) i j h1 (by omega)) (l + 1) f (by omega)
     have hset : ∀ p ∈ grpF b ts l f, ∀ j, p.1 ≤ j → j ≤ p.2 → (Qdx c w n (a + b - Qb1 b (ts.getD p.1 0)) (num + 1) (seg ts p.1 p.2) = Qdx c w n (a + b - Qb1 b (ts.getD j 0)) (num + 1) ((seg ts f l).filter fun k' => decide (Qb1 b k' = Qb1 b (ts.getD j 0)))) := by
      intro p hp j j1 j2
      obtain ⟨a1, a2, a3, a4⟩ := s1 p hp
      have ej : Qb1 b (ts.getD j 0) = Qb1 b (ts.getD p.1 0) := (a4 j (by omega) (by omega)).2 ⟨j1, j2⟩
      rw [ej]
      refine Qli (by omega) fun k => ?_
      rw [Zz, Qfx, Qfx, decide_eq_true_eq]
      constructor
      ·rintro ⟨i, i1, i2, rfl⟩
       exact ⟨⟨i, by omega, by omega, rfl⟩, (a4 i (by omega) (by omega)).2 ⟨i1, i2⟩⟩
      ·rintro ⟨⟨i, i1, i2, rfl⟩, h⟩
       have := (a4 i i1 i2).1 h
       exact ⟨i, this.1, this.2, rfl⟩
     rw [Zu, Zu]
     constructor
     ·intro h k hk'
      obtain ⟨j, j1, j2, rfl⟩ := Qfx.1 hk'
      obtain ⟨p, hp, p1, p2⟩ := s2 j j1 j2
      obtain ⟨a1, a2, a3, a4⟩ := s1 p hp
      have := h p hp
      rw [decide_eq_true_eq, ih _ _ _ _ (by omega) a2 (by omega), hset p hp j p1 p2] at this
      exact this
     ·intro h p hp
      obtain ⟨a1, a2, a3, a4⟩ := s1 p hp
      rw [decide_eq_true_eq, ih _ _ _ _ (by omega) a2 (by omega), hset p hp p.1 (Zv _) a2]
      exact h _ (Qfx.2 ⟨p.1, a1, by omega, rfl⟩)
    constructor
    ·rintro ⟨b, hb, h⟩; exact ⟨b, hb, (key b hb).1 h⟩
    ·rintro ⟨b, hb, h⟩; exact ⟨b, hb, (key b hb).2 h⟩
def Qpx (c : Cane) (w : Span) (n : Nat) : Bool := Qdx c w n 0 0 (Qa4 c)
theorem Qqa {c : Cane} (hC : OkC c) (ht : Qa4 c ≠ []) (w : Span) (n : Nat) : 0 ≤ Qk8 c w n ↔ Qpx c w n = true := by
 have hpos := Zs.2 ht
 have e : Qk8 c w n = Qh2 c w (Qa4 c) n 0 0 0 ((Qa4 c).length - 1) := by
  unfold Qk8 Qf2 Qs9
  simp only [Ze]
  rw [show ((((Qa4 c).length : Int) - 1).toNat) = (Qa4 c).length - 1 by omega]; rfl
 rw [e, Qqb (Qdc c) (fun k hk => Qca hC hk) n 0 0 0 _ (Zf _) (Xx _) (by omega)]
 unfold Qpx
 rw [Qli (Zf _) fun k => ?_]
 rw [Qfx]
 constructor
 ·rintro ⟨j, _, j2, rfl⟩
  exact Qdh (by omega)
 ·intro hk
  obtain ⟨j, hj, rfl⟩ := Xh.1 hk
  exact ⟨j, Xx _, by omega, by rw [Qr, Qz hj]; rfl⟩
theorem Qig {c : Cane} (hC : OkC c) (ht : Qa4 c ≠ []) (w : Span) : Qiy c w = (Zw 7).find? fun n => Qpx c w n := by
 unfold Qiy
 congr 1
 funext n
 rw [Xz, decide_eq_true_eq]
 exact Qqa hC ht w n
end Go.C06
set_option linter.unusedSimpArgs false
set_option linter.unusedVariables false
namespace Go.C06
open Go.Fam Go.Proofs
theorem Qni {c : Cane} (hC : OkC c) {w : Span} (hw : Qb5 w 540 = true) : stE c w [] = if Qa4 c = [] then 3 else 0 := Qdo hC hw (Qm3 c)
theorem Qjp {c : Cane} (hC : OkC c) {w : Span} (hw : Qb5 w 540 = true) : ((fewR c w).2 = 3 ∧ (fewR c w).1 = 0) ∨ ∃ n, Qa4 c ≠ [] ∧ fewN c w = some n ∧ fewR c w = ((n : Int), 0) := by
 have e := Qni hC hw
 by_cases ht : Qa4 c = []
 ·rw [if_pos ht] at e
  left; unfold fewR; rw [e]; exact ⟨rfl, rfl⟩
 ·rw [if_neg ht] at e
  unfold fewR
  rw [if_pos e]
  cases hf : fewN c w with
  | none => left; exact ⟨rfl, rfl⟩
  | some n => right; exact ⟨n, ht, rfl, rfl⟩
theorem Qsn {c : Cane} (hC : OkC c) {w : Span} (hw : Qb5 w 540 = true) (ht : Qa4 c ≠ []) {n : Nat} (h : fewN c w = some n) : fewR c w = ((n : Int), 0) := by
 have e := Qni hC hw
 rw [if_neg ht] at e
 unfold fewR
 rw [if_pos e, h]
theorem Qk4 {c : Cane} (hC : OkC c) {w : Span} (hw : Qb5 w 540 = true) : ((Qbu c w).2.2 = 3 ∧ (Qbu c w).1 = 0 ∧ (Qbu c w).2.1 = 0) ∨ ∃ n, Qa4 c ≠ [] ∧ Qiy c w = some n ∧ Qbu c w = ((n : Int), Qk8 c w n, 0) := by
 have e := Qni hC hw
 by_cases ht : Qa4 c = []
 ·rw [if_pos ht] at e
  left; unfold Qbu; rw [e]; exact ⟨rfl, rfl, rfl⟩
 ·rw [if_neg ht] at e
  unfold Qbu
  rw [if_pos e]
  cases hf : Qiy c w with
  | none => left; exact ⟨rfl, rfl, rfl⟩
  | some n => right; exact ⟨n, ht, rfl, rfl⟩
theorem Qpy {c : Cane} (hC : OkC c) {w : Span} (hw : Qb5 w 540 = true) (ht : Qa4 c ≠ []) {n : Nat} (h : Qiy c w = some n) : Qbu c w = ((n : Int), Qk8 c w n, 0) := by
 have e := Qni hC hw
 rw [if_neg ht] at e
 unfold Qbu
 rw [if_pos e, h]
theorem Qw2 {p : Nat → Bool} {n : Nat} (hn : n < 7) (h : p n = true) : ∃ m, m ≤ n ∧ (Zw 7).find? p = some m := by
 cases hf : (Zw 7).find? p with
 | none =>
  rw [Z6] at hf
  exact absurd h (hf n (by simpa using hn))
 | some m =>
  refine ⟨m, Xb fun hlt => ?_, rfl⟩
  rw [Z3] at hf
  obtain ⟨h1, i, hi, he, h3⟩ := hf
  simp only [Xn] at he h3
  subst he
  have := h3 n hlt
  rw [h] at this
  cases this
theorem Qrh {p : Nat → Bool} {n : Nat} (h : (Zw 7).find? p = some n) : n < 7 ∧ p n = true := by
 have h1 := Z8 h
 have h2 := X0 h
 exact ⟨by simpa using h1, h2⟩
theorem Qkm {c : Cane} (hC : OkC c) (ht : Qa4 c ≠ []) {w : Span} {l : List Int} : Sure c w l ↔ Poss c l ∧ ∀ k ∈ Qa4 c, Qal (Qaq l k) w.low w.high = true := by
 constructor
 ·rintro ⟨h1, h2⟩
  refine ⟨h1, fun k hk => ?_⟩
  have := (Qhs hC ht h1.in_ w).2 h2
  unfold Qcb at this
  rw [Z0] at this
  exact this k hk
 ·rintro ⟨h1, h2⟩
  refine ⟨h1, (Qhs hC ht h1.in_ w).1 ?_⟩
  unfold Qcb
  rw [Z0]
  exact h2
structure Bett (c c' : Cane) (w w' : Span) : Prop where
 o1 : OkC c
 o2 : OkC c'
 w1 : Qb5 w 540 = true
 w2 : Qb5 w' 540 = true
 ne : Qa4 c' ≠ []
 sub : ∀ k ∈ Qa4 c', k ∈ Qa4 c
 most : ∀ i : Int, 0 ≤ i → Qc2 c i ≤ Qc2 c' i
 wide : w'.low ≤ w.low ∧ w.high ≤ w'.high
theorem Bett.few {c c' : Cane} {w w' : Span} (h : Bett c c' w w') (h0 : (fewR c w).2 = 0) : (fewR c' w').2 = 0 ∧ (fewR c' w').1 ≤ (fewR c w).1 := by
 rcases Qjp h.o1 h.w1 with h1 | ⟨n, ht, h1, h2⟩
 ·rw [h1.1] at h0; cases h0
 ·obtain ⟨k1, ⟨l, k2, k3⟩, k4⟩ := Qdw.1 h1
  have hs : Sure c' w' l := by
   rw [Qkm h.o2 h.ne]
   rw [Qkm h.o1 ht] at k2
   refine ⟨fun i hi => ?_, fun k hk => ?_⟩
   ·have := k2.1 i hi
    have := h.most i (by omega)
    omega
   ·have := k2.2 k (h.sub k hk)
    have := h.wide
    simp only [Qal, Zh, decide_eq_true_eq] at *
    omega
  cases hf : fewN c' w' with
  | none =>
   have := Qg6.1 hf l hs
   omega
  | some m =>
   have := (Qdw.1 hf).2.2 l hs
   rw [Qsn h.o2 h.w2 h.ne hf, h2]
   exact ⟨rfl, by show (m : Int) ≤ n; omega⟩
theorem Bett.meas {c c' : Cane} {w w' : Span} (h : Bett c c' w w') (h0 : (Qbu c w).2.2 = 0) : (Qbu c' w').2.2 = 0 ∧ (Qbu c' w').1 ≤ (Qbu c w).1 := by
 rcases Qk4 h.o1 h.w1 with h1 | ⟨n, ht, h1, h2⟩
 ·rw [h1.1] at h0; cases h0
 ·rw [Qig h.o1 ht] at h1
  obtain ⟨k1, k2⟩ := Qrh h1
  have k3 : Qpx c' w' n = true := Qgz h.most h.wide n 0 0 _ _ (Zf _) h.sub k2
  obtain ⟨m, hm, hf⟩ := Qw2 k1 k3
  rw [← Qig h.o2 h.ne] at hf
  rw [Qpy h.o2 h.w2 h.ne hf, h2]
  exact ⟨rfl, by show (m : Int) ≤ n; omega⟩
theorem Qrq {c : Cane} (hC : OkC c) {w : Span} (hw : Qb5 w 540 = true) (h0 : (fewR c w).2 = 0) : (Qbu c w).2.2 = 0 ∧ 0 ≤ (Qbu c w).1 ∧ (Qbu c w).1 ≤ (fewR c w).1 := by
 rcases Qjp hC hw with h1 | ⟨n, ht, h1, h2⟩
 ·rw [h1.1] at h0; cases h0
 ·obtain ⟨k1, ⟨l, k2, k3⟩, k4⟩ := Qdw.1 h1
  rw [Qkm hC ht] at k2
  have k5 : Qpx c w l.length = true := Qo6 l 0 0 _ ht (fun j hj => by
   have := k2.1 j hj
   rwa [Int.zero_add]) (fun k hk => by
   rw [Int.zero_add]; exact k2.2 k hk)
  obtain ⟨m, hm, hf⟩ := Qw2 (by omega) k5
  rw [← Qig hC ht] at hf
  rw [Qpy hC hw ht hf, h2]
  exact ⟨rfl, Zg _, by show (m : Int) ≤ n; omega⟩
theorem Qrj {c : Cane} (hC : OkC c) {w : Span} (hw : Qb5 w 540 = true) {l : List Int} (ha : areB c l = true) (h0 : (Qc8 c l w).2 = 0) (h1 : (Qc8 c l w).1 = 1) : (fewR c w).2 = 0 ∧ (fewR c w).1 ≤ l.length := by
 have e := Qdo hC hw ha
 obtain ⟨h6, hp⟩ := (Qfa hC l).1 ha
 by_cases ht : Qa4 c = []
 ·rw [if_pos ht] at e
  have : Qc8 c l w = (0, 3) := by unfold Qc8; rw [e]; rfl
  rw [this] at h0; cases h0
 ·rw [if_neg ht] at e
  have e2 : Qc8 c l w = (fitK (Qcb l w (Qa4 c)) (Qa4 c).length, 0) := by unfold Qc8; rw [if_pos e]
  rw [e2] at h1
  simp only [fitK] at h1
  have hg : Qcb l w (Qa4 c) = (Qa4 c).length := by
   split at h1
   ·assumption
   ·split at h1 <;> cases h1
  have hs : Sure c w l := ⟨hp, (Qhs hC ht hp.in_ w).1 hg⟩
  cases hf : fewN c w with
  | none =>
   have := Qg6.1 hf l hs
   omega
  | some m =>
   have := (Qdw.1 hf).2.2 l hs
   rw [Qsn hC hw ht hf]
   exact ⟨rfl, by show (m : Int) ≤ l.length; omega⟩
theorem Qri {c : Cane} (hC : OkC c) {w : Span} (hw : Qb5 w 540 = true) {l : List Int} (ha : areB c l = true) : (Qc8 c l w).2 = 0 ∨ (Qc8 c l w).2 = 3 := by
 have e := Qdo hC hw ha
 by_cases ht : Qa4 c = []
 ·rw [if_pos ht] at e
  right; unfold Qc8; rw [e]; rfl
 ·rw [if_neg ht] at e
  left; unfold Qc8; rw [if_pos e]
theorem Qnb {c : Cane} (h : Qf3 c = true) : OkC c := by
 unfold Qf3 at h
 rw [Zh, decide_eq_true_eq] at h
 exact Qdr.1 h.2
end Go.C06
set_option linter.unusedSimpArgs false
set_option linter.unusedVariables false
namespace Go.C06
open Go.Fam Go.Proofs
set_option maxRecDepth 100000 in
set_option maxHeartbeats 4000000 in
theorem P10 (c : Cane) (l : List Int) (w : Span) : Qah Try.prog 10 [.ag (Qa8 c), .ag [.sl 1 (l.map eI), .i w.low, .i w.high]] (.b true) := by
 refine Qag okK2 hmix Try.func10 cb10 cc10 cs10 cn10 ?_
 have g1 := k22 c
 have g4 := Qol c l
 have g5 := k23 w
 have g6 := Qt7 c w
 have g7 := Qt8 c w
 have g8 := Qom c l w
 unfold Qa8 at g1 g4 g6 g7 g8
 unfold Qan at g5 g6 g7 g8
 by_cases hr : Qf3 c = true
 ·have hC := Qnb hr
  by_cases hw : Qb5 w 540 = true
  ·by_cases ha : areB c l = true
   ·have hg := Qri hC hw ha
    have hgf := Qrj hC hw ha
    obtain ⟨n, hn⟩ : ∃ n, n = (fewR c w).1 := ⟨_, rfl⟩
    obtain ⟨m, hm⟩ : ∃ n, n = (Qbu c w).1 := ⟨_, rfl⟩
    obtain ⟨k, hk⟩ : ∃ n, n = (Qc8 c l w).1 := ⟨_, rfl⟩
    rw [← hn] at g6
    rw [← hm] at g7
    rw [← hk] at g8
    have hE : (fewR c w).2 = 0 ∨ (fewR c w).2 = 3 := by
     rcases Qjp hC hw with h | ⟨x, _, _, h⟩
     ·exact .inr h.1
     ·rw [h]; exact .inl rfl
    have hF : (Qbu c w).2.2 = 0 ∨ (Qbu c w).2.2 = 3 := by
     rcases Qk4 hC hw with h | ⟨x, _, _, h⟩
     ·exact .inr h.1
     ·rw [h]; exact .inl rfl
    rw [← hn, ← hk] at hgf
    rcases hE with hE | hE
    ·obtain ⟨k1, k2, k3⟩ := Qrq hC hw hE
     rw [← hm] at k2 k3
     rw [← hn] at k3
     have j1 : ¬ n < m := by omega
     have j2 : ¬ m < 0 := by omega
     rcases hg with hg | hg
     ·by_cases hk1 : k = 1
      ·have j3 := (hgf hg hk1).2
       simp only [rc10, rs10, g1, g4, g5, g6, g7, g8, hr, hw, ha, hC, hE, k1, j1, j2, hg, hk1, j3, Qbx, Qaj, Qaa, Qab, Qae, Qac, Qa7, Qad, Qa6, Qa1, Fam.step, Qaf, Qb4, Qaz, ug, evO, opv, qv, Qai, binV, ldV, lenV, Qar, V.cells, Qap, Qa9, Qa5, flat, Qbt, Qa2, Qa0, Qa3, ↓reduceIte, Nat.reduceEqDiff, Nat.reduceAdd, Nat.reduceLT, Nat.reduceLeDiff, Int.reduceEq, Qd, Qg, Qq, Qs, Qc, Qe, Qf, Qp, Qb, Qo, Qm, Qh, Qk, Qn, Qv, endQ, rvs, rv1, resV, vw_i, vw_b, Qav, Qas, zipA, beq_self_eq_true, Qi, Ql, Qu, Q6, Qj, Qw, Qx, Qa, Qt, decide_true, decide_false, and_true, and_self, forall_const, implies_true, reduceCtorEq, beq_true, imp_self, Q1, Qa8]
      ·simp only [rc10, rs10, g1, g4, g5, g6, g7, g8, hr, hw, ha, hC, hE, k1, j1, j2, hg, hk1, Qbx, Qaj, Qaa, Qab, Qae, Qac, Qa7, Qad, Qa6, Qa1, Fam.step, Qaf, Qb4, Qaz, ug, evO, opv, qv, Qai, binV, ldV, Qar, V.cells, Qap, Qa9, Qa5, flat, Qbt, Qa2, Qa0, Qa3, ↓reduceIte, Nat.reduceEqDiff, Nat.reduceAdd, Nat.reduceLT, Nat.reduceLeDiff, Int.reduceEq, Qd, Qg, Qq, Qs, Qc, Qe, Qf, Qp, Qb, Qo, Qm, Qh, Qk, Qn, Qv, endQ, rvs, rv1, resV, vw_i, vw_b, Qav, Qas, zipA, beq_self_eq_true, Qi, Ql, Qu, Q6, Qj, Qw, Qx, Qa, Qt, decide_true, decide_false, and_true, and_self, forall_const, implies_true, reduceCtorEq, beq_true, imp_self, Qa8]
     ·simp only [rc10, rs10, g1, g4, g5, g6, g7, g8, hr, hw, ha, hC, hE, k1, j1, j2, hg, Qbx, Qaj, Qaa, Qab, Qae, Qac, Qa7, Qad, Qa6, Qa1, Fam.step, Qaf, Qb4, Qaz, ug, evO, opv, qv, Qai, binV, ldV, Qar, V.cells, Qap, Qa9, Qa5, flat, Qbt, Qa2, Qa0, Qa3, ↓reduceIte, Nat.reduceEqDiff, Nat.reduceAdd, Nat.reduceLT, Nat.reduceLeDiff, Int.reduceEq, Qd, Qg, Qq, Qs, Qc, Qe, Qf, Qp, Qb, Qo, Qm, Qh, Qk, Qn, Qv, endQ, rvs, rv1, resV, vw_i, vw_b, Qav, Qas, zipA, beq_self_eq_true, Qi, Ql, Qu, Q6, Qj, Qw, Qx, Qa, Qt, decide_true, decide_false, and_true, and_self, forall_const, implies_true, reduceCtorEq, beq_true, imp_self, Qa8]
    ·have hk1 : (Qc8 c l w).2 = 0 → ¬ k = 1 := fun h1 h2 => by
      have := (hgf h1 h2).1
      rw [hE] at this; cases this
     rcases hF with hF | hF
     ·rcases hg with hg | hg
      ·have := hk1 hg
       simp only [rc10, rs10, g1, g4, g5, g6, g7, g8, hr, hw, ha, hC, hE, hF, hg, this, Qbx, Qaj, Qaa, Qab, Qae, Qac, Qa7, Qad, Qa6, Qa1, Fam.step, Qaf, Qb4, Qaz, ug, evO, opv, qv, Qai, binV, ldV, Qar, V.cells, Qap, Qa9, Qa5, flat, Qbt, Qa2, Qa0, Qa3, ↓reduceIte, Nat.reduceEqDiff, Nat.reduceAdd, Nat.reduceLT, Nat.reduceLeDiff, Int.reduceEq, Qd, Qg, Qq, Qs, Qc, Qe, Qf, Qp, Qb, Qo, Qm, Qh, Qk, Qn, Qv, endQ, rvs, rv1, resV, vw_i, vw_b, Qav, Qas, zipA, beq_self_eq_true, Qi, Ql, Qu, Q9, Q6, Qj, Qw, Qx, Qa, Qt, decide_true, decide_false, decide_eq_true_eq, decide_eq_false_iff_not, true_and, and_true, and_self, false_and, and_false, forall_const, implies_true, reduceCtorEq, beq_true, beq_false, Qhl, imp_self, Qa8]
      ·simp only [rc10, rs10, g1, g4, g5, g6, g7, g8, hr, hw, ha, hC, hE, hF, hg, Qbx, Qaj, Qaa, Qab, Qae, Qac, Qa7, Qad, Qa6, Qa1, Fam.step, Qaf, Qb4, Qaz, ug, evO, opv, qv, Qai, binV, ldV, Qar, V.cells, Qap, Qa9, Qa5, flat, Qbt, Qa2, Qa0, Qa3, ↓reduceIte, Nat.reduceEqDiff, Nat.reduceAdd, Nat.reduceLT, Nat.reduceLeDiff, Int.reduceEq, Qd, Qg, Qq, Qs, Qc, Qe, Qf, Qp, Qb, Qo, Qm, Qh, Qk, Qn, Qv, endQ, rvs, rv1, resV, vw_i, vw_b, Qav, Qas, zipA, beq_self_eq_true, Qi, Ql, Qu, Q9, Q6, Qj, Qw, Qx, Qa, Qt, decide_true, decide_false, decide_eq_true_eq, decide_eq_false_iff_not, true_and, and_true, and_self, false_and, and_false, forall_const, implies_true, reduceCtorEq, beq_true, beq_false, Qhl, imp_self, Qa8]
     ·rcases hg with hg | hg
      ·have := hk1 hg
       simp only [rc10, rs10, g1, g4, g5, g6, g7, g8, hr, hw, ha, hC, hE, hF, hg, this, Qbx, Qaj, Qaa, Qab, Qae, Qac, Qa7, Qad, Qa6, Qa1, Fam.step, Qaf, Qb4, Qaz, ug, evO, opv, qv, Qai, binV, ldV, Qar, V.cells, Qap, Qa9, Qa5, flat, Qbt, Qa2, Qa0, Qa3, ↓reduceIte, Nat.reduceEqDiff, Nat.reduceAdd, Nat.reduceLT, Nat.reduceLeDiff, Int.reduceEq, Qd, Qg, Qq, Qs, Qc, Qe, Qf, Qp, Qb, Qo, Qm, Qh, Qk, Qn, Qv, endQ, rvs, rv1, resV, vw_i, vw_b, Qav, Qas, zipA, beq_self_eq_true, Qi, Ql, Qu, Q6, Qj, Qw, Qx, Qa, Qt, decide_true, decide_false, and_true, and_self, forall_const, implies_true, reduceCtorEq, beq_true, beq_false, imp_self, Qa8]
      ·simp only [rc10, rs10, g1, g4, g5, g6, g7, g8, hr, hw, ha, hC, hE, hF, hg, Qbx, Qaj, Qaa, Qab, Qae, Qac, Qa7, Qad, Qa6, Qa1, Fam.step, Qaf, Qb4, Qaz, ug, evO, opv, qv, Qai, binV, ldV, Qar, V.cells, Qap, Qa9, Qa5, flat, Qbt, Qa2, Qa0, Qa3, ↓reduceIte, Nat.reduceEqDiff, Nat.reduceAdd, Nat.reduceLT, Nat.reduceLeDiff, Int.reduceEq, Qd, Qg, Qq, Qs, Qc, Qe, Qf, Qp, Qb, Qo, Qm, Qh, Qk, Qn, Qv, endQ, rvs, rv1, resV, vw_i, vw_b, Qav, Qas, zipA, beq_self_eq_true, Qi, Ql, Qu, Q6, Qj, Qw, Qx, Qa, Qt, decide_true, decide_false, and_true, and_self, forall_const, implies_true, reduceCtorEq, beq_true, beq_false, imp_self, Qa8]
   ·simp only [rc10, rs10, g1, g4, g5, hr, hw, ha, hC, Qbx, Qaa, Qab, Qae, Qac, Qa7, Qad, Qa6, Qa1, Fam.step, Qaf, Qb4, Qaz, ug, evO, opv, qv, Qai, ldV, Qar, V.cells, Qap, Qa9, Qa5, flat, Qa2, Qa0, Qa3, ↓reduceIte, Nat.reduceEqDiff, Nat.reduceAdd, Nat.reduceLT, Nat.reduceLeDiff, Qd, Qg, Qq, Qs, Qc, Qe, Qf, Qp, Qb, Qo, Qm, Qh, endQ, rvs, rv1, resV, vw_i, vw_b, Qav, Qas, zipA, beq_self_eq_true, Qi, Ql, Qj, Qw, Qx, Qa, and_self, forall_const, implies_true, reduceCtorEq, Qa8]
  ·simp only [rc10, rs10, g1, g5, hr, hw, Qbx, Qaa, Qab, Qae, Qac, Qa7, Qad, Qa6, Qa1, Fam.step, Qaf, Qb4, Qaz, ug, evO, opv, qv, Qai, Qd2, ldV, Qar, V.cells, Qap, Qa9, Qa5, flat, Qa2, Qa0, Qa3, ↓reduceIte, Nat.reduceEqDiff, Nat.reduceAdd, Nat.reduceLT, Nat.reduceLeDiff, Qd, Qg, Qq, Qs, Qc, Qe, Qf, Qp, Qb, Qo, Qm, Qh, endQ, rvs, rv1, resV, vw_i, vw_b, Qav, Qas, zipA, beq_self_eq_true, Qi, Ql, Qu, Qj, Qw, Qx, Qa, Qt, true_and, and_true, and_self, false_and, forall_const, false_implies, implies_true, reduceCtorEq, beq_false, imp_self, Qa8]
 ·simp only [rc10, rs10, g1, hr, Qbx, Qaa, Qab, Qae, Qac, Qa7, Qad, Qa6, Qa1, Fam.step, Qaf, Qb4, Qaz, ug, evO, opv, qv, Qd2, ldV, Qar, V.cells, Qap, Qa9, Qa5, flat, Qa2, Qa0, Qa3, ↓reduceIte, Nat.reduceEqDiff, Nat.reduceAdd, Nat.reduceLT, Nat.reduceLeDiff, Qd, Qg, Qq, Qs, Qc, Qe, Qf, Qp, Qb, Qo, Qm, Qh, endQ, rvs, rv1, resV, vw_i, vw_b, Qav, Qas, zipA, Qi, Ql, Qu, Qj, Qw, Qx, Qa, Qt, true_and, and_true, and_self, false_and, forall_const, false_implies, implies_true, reduceCtorEq, beq_false, imp_self, Qa8]
def Qd0 (c : Cane) (less : Int) : Cane := ⟨c.spring, c.bents, c.wrong, c.limit, c.tire - less⟩
theorem Qit {c : Cane} (h : OkC c) {x : Int} (h1 : 0 ≤ x) (h2 : x ≤ c.tire) : OkC (Qd0 c x) :=
 ⟨h.low, h.le, h.high, h.spread, h.bents, h.bent, h.wrong, h.limit, by have := h.tire; show 0 ≤ c.tire - x ∧ c.tire - x ≤ 90; omega⟩
theorem Qkl (c : Cane) (x : Int) : Qa4 (Qd0 c x) = Qa4 c := rfl
theorem Qis {c : Cane} {x : Int} (h1 : 0 ≤ x) (i : Int) (hi : 0 ≤ i) : Qc2 c i ≤ Qc2 (Qd0 c x) i := by
 have h : 0 ≤ x * i := Int.mul_nonneg h1 hi
 unfold Qc2
 show min 90 (c.limit - c.tire * i) ≤ min 90 (c.limit - (c.tire - x) * i)
 rw [Int.sub_mul]
 omega
theorem Qof {c : Cane} (h : OkC c) {x : Int} (h1 : 0 ≤ x) (h2 : x ≤ c.tire) {l : List Int} (ha : areB c l = true) : areB (Qd0 c x) l = true := by
 rw [Qfa h] at ha
 rw [Qfa (Qit h h1 h2)]
 refine ⟨ha.1, fun i hi => ?_⟩
 have := ha.2 i hi
 have := Qis (c := c) h1 i (by omega)
 omega
theorem Qlz {c : Cane} (h : OkC c) {x : Int} (h1 : 0 ≤ x) (h2 : x ≤ c.tire) {l : List Int} (ha : areB c l = true) : Qbk (Qd0 c x) l = Qbk c l ∧ ((Qbk c l).2 = 0 ∨ (Qbk c l).2 = 3) := by
 have e1 := Qdo h (w := ⟨0, 0⟩) (by decide) ha
 have e2 := Qdo (Qit h h1 h2) (w := ⟨0, 0⟩) (by decide) (Qof h h1 h2 ha)
 rw [Qkl] at e2
 unfold Qbk
 rw [e1, e2]
 refine ⟨rfl, ?_⟩
 by_cases ht : Qa4 c = []
 ·rw [if_pos ht]; exact .inr rfl
 ·rw [if_neg ht]; exact .inl rfl
set_option maxRecDepth 100000 in
set_option maxHeartbeats 8000000 in
theorem P4 (c : Cane) (l : List Int) (w : Span) (x : Int) (hx : inI x) : Qah Try.prog 4 [.ag (Qa8 c), .ag [.sl 1 (l.map eI), .i w.low, .i w.high], .i x] (.b true) := by
 refine Qag okK2 hmix Try.func4 cb4 cc4 cs4 cn4 ?_
 have g1 := k22 c
 have g2 := Qol c l
 have g3 := k23 w
 have g4 := Qt9 c
 have g5 := Qnq c l
 have g6 := Qnq (Qd0 c x) l
 have g7 := k22 (Qd0 c x)
 have g8 := Qt7 c w
 have g9 := Qt7 (Qd0 c x) w
 have g10 := Qt8 c w
 have g11 := Qt8 (Qd0 c x) w
 unfold Qd0 Qa8 at g6 g7 g9 g11
 unfold Qa8 at g1 g2 g4 g5 g8 g10
 unfold Qan at g3 g5 g6 g8 g9 g10 g11
 by_cases hr : Qf3 c = true
 ·have hC := Qnb hr
  have hb : fewB c := by have := hC.bents; unfold fewB; omega
  by_cases hw : Qb5 w 540 = true
  ·by_cases ha : areB c l = true
   ·by_cases h1 : x < 0
    ·simp only [rc4, rs4, g1, g2, g3, hr, hw, ha, hC, h1, Qbx, Qaa, Qab, Qae, Qac, Qa7, Qad, Qa6, Qa1, Fam.step, Qaf, Qb4, Qaz, ug, evO, opv, qv, Qai, binV, ldV, Qar, V.cells, Qap, Qa9, Qa5, flat, Qa2, Qa0, Qa3, ↓reduceIte, Nat.reduceEqDiff, Nat.reduceAdd, Nat.reduceLT, Nat.reduceLeDiff, Qd, Qg, Qq, Qs, Qc, Qe, Qf, Qp, Qb, Qo, Qm, Qh, endQ, rvs, rv1, resV, vw_i, vw_b, Qav, Qas, zipA, beq_self_eq_true, Qi, Ql, Qu, Qj, Qw, Qa, Qt, decide_true, and_true, and_self, forall_const, implies_true, reduceCtorEq, beq_false, imp_self, Qa8]
    by_cases h2 : c.tire < x
    ·simp only [rc4, rs4, g1, g2, g3, hr, hw, ha, hC, h1, h2, Qbx, Qaa, Qab, Qae, Qac, Qa7, Qad, Qa6, Qa1, Fam.step, Qaf, Qb4, Qaz, ug, evO, opv, qv, Qai, binV, ldV, Qar, V.cells, Qap, Qa9, Qa5, flat, Qa2, Qa0, Qa3, ↓reduceIte, Nat.reduceEqDiff, Nat.reduceAdd, Nat.reduceLT, Nat.reduceLeDiff, Qd, Qg, Qq, Qs, Qc, Qe, Qf, Qp, Qb, Qo, Qm, Qh, endQ, rvs, rv1, resV, vw_i, vw_b, Qav, Qas, zipA, beq_self_eq_true, Qi, Ql, Qj, Qw, Qa, decide_true, decide_false, and_self, forall_const, implies_true, reduceCtorEq, Qa8]
    have ht := hC.tire
    have i1 : inI (c.tire - x) := by unfold inI; omega
    obtain ⟨a1, a2⟩ := Qlz hC (x := x) (by omega) (by omega) ha
    have hB : Qa4 c ≠ [] → Bett c (Qd0 c x) w w := fun hne => ⟨hC, Qit hC (by omega) (by omega), hw, hw, hne, fun k hk => hk, Qis (by omega), ⟨Zf _, Zf _⟩⟩
    have hfew : (fewR c w).2 = 0 → (fewR (Qd0 c x) w).2 = 0 ∧ (fewR (Qd0 c x) w).1 ≤ (fewR c w).1 := fun h0 => by
     rcases Qjp hC hw with h | ⟨_, hne, _⟩
     ·rw [h.1] at h0; cases h0
     ·exact (hB hne).few h0
    have hmeas : (Qbu c w).2.2 = 0 → (Qbu (Qd0 c x) w).2.2 = 0 ∧ (Qbu (Qd0 c x) w).1 ≤ (Qbu c w).1 := fun h0 => by
     rcases Qk4 hC hw with h | ⟨_, hne, _⟩
     ·rw [h.1] at h0; cases h0
     ·exact (hB hne).meas h0
    unfold Qd0 at a1 hfew hmeas
    by_cases hr2 : Qf3 (Qd0 c x) = true
    ·unfold Qd0 at hr2
     rcases a2 with a2 | a2
     ·by_cases hE : (fewR c w).2 = 0
      ·obtain ⟨k1, k2⟩ := hfew hE
       by_cases hF : (Qbu c w).2.2 = 0
       ·obtain ⟨k3, k4⟩ := hmeas hF
        simp only [rc4, rs4, g1, g2, g3, g4, g5, g6, g7, g8, g9, g10, g11, hr, hw, ha, hC, h1, h2, i1, hb, a1, a2, eq23, Qbx, hr2, hE, hF, k1, k2, k3, k4, Qaj, Qaa, Qab, Qae, Qac, Qa7, putB, Qad, Qa6, Qa1, Fam.step, Qaf, Qbf, Qb4, Qaw, Qaz, ug, putB, nv, sv, evO, opv, qv, Qai, binV, ldV, curG, Qar, putAt, V.cells, Qap, Qb2, Qbm, Qa9, Qa5, flat, Qbt, Qa2, Qau, Qa0, Qa3, ↓reduceIte, Nat.reduceEqDiff, Nat.reduceAdd, Nat.reduceLT, Nat.reduceLeDiff, Int.reduceEq, Qd, Qg, Qq, Qs, Qc, Qe, Qf, Qp, Q5, Qb, Q2, Qo, Qm, Q3, Qy, Qh, Qk, Qn, Qv, Q0, Q7, endQ, rvs, rv1, resV, vw_i, vw_b, Qav, Qas, zipA, beq_self_eq_true, Qi, Ql, Qu, Q6, Qj, Qw, Qx, Qa, Qt, decide_true, decide_false, and_true, and_self, forall_const, implies_true, reduceCtorEq, Q4, beq_true, Zj, imp_self, Qa8]
       ·simp only [rc4, rs4, g1, g2, g3, g4, g5, g6, g7, g8, g9, g10, g11, hr, hw, ha, hC, h1, h2, i1, hb, a1, a2, eq23, Qbx, hr2, hE, hF, k1, k2, Qaj, Qaa, Qab, Qae, Qac, Qa7, putB, Qad, Qa6, Qa1, Fam.step, Qaf, Qbf, Qb4, Qaw, Qaz, ug, putB, nv, sv, evO, opv, qv, Qai, binV, ldV, curG, Qar, putAt, V.cells, Qap, Qb2, Qbm, Qa9, Qa5, flat, Qbt, Qa2, Qau, Qa0, Qa3, ↓reduceIte, Nat.reduceEqDiff, Nat.reduceAdd, Nat.reduceLT, Nat.reduceLeDiff, Int.reduceEq, Qd, Qg, Qq, Qs, Qc, Qe, Qf, Qp, Q5, Qb, Q2, Qo, Qm, Q3, Qy, Qh, Qk, Qn, Qv, Q0, Q7, endQ, rvs, rv1, resV, vw_i, vw_b, Qav, Qas, zipA, beq_self_eq_true, Qi, Ql, Qu, Q9, Q6, Qj, Qw, Qx, Qa, Qt, decide_true, decide_false, decide_eq_true_eq, decide_eq_false_iff_not, and_true, and_self, false_and, forall_const, implies_true, reduceCtorEq, Q4, beq_true, beq_false, Qdi, Zj, imp_self, Qa8]
      ·by_cases hF : (Qbu c w).2.2 = 0
       ·obtain ⟨k3, k4⟩ := hmeas hF
        simp only [rc4, rs4, g1, g2, g3, g4, g5, g6, g7, g8, g9, g10, g11, hr, hw, ha, hC, h1, h2, i1, hb, a1, a2, eq23, Qbx, hr2, hE, hF, k3, k4, Qaj, Qaa, Qab, Qae, Qac, Qa7, putB, Qad, Qa6, Qa1, Fam.step, Qaf, Qbf, Qb4, Qaw, Qaz, ug, putB, nv, sv, evO, opv, qv, Qai, binV, ldV, curG, Qar, putAt, V.cells, Qap, Qb2, Qbm, Qa9, Qa5, flat, Qbt, Qa2, Qau, Qa0, Qa3, ↓reduceIte, Nat.reduceEqDiff, Nat.reduceAdd, Nat.reduceLT, Nat.reduceLeDiff, Int.reduceEq, Qd, Qg, Qq, Qs, Qc, Qe, Qf, Qp, Q5, Qb, Q2, Qo, Qm, Q3, Qy, Qh, Qk, Qn, Qv, Q0, Q7, endQ, rvs, rv1, resV, vw_i, vw_b, Qav, Qas, zipA, beq_self_eq_true, Qi, Ql, Qu, Q9, Q6, Qj, Qw, Qx, Qa, Qt, decide_true, decide_false, decide_eq_true_eq, decide_eq_false_iff_not, and_true, and_self, false_and, forall_const, implies_true, reduceCtorEq, Q4, beq_true, beq_false, Qdi, Zj, imp_self, Qa8]
       ·simp only [rc4, rs4, g1, g2, g3, g4, g5, g6, g7, g8, g9, g10, g11, hr, hw, ha, hC, h1, h2, i1, hb, a1, a2, eq23, Qbx, hr2, hE, hF, Qaj, Qaa, Qab, Qae, Qac, Qa7, putB, Qad, Qa6, Qa1, Fam.step, Qaf, Qbf, Qb4, Qaw, Qaz, ug, putB, nv, sv, evO, opv, qv, Qai, binV, ldV, curG, Qar, putAt, V.cells, Qap, Qb2, Qbm, Qa9, Qa5, flat, Qbt, Qa2, Qau, Qa0, Qa3, ↓reduceIte, Nat.reduceEqDiff, Nat.reduceAdd, Nat.reduceLT, Nat.reduceLeDiff, Int.reduceEq, Qd, Qg, Qq, Qs, Qc, Qe, Qf, Qp, Q5, Qb, Q2, Qo, Qm, Q3, Qy, Qh, Qk, Qn, Qv, Q0, Q7, endQ, rvs, rv1, resV, vw_i, vw_b, Qav, Qas, zipA, beq_self_eq_true, Qi, Ql, Qu, Q9, Q6, Qj, Qw, Qx, Qa, Qt, decide_true, decide_false, decide_eq_true_eq, decide_eq_false_iff_not, and_true, and_self, false_and, forall_const, implies_true, reduceCtorEq, Q4, beq_true, beq_false, Qdi, Zj, imp_self, Qa8]
     ·by_cases hE : (fewR c w).2 = 0
      ·obtain ⟨k1, k2⟩ := hfew hE
       by_cases hF : (Qbu c w).2.2 = 0
       ·obtain ⟨k3, k4⟩ := hmeas hF
        simp only [rc4, rs4, g1, g2, g3, g4, g5, g6, g7, g8, g9, g10, g11, hr, hw, ha, hC, h1, h2, i1, hb, a1, a2, eq23, Qbx, hr2, hE, hF, k1, k2, k3, k4, Qaj, Qaa, Qab, Qae, Qac, Qa7, putB, Qad, Qa6, Qa1, Fam.step, Qaf, Qbf, Qb4, Qaw, Qaz, ug, putB, nv, sv, evO, opv, qv, Qai, binV, ldV, curG, Qar, putAt, V.cells, Qap, Qb2, Qbm, Qa9, Qa5, flat, Qbt, Qa2, Qau, Qa0, Qa3, ↓reduceIte, Nat.reduceEqDiff, Nat.reduceAdd, Nat.reduceLT, Nat.reduceLeDiff, Int.reduceEq, Qd, Qg, Qq, Qs, Qc, Qe, Qf, Qp, Q5, Qb, Q2, Qo, Qm, Q3, Qy, Qh, Qk, Qn, Qv, Q0, Q7, endQ, rvs, rv1, resV, vw_i, vw_b, Qav, Qas, zipA, beq_self_eq_true, Qi, Ql, Qu, Q6, Qj, Qw, Qx, Qa, Qt, decide_true, decide_false, and_self, forall_const, implies_true, reduceCtorEq, Q4, Zj, imp_self, Qa8]
       ·simp only [rc4, rs4, g1, g2, g3, g4, g5, g6, g7, g8, g9, g10, g11, hr, hw, ha, hC, h1, h2, i1, hb, a1, a2, eq23, Qbx, hr2, hE, hF, k1, k2, Qaj, Qaa, Qab, Qae, Qac, Qa7, putB, Qad, Qa6, Qa1, Fam.step, Qaf, Qbf, Qb4, Qaw, Qaz, ug, putB, nv, sv, evO, opv, qv, Qai, binV, ldV, curG, Qar, putAt, V.cells, Qap, Qb2, Qbm, Qa9, Qa5, flat, Qbt, Qa2, Qau, Qa0, Qa3, ↓reduceIte, Nat.reduceEqDiff, Nat.reduceAdd, Nat.reduceLT, Nat.reduceLeDiff, Int.reduceEq, Qd, Qg, Qq, Qs, Qc, Qe, Qf, Qp, Q5, Qb, Q2, Qo, Qm, Q3, Qy, Qh, Qk, Qn, Qv, Q0, Q7, endQ, rvs, rv1, resV, vw_i, vw_b, Qav, Qas, zipA, beq_self_eq_true, Qi, Ql, Qu, Q9, Q6, Qj, Qw, Qx, Qa, Qt, decide_true, decide_false, decide_eq_true_eq, decide_eq_false_iff_not, and_true, and_self, false_and, forall_const, implies_true, reduceCtorEq, Q4, beq_true, beq_false, Qdi, Zj, imp_self, Qa8]
      ·by_cases hF : (Qbu c w).2.2 = 0
       ·obtain ⟨k3, k4⟩ := hmeas hF
        simp only [rc4, rs4, g1, g2, g3, g4, g5, g6, g7, g8, g9, g10, g11, hr, hw, ha, hC, h1, h2, i1, hb, a1, a2, eq23, Qbx, hr2, hE, hF, k3, k4, Qaj, Qaa, Qab, Qae, Qac, Qa7, putB, Qad, Qa6, Qa1, Fam.step, Qaf, Qbf, Qb4, Qaw, Qaz, ug, putB, nv, sv, evO, opv, qv, Qai, binV, ldV, curG, Qar, putAt, V.cells, Qap, Qb2, Qbm, Qa9, Qa5, flat, Qbt, Qa2, Qau, Qa0, Qa3, ↓reduceIte, Nat.reduceEqDiff, Nat.reduceAdd, Nat.reduceLT, Nat.reduceLeDiff, Int.reduceEq, Qd, Qg, Qq, Qs, Qc, Qe, Qf, Qp, Q5, Qb, Q2, Qo, Qm, Q3, Qy, Qh, Qk, Qn, Qv, Q0, Q7, endQ, rvs, rv1, resV, vw_i, vw_b, Qav, Qas, zipA, beq_self_eq_true, Qi, Ql, Qu, Q9, Q6, Qj, Qw, Qx, Qa, Qt, decide_true, decide_false, decide_eq_true_eq, decide_eq_false_iff_not, and_true, and_self, false_and, forall_const, implies_true, reduceCtorEq, Q4, beq_true, beq_false, Qdi, Zj, imp_self, Qa8]
       ·simp only [rc4, rs4, g1, g2, g3, g4, g5, g6, g7, g8, g9, g10, g11, hr, hw, ha, hC, h1, h2, i1, hb, a1, a2, eq23, Qbx, hr2, hE, hF, Qaj, Qaa, Qab, Qae, Qac, Qa7, putB, Qad, Qa6, Qa1, Fam.step, Qaf, Qbf, Qb4, Qaw, Qaz, ug, putB, nv, sv, evO, opv, qv, Qai, binV, ldV, curG, Qar, putAt, V.cells, Qap, Qb2, Qbm, Qa9, Qa5, flat, Qbt, Qa2, Qau, Qa0, Qa3, ↓reduceIte, Nat.reduceEqDiff, Nat.reduceAdd, Nat.reduceLT, Nat.reduceLeDiff, Int.reduceEq, Qd, Qg, Qq, Qs, Qc, Qe, Qf, Qp, Q5, Qb, Q2, Qo, Qm, Q3, Qy, Qh, Qk, Qn, Qv, Q0, Q7, endQ, rvs, rv1, resV, vw_i, vw_b, Qav, Qas, zipA, beq_self_eq_true, Qi, Ql, Qu, Q9, Q6, Qj, Qw, Qx, Qa, Qt, decide_true, decide_false, decide_eq_true_eq, decide_eq_false_iff_not, and_true, and_self, false_and, forall_const, implies_true, reduceCtorEq, Q4, beq_true, beq_false, Qdi, Zj, imp_self, Qa8]
    ·unfold Qd0 at hr2
     rcases a2 with a2 | a2
     ·simp only [rc4, rs4, g1, g2, g3, g4, g5, g6, g7, hr, hw, ha, hC, h1, h2, i1, hb, a1, a2, eq23, Qbx, hr2, Qaj, Qaa, Qab, Qae, Qac, Qa7, putB, Qad, Qa6, Qa1, Fam.step, Qaf, Qbf, Qb4, Qaw, Qaz, ug, putB, nv, sv, evO, opv, qv, Qai, binV, ldV, curG, Qar, putAt, V.cells, Qap, Qb2, Qbm, Qa9, Qa5, flat, Qbt, Qa2, Qau, Qa0, Qa3, ↓reduceIte, Nat.reduceEqDiff, Nat.reduceAdd, Nat.reduceLT, Nat.reduceLeDiff, Int.reduceEq, Qd, Qg, Qq, Qs, Qc, Qe, Qf, Qp, Q5, Qb, Q2, Qo, Qm, Q3, Qy, Qh, Qk, Qn, Qv, Q0, Q7, endQ, rvs, rv1, resV, vw_i, vw_b, Qav, Qas, zipA, beq_self_eq_true, Qi, Ql, Qu, Q6, Qj, Qw, Qx, Qa, decide_true, decide_false, and_true, and_self, forall_const, implies_true, reduceCtorEq, Q4, beq_true, Zj, imp_self, Qa8]
     ·simp only [rc4, rs4, g1, g2, g3, g4, g5, g6, g7, hr, hw, ha, hC, h1, h2, i1, hb, a1, a2, eq23, Qbx, hr2, Qaj, Qaa, Qab, Qae, Qac, Qa7, putB, Qad, Qa6, Qa1, Fam.step, Qaf, Qbf, Qb4, Qaw, Qaz, ug, putB, nv, sv, evO, opv, qv, Qai, binV, ldV, curG, Qar, putAt, V.cells, Qap, Qb2, Qbm, Qa9, Qa5, flat, Qbt, Qa2, Qau, Qa0, Qa3, ↓reduceIte, Nat.reduceEqDiff, Nat.reduceAdd, Nat.reduceLT, Nat.reduceLeDiff, Int.reduceEq, Qd, Qg, Qq, Qs, Qc, Qe, Qf, Qp, Q5, Qb, Q2, Qo, Qm, Q3, Qy, Qh, Qk, Qn, Qv, Q0, Q7, endQ, rvs, rv1, resV, vw_i, vw_b, Qav, Qas, zipA, beq_self_eq_true, Qi, Ql, Qu, Q6, Qj, Qw, Qx, Qa, Qt, decide_true, decide_false, and_self, forall_const, implies_true, reduceCtorEq, Q4, Zj, imp_self, Qa8]
   ·simp only [rc4, rs4, g1, g2, g3, hr, hw, ha, hC, Qbx, Qaa, Qab, Qae, Qac, Qa7, Qad, Qa6, Qa1, Fam.step, Qaf, Qb4, Qaz, ug, evO, opv, qv, Qai, binV, ldV, Qar, V.cells, Qap, Qa9, Qa5, flat, Qa2, Qa0, Qa3, ↓reduceIte, Nat.reduceEqDiff, Nat.reduceAdd, Nat.reduceLT, Nat.reduceLeDiff, Qd, Qg, Qq, Qs, Qc, Qe, Qf, Qp, Qb, Qo, Qm, Qh, endQ, rvs, rv1, resV, vw_i, vw_b, Qav, Qas, zipA, beq_self_eq_true, Qi, Ql, Qu, Qj, Qw, Qx, Qa, Qt, and_true, and_self, forall_const, implies_true, reduceCtorEq, beq_false, imp_self, Qa8]
  ·simp only [rc4, rs4, g1, g3, hr, hw, Qbx, Qaa, Qab, Qae, Qac, Qa7, Qad, Qa6, Qa1, Fam.step, Qaf, Qb4, Qaz, ug, evO, opv, qv, Qai, Qd2, binV, ldV, Qar, V.cells, Qap, Qa9, Qa5, flat, Qa2, Qa0, Qa3, ↓reduceIte, Nat.reduceEqDiff, Nat.reduceAdd, Nat.reduceLT, Nat.reduceLeDiff, Qd, Qg, Qq, Qs, Qc, Qe, Qf, Qp, Qb, Qo, Qm, Qh, endQ, rvs, rv1, resV, vw_i, vw_b, Qav, Qas, zipA, beq_self_eq_true, Qi, Ql, Qu, Qj, Qw, Qx, Qa, Qt, true_and, and_true, and_self, false_and, forall_const, false_implies, implies_true, reduceCtorEq, beq_false, imp_self, Qa8]
 ·simp only [rc4, rs4, g1, hr, Qbx, Qaa, Qab, Qae, Qac, Qa7, Qad, Qa6, Qa1, Fam.step, Qaf, Qb4, Qaz, ug, evO, opv, qv, Qai, Qd2, binV, ldV, Qar, V.cells, Qap, Qa9, Qa5, flat, Qa2, Qa0, Qa3, ↓reduceIte, Nat.reduceEqDiff, Nat.reduceAdd, Nat.reduceLT, Nat.reduceLeDiff, Qd, Qg, Qq, Qs, Qc, Qe, Qf, Qp, Qb, Qo, Qm, Qh, endQ, rvs, rv1, resV, vw_i, vw_b, Qav, Qas, zipA, Qi, Ql, Qu, Qj, Qw, Qx, Qa, Qt, true_and, and_true, and_self, false_and, forall_const, false_implies, implies_true, reduceCtorEq, beq_false, imp_self, Qa8]
end Go.C06
